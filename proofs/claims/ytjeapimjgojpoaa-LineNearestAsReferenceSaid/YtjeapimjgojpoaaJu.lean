/- Lines of the reference: 'Nearest'. -/
import Derived.Test.YtjeapimjgojpoaaJt
set_option linter.unusedSimpArgs false
set_option linter.unusedVariables false
set_option maxRecDepth 100000
namespace Go.Proofs.Ytjeapimjgojpoaa
open Go.RowKit
namespace G

theorem rnear_lim (A : Option Addr) (c n : Nat) (px py : Int) (w : World) (hn : 400 < n) :
    Calls Try.prog 13 #[.slice A n c, .agg #[.int .i64 px, .int .i64 py]] w fun e w' => e = .returned (.tuple #[.int .i64 0, .int .i64 2]) ∧ Below w.heap.size w w' := by
  have hn' : (400 : Int) < (n : Int) := by omega
  go_enter Try.func13, Try.ntmps13
  go_wp2_with fail
  go_ret2
  exact ⟨rfl, (Below.refl _ _).alloc (Nat.le_refl _) _⟩
theorem rnear_zero (A : Option Addr) (c : Nat) (px py : Int) (w : World) :
    Calls Try.prog 13 #[.slice A 0 c, .agg #[.int .i64 px, .int .i64 py]] w fun e w' => e = .returned (.tuple #[.int .i64 0, .int .i64 1]) ∧ Below w.heap.size w w' := by
  go_enter Try.func13, Try.ntmps13
  go_wp2_with fail
  go_ret2
  exact ⟨rfl, (Below.refl _ _).alloc (Nat.le_refl _) _⟩
theorem rnear_off (A : Option Addr) (c n : Nat) (px py : Int) (w : World) (hn : n ≤ 400) (h0 : 0 < n) (hon : onB px py = false) :
    Calls Try.prog 13 #[.slice A n c, .agg #[.int .i64 px, .int .i64 py]] w fun e w' => e = .returned (.tuple #[.int .i64 0, .int .i64 1]) ∧ Below w.heap.size w w' := by
  have HON := Lib.hid (fun W => ron_any px py W)
  rw [hon] at HON
  have hn' : ¬ (400 : Int) < (n : Int) := by omega
  have hd1 : ((n : Int) == 0) = false := by rw [beq_eq_false_iff_ne]; omega
  clear hon hn h0
  go_enter Try.func13, Try.ntmps13
  go_wp2_with fail
  (with_reducible refine (HON.out _).mono ?_); rintro e w1 ⟨rfl, hb1⟩
  have HB := Lib.hid (((Below.refl w.heap.size w).alloc (Nat.le_refl _) _).trans (hb1.mono (by simp)))
  clear hb1 HON
  go_wp2_with fail
  go_ret2
  exact ⟨rfl, HB.out⟩
theorem goodN_succ (L : List Ln) (k : Nat) : goodN L (k + 1) = (goodN L k && validL (ln L k).l) := rfl
set_option maxHeartbeats 16000000 in
theorem rnear_main (A : Option Addr) (c : Nat) (L : List Ln) (px py : Int) (w : World) (hl : LinesAt w A L) (hn : L.length ≤ 400) (h0 : 0 < L.length) (hon : onB px py = true) (R E : Int) (hRt : goodL L = true → R = ((nearN L px py L.length).1 : Int) ∧ E = 0) (hRf : goodL L = false → R = 0 ∧ E = 1) :
    Calls Try.prog 13 #[.slice A L.length c, .agg #[.int .i64 px, .int .i64 py]] w fun e w' => e = .returned (.tuple #[.int .i64 R, .int .i64 E]) ∧ Below w.heap.size w w' := by
  have HL := Lib.hid hl
  have HON := Lib.hid (fun W => ron_any px py W)
  rw [hon] at HON
  have HNX := Lib.hid (And.intro hn h0)
  obtain ⟨n, hnL⟩ : ∃ n, n = L.length := ⟨_, rfl⟩
  have hgl : goodL L = goodN L n := by rw [hnL]; rfl
  rw [hgl] at hRt hRf
  rw [← hnL] at hn h0 hRt ⊢
  have HR := Lib.hid (And.intro hRt hRf)
  have HNL := Lib.hid hnL
  have hn' : ¬ (400 : Int) < (n : Int) := by omega
  have hd1 : ((n : Int) == 0) = false := by rw [beq_eq_false_iff_ne]; omega
  clear hl hon hn hnL hgl hRt hRf
  go_enter Try.func13, Try.ntmps13
  go_wp2_with fail
  (with_reducible refine (HON.out _).mono ?_); rintro e w1 ⟨rfl, hb1⟩
  have HB := Lib.hid (((Below.refl w.heap.size w).alloc (Nat.le_refl _) _).trans (hb1.mono (by simp)))
  have k3 := Reg.Blk.new1 hb1
  have HK3 := Lib.hid k3
  clear hb1 HON k3
  go_wp2_with fail
  go_loopw [6] (fun i wr => ∃ k : Nat, k ≤ n ∧ i = .int .i64 k ∧ goodN L k = true ∧ Below w.heap.size w wr ∧ Reg.Blk w.heap.size #[.int .i64 px, .int .i64 py] 24 wr) (fun i _ => n - (intOf i).toNat)
  case atStart => exact ⟨0, Nat.zero_le _, rfl, rfl, HB.out, HK3.out⟩
  case round =>
    obtain ⟨k, hk, rfl, hgd, hbw, hk3⟩ := hrel
    clear HB HK3
    have HB := Lib.hid hbw
    have HK3 := Lib.hid hk3
    have HG := Lib.hid hgd
    clear hbw hk3 hgd
    by_cases hlt : k < n
    · obtain ⟨b, off, hA, hb, c0, hl, hln⟩ := (HL.out.below HB.out) k (by rw [← HNL.out]; exact hlt)
      have hki : (k : Int) < (n : Int) := by omega
      have hk0 : (0 : Int) ≤ (k : Int) := by omega
      have hq := rvalid_line (ln L k).A (ln L k).c (ln L k).l wr hl hln
      have HS := Lib.hid (goodN_succ L k)
      generalize (ln L k).A = A' at *
      generalize (ln L k).c = c' at *
      have HF : Hid (validL (ln L k).l = false → goodN L n = false) := fun h => goodN_false h n hlt
      generalize (ln L k).l = l' at *
      subst hA
      have hji : decide ((k : Int) < (n : Int)) = true := decide_eq_true hki
      cases hv : validL l' with
      | false =>
        rw [hv] at hq
        have HQ := Lib.hid hq
        have hgn := HF.out hv
        have HGN := Lib.hid hgn
        clear hq hv hgn hl hln
        go_wp2_with fail
        (with_reducible refine HQ.out.mono ?_); rintro e w2 ⟨rfl, hb2⟩
        replace HB := Lib.hid (HB.out.trans (hb2.mono HB.out.size))
        clear hb2 HQ
        go_wp2_with fail
        go_ret2
        exact ⟨by rw [(HR.out.2 HGN.out).1, (HR.out.2 HGN.out).2]; rfl, HB.out⟩
      | true =>
        rw [hv] at hq HS
        have HQ := Lib.hid hq
        clear hq hv hl hln
        go_wp2_with fail
        (with_reducible refine HQ.out.mono ?_); rintro e w2 ⟨rfl, hb2⟩
        replace HB := Lib.hid (HB.out.trans (hb2.mono HB.out.size))
        replace HK3 := Lib.hid (HK3.out.keep hb2)
        clear hb2 HQ
        go_wp2_with fail
        exact ⟨⟨k + 1, hlt, rfl, by rw [HS.out, HG.out]; rfl, HB.out, HK3.out⟩, by simp [intOf]; omega⟩
    · obtain rfl : k = n := by omega
      have hji : decide ((k : Int) < (k : Int)) = false := decide_eq_false (by omega)
      obtain ⟨b, off, hA, hb, c0, hl, hln⟩ := (HL.out.below HB.out) 0 HNX.out.2
      rw [Nat.add_zero] at c0
      have hLoc := fun W (h : Below wr.heap.size wr W) => rlocate_any (ln L 0).A (ln L 0).c (ln L 0).l px py W (hl.below h) hln
      have hn1 : nearN L px py 1 = (0, locS (ln L 0).l px py) := rfl
      generalize (ln L 0).A = A' at *
      generalize (ln L 0).c = c' at *
      generalize (ln L 0).l = l' at *
      generalize locE l' px py = er at *
      generalize locS l' px py = sp at *
      obtain ⟨s1, s2, s3, s4, s5, s6⟩ := sp
      simp only [Spt.cells] at hLoc
      have HLoc := Lib.hid hLoc
      have HN1 := Lib.hid hn1
      have hk0 : (0 : Int) < (k : Int) := by omega
      have hk0' : 1 ≤ k := by omega
      obtain ⟨c3, f3, z3⟩ := HK3.out.facts
      subst hA
      clear hl hln hLoc hn1
      go_wp2_with fail
      refine Reg.wp_region_seq (by kernel_rfl) (by kernel_rfl) ?_
      simp only
      iterate 8
        apply Reg.SeqOK.val
        · intro γ W hW K hK
          obtain ⟨hc, hf, _⟩ := bcell hW
          simp only [Act.put, List.setIfInBounds_toArray, List.set_cons_zero, List.set_cons_succ] at hK
          unfold Reg.Does
          go_simp
          try simp only [IntWalk.i64_left]
          first
            | exact hK _ (Below.refl _ _)
            | (go_at_call 23; (with_reducible refine (HLoc.out _ hW).mono ?_); rintro e w' ⟨rfl, hb⟩; exact hK _ hb)
            | (trace_state; fail)
        simp only [Act.put, List.setIfInBounds_toArray, List.set_cons_zero, List.set_cons_succ, List.nil_append, List.cons_append, Nat.reduceAdd, Nat.zero_add]
      iterate 1
        apply Reg.SeqOK.box
        · intro γ W hW K hK
          simp only [Act.put, List.setIfInBounds_toArray, List.set_cons_zero, List.set_cons_succ] at hK
          unfold Reg.Does
          go_simp
          exact hK
        simp only [Act.put, List.setIfInBounds_toArray, List.set_cons_zero, List.set_cons_succ, List.nil_append, List.cons_append, Nat.reduceAdd, Nat.zero_add]
      refine Reg.SeqOK.st 8 _ _ _ rfl (by kernel_rfl) ?_ ?_
      · intro γ W hW hge hat K hK
        obtain ⟨hcl, hfr⟩ := Reg.cells_at hat
        simp only [Act.put, List.setIfInBounds_toArray, List.set_cons_zero, List.set_cons_succ] at hK
        unfold Reg.Does
        go_simp
        exact hK _ (Reg.upd6 hat)
      simp only [Act.put, List.setIfInBounds_toArray, List.set_cons_zero, List.set_cons_succ, List.nil_append, List.cons_append, Nat.reduceAdd, Nat.zero_add]
      iterate 1
        apply Reg.SeqOK.val
        · intro γ W hW K hK
          obtain ⟨hc, hf, _⟩ := bcell hW
          simp only [Act.put, List.setIfInBounds_toArray, List.set_cons_zero, List.set_cons_succ] at hK
          unfold Reg.Does
          go_simp
          try simp only [IntWalk.i64_left]
          first
            | exact hK _ (Below.refl _ _)
            | (trace_state; fail)
        simp only [Act.put, List.setIfInBounds_toArray, List.set_cons_zero, List.set_cons_succ, List.nil_append, List.cons_append, Nat.reduceAdd, Nat.zero_add]
      refine Reg.SeqOK.nil (by kernel_rfl) (fun γ W5 hW hBx _ _ => ?_)
      simp only [Reg.Boxes, and_true, true_and, Nat.reduceAdd, Nat.zero_add] at hBx
      obtain ⟨l8, _, at0⟩ := hBx
      generalize γ 8 = g8 at *
      have hg8 : w.heap.size < g8 := Nat.lt_of_lt_of_le HK3.out.lt l8
      replace HB := Lib.hid (HB.out.trans (hW.mono HB.out.size))
      replace HK3 := Lib.hid (HK3.out.keep hW)
      have HK8 : Hid (Reg.Blk g8 _ _ W5) := at0
      clear hW at0 c3 f3 z3 c0 hb l8
      go_wp2_with fail
      have HRk := Lib.hid (HR.out.1 HG.out)
      clear HG HR
      go_loopw [7, 10] (fun b i wr => ∃ q : Nat, 1 ≤ q ∧ q ≤ k ∧ i = .int .i64 q ∧ b = .int .i64 ((nearN L px py q).1 : Nat) ∧ Below w.heap.size w wr ∧ Reg.Blk w.heap.size #[.int .i64 px, .int .i64 py] 24 wr ∧ Reg.Blk g8 (nearN L px py q).2.cells 34 wr) (fun _ i _ => k - (intOf i).toNat)
      case atStart => exact ⟨1, Nat.le_refl _, hk0', rfl, by rw [HN1.out]; rfl, HB.out, HK3.out, by rw [HN1.out]; exact HK8.out⟩
      case round =>
        clear HB HK3 HK8
        obtain ⟨q, hq1, hqk, rfl, rfl, hbw, hk3, hk8⟩ := hrel
        have HB := Lib.hid hbw
        have HK3 := Lib.hid hk3
        clear hbw hk3
        by_cases hlt : q < k
        · obtain ⟨b', off', hA, hb, c0, hl, hln⟩ := (HL.out.below HB.out) q (by rw [← HNL.out]; exact hlt)
          have hLoc := fun W (h : Below wr.heap.size wr W) => rlocate_any (ln L q).A (ln L q).c (ln L q).l px py W (hl.below h) hln
          have hNs : nearN L px py (q + 1) = if (decide (q = 0) || (locS (ln L q).l px py).less (nearN L px py q).2) = true then (q, locS (ln L q).l px py) else nearN L px py q := rfl
          rw [decide_eq_false (show ¬ q = 0 by omega), Bool.false_or] at hNs
          have hsB := locS_B (ln L q).l px py
          have hnB := nearN_B L px py q
          generalize (ln L q).A = A' at *
          generalize (ln L q).c = c' at *
          generalize (ln L q).l = l' at *
          generalize locE l' px py = er at *
          generalize locS l' px py = sp at *
          generalize nearN L px py q = nr at *
          obtain ⟨bi, nr⟩ := nr
          obtain ⟨s1, s2, s3, s4, s5, s6⟩ := sp
          obtain ⟨n1, n2, n3, n4, n5, n6⟩ := nr
          simp only [Spt.cells] at hLoc hk8 hsB hnB ⊢
          have HC := Lib.hid (fun W => rcompare_any s5 s6 n5 n6 W hsB.1 hsB.2 hnB.1 hnB.2)
          unfold Spt.less at hNs
          simp only at hNs
          have HNs := Lib.hid hNs
          have HK8 := Lib.hid hk8
          have HLoc := Lib.hid hLoc
          generalize compareI s5 s6 n5 n6 = cr at *
          obtain ⟨cr1, cr2⟩ := cr
          simp only at HNs HC
          have hqi : (q : Int) < (k : Int) := by omega
          have hq0 : (0 : Int) ≤ (q : Int) := by omega
          have hji : decide ((q : Int) < (k : Int)) = true := decide_eq_true hqi
          obtain ⟨c3, f3, z3⟩ := HK3.out.facts
          obtain ⟨rfl, rfl⟩ : b = b' ∧ off = off' := by injection hA with h; injection h with h1 h2; exact ⟨h1, h2⟩
          clear hA
          clear hl hln hLoc hNs hsB hnB hk8
          go_wp2_with fail
          refine Reg.wp_region_seq (by kernel_rfl) (by kernel_rfl) ?_
          simp only
          iterate 9
            apply Reg.SeqOK.val
            · intro γ W hW K hK
              obtain ⟨hc, hf, _⟩ := bcell hW
              simp only [Act.put, List.setIfInBounds_toArray, List.set_cons_zero, List.set_cons_succ] at hK
              unfold Reg.Does
              go_simp
              try simp only [IntWalk.i64_left]
              first
                | exact hK _ (Below.refl _ _)
                | (go_at_call 23; (with_reducible refine (HLoc.out _ hW).mono ?_); rintro e w' ⟨rfl, hb⟩; exact hK _ hb)
                | (trace_state; fail)
            simp only [Act.put, List.setIfInBounds_toArray, List.set_cons_zero, List.set_cons_succ, List.nil_append, List.cons_append, Nat.reduceAdd, Nat.zero_add]
          iterate 1
            apply Reg.SeqOK.box
            · intro γ W hW K hK
              simp only [Act.put, List.setIfInBounds_toArray, List.set_cons_zero, List.set_cons_succ] at hK
              unfold Reg.Does
              go_simp
              exact hK
            simp only [Act.put, List.setIfInBounds_toArray, List.set_cons_zero, List.set_cons_succ, List.nil_append, List.cons_append, Nat.reduceAdd, Nat.zero_add]
          refine Reg.SeqOK.st 9 _ _ _ rfl (by kernel_rfl) ?_ ?_
          · intro γ W hW hge hat K hK
            obtain ⟨hcl, hfr⟩ := Reg.cells_at hat
            simp only [Act.put, List.setIfInBounds_toArray, List.set_cons_zero, List.set_cons_succ] at hK
            unfold Reg.Does
            go_simp
            exact hK _ (Reg.upd6 hat)
          simp only [Act.put, List.setIfInBounds_toArray, List.set_cons_zero, List.set_cons_succ, List.nil_append, List.cons_append, Nat.reduceAdd, Nat.zero_add]
          iterate 1
            apply Reg.SeqOK.val
            · intro γ W hW K hK
              obtain ⟨hc, hf, _⟩ := bcell hW
              simp only [Act.put, List.setIfInBounds_toArray, List.set_cons_zero, List.set_cons_succ] at hK
              unfold Reg.Does
              go_simp
              try simp only [IntWalk.i64_left]
              first
                | exact hK _ (Below.refl _ _)
                | (trace_state; fail)
            simp only [Act.put, List.setIfInBounds_toArray, List.set_cons_zero, List.set_cons_succ, List.nil_append, List.cons_append, Nat.reduceAdd, Nat.zero_add]
          refine Reg.SeqOK.nil (by kernel_rfl) (fun γ W6 hW hBx _ _ => ?_)
          simp only [Reg.Boxes, and_true, true_and, Nat.reduceAdd, Nat.zero_add] at hBx
          obtain ⟨l11, _, at0⟩ := hBx
          generalize γ 9 = g11 at *
          have hg11 : g8 < g11 := Nat.lt_of_lt_of_le HK8.out.lt l11
          replace HB := Lib.hid (HB.out.trans (hW.mono HB.out.size))
          replace HK3 := Lib.hid (HK3.out.keep hW)
          replace HK8 := Lib.hid (HK8.out.keep hW)
          have HK11 : Hid (Reg.Blk g11 _ _ W6) := at0
          clear hW at0 c3 f3 z3 c0 hb l11
          obtain ⟨c8, f8, z8⟩ := HK8.out.facts
          obtain ⟨c11, f11, z11⟩ := HK11.out.facts
          go_wp2_with fail
          (with_reducible refine (HC.out _).mono ?_); rintro e w7 ⟨rfl, hb7⟩
          replace HB := Lib.hid (HB.out.trans (hb7.mono HB.out.size))
          replace HK3 := Lib.hid (HK3.out.keep hb7)
          replace HK8 := Lib.hid (HK8.out.keep hb7)
          replace HK11 := Lib.hid (HK11.out.keep hb7)
          clear hb7 HC c8 f8 z8 c11 f11 z11
          by_cases hc : cr1 < 0
          · have hcd : decide (cr1 < 0) = true := decide_eq_true hc
            have HR : Hid (nearN L px py (q + 1) = (q, ⟨s1, s2, s3, s4, s5, s6⟩)) := by unfold Hid; rw [HNs.out, if_pos hcd]
            clear hc
            obtain ⟨c8, f8, z8⟩ := HK8.out.facts
            obtain ⟨c11, f11, z11⟩ := HK11.out.facts
            go_wp2_with fail
            have hu := Reg.upd6 (x := .int .i64 s1) (y := .int .i64 s2) (z := .int .i64 s3) (t := .int .i64 s4) (u := .int .i64 s5) (v := .int .i64 s6) HK8.out
            have kC := Reg.updK (M := fun j => j = g8) (g := g8) rfl _ _ _ _ (keep_below (M := fun j => j = g8) (Below.refl w7.heap.size w7)) hu
            have HW := Lib.hid (And.intro kC hu.at_)
            clear c8 f8 z8 c11 f11 z11 hu kC
            generalize ((((((World.setCell _ _ _).setCell _ _).setCell _ _).setCell _ _).setCell _ _).setCell _ _) = Wn at *
            have hsz := HB.out.size
            refine ⟨⟨q + 1, by omega, hlt, rfl, by rw [HR.out], ?_, ?_, ?_⟩, by simp [intOf]; omega⟩
            · exact HB.out.trans (keep_weak HW.out.1 (M' := fun j => w.heap.size ≤ j) (fun j e => by omega) |>.below fun j hj => ⟨by omega, by omega⟩)
            · exact blkK HK3.out HW.out.1 (by omega)
            · rw [HR.out]; exact HW.out.2
          · have hcd : decide (cr1 < 0) = false := decide_eq_false hc
            have HR : Hid (nearN L px py (q + 1) = (bi, ⟨n1, n2, n3, n4, n5, n6⟩)) := by unfold Hid; rw [HNs.out, if_neg (by rw [hcd]; decide)]
            clear hc
            go_wp2_with fail
            exact ⟨⟨q + 1, by omega, hlt, rfl, by rw [HR.out], HB.out, HK3.out, by rw [HR.out]; exact HK8.out⟩, by simp [intOf]; omega⟩
        · obtain rfl : q = k := by omega
          have hji : decide ((q : Int) < (q : Int)) = false := decide_eq_false (by omega)
          have HRq := Lib.hid HRk.out.1
          have HRe := Lib.hid HRk.out.2
          clear HRk
          go_wp2_with fail
          go_ret2
          exact ⟨by rw [HRq.out, HRe.out]; rfl, HB.out⟩
theorem rnearest_any (A : Option Addr) (c : Nat) (L : List Ln) (px py : Int) (w : World) (hl : LinesAt w A L) :
    Calls Try.prog 13 #[.slice A L.length c, .agg #[.int .i64 px, .int .i64 py]] w fun e w' => e = .returned (.tuple #[.int .i64 (nearR L px py).1, .int .i64 (nearR L px py).2]) ∧ Below w.heap.size w w' := by
  unfold nearR
  by_cases h4 : 400 < L.length
  · rw [if_pos h4]; exact rnear_lim A c _ px py w h4
  rw [if_neg h4]
  by_cases h0 : L.length = 0
  · rw [if_pos (by simp [h0]), h0]; exact rnear_zero A c px py w
  cases hon : onB px py with
  | false => rw [if_pos (by simp)]; exact rnear_off A c _ px py w (by omega) (by omega) hon
  | true =>
    refine rnear_main A c L px py w hl (by omega) (by omega) hon _ _ (fun hg => ?_) (fun hg => ?_)
    · rw [if_neg (by simp only [h0, hg, decide_false, Bool.not_true, Bool.or_self]; decide)]; exact ⟨rfl, rfl⟩
    · rw [if_pos (by rw [hg]; simp)]; exact ⟨rfl, rfl⟩

end G
end Go.Proofs.Ytjeapimjgojpoaa
