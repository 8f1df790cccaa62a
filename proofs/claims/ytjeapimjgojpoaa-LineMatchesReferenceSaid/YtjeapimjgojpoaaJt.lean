/- Lines of the reference: 'Locate'. -/
import Derived.Test.YtjeapimjgojpoaaJs
import Derived.Test.YtjeapimjgojpoaaIk
set_option linter.unusedSimpArgs false
set_option linter.unusedVariables false
set_option maxRecDepth 100000
namespace Go.Proofs.Ytjeapimjgojpoaa
open Go.RowKit
namespace G

theorem rlocate_no1 (A : Option Addr) (c : Nat) (l : List P2) (px py : Int) (w : World) (hl : LineAt w A l) (hv : validL l = false) (hn : l.length ≤ 9223372036854775807) :
    Calls Try.prog 23 #[.slice A l.length c, .agg #[.int .i64 px, .int .i64 py]] w fun e w' => e = .returned (.tuple #[.agg spt0.cells, .int .i64 1]) ∧ Below w.heap.size w w' := by
  have hal : Below w.heap.size w ((w.alloc (.cells #[.int .i64 px, .int .i64 py] 24)).alloc (.cells #[.int .i64 0, .int .i64 0, .int .i64 0, .int .i64 0, .int .i64 0, .int .i64 0] 34)) := ((Below.refl _ _).alloc (Nat.le_refl _) _).alloc (by simp) _
  have hq := rvalid_line A c l _ (hl.below hal) hn
  rw [hv] at hq
  have HQ := Lib.hid hq
  have HA := Lib.hid hal
  clear hl hv hq hal
  go_enter Try.func23, Try.ntmps23
  go_wp2_with fail
  (with_reducible refine HQ.out.mono ?_); rintro e w1 ⟨rfl, hb1⟩
  have HB := Lib.hid (HA.out.trans (hb1.mono HA.out.size))
  obtain ⟨k3, k4⟩ := Reg.Blk.new2 hb1
  clear hb1 HQ
  have HK4 := Lib.hid k4
  obtain ⟨c4, f4, z4⟩ := k4.facts
  clear k3 k4
  go_wp2_with fail
  have hu := Reg.upd6 (x := .int .i64 0) (y := .int .i64 0) (z := .int .i64 0) (t := .int .i64 0) (u := .int .i64 0) (v := .int .i64 0) HK4.out
  have kC := Reg.updK (M := fun k => w.heap.size ≤ k) (g := w.heap.size + 1) (by omega) _ _ _ _ (keep_of HB.out) hu
  have hn5 : Reg.Blk (w.heap.size + 1) _ _ _ := hu.at_
  clear c4 f4 z4
  obtain ⟨c4, f4, z4⟩ := hn5.facts
  generalize ((((((World.setCell _ _ _).setCell _ _).setCell _ _).setCell _ _).setCell _ _).setCell _ _) = Wn at *
  refine bodyPost_ret (v := .tuple #[.agg spt0.cells, .int .i64 1]) (by simp [results, Try.results23, go_sem, c4, spt0, Spt.cells]) rfl ⟨rfl, kC.below fun k hk => by omega⟩
theorem rlocate_no2 (A : Option Addr) (c : Nat) (l : List P2) (px py : Int) (w : World) (hl : LineAt w A l) (hv : validL l = true) (hon : onB px py = false) (hn : l.length ≤ 9223372036854775807) :
    Calls Try.prog 23 #[.slice A l.length c, .agg #[.int .i64 px, .int .i64 py]] w fun e w' => e = .returned (.tuple #[.agg spt0.cells, .int .i64 1]) ∧ Below w.heap.size w w' := by
  have hal : Below w.heap.size w ((w.alloc (.cells #[.int .i64 px, .int .i64 py] 24)).alloc (.cells #[.int .i64 0, .int .i64 0, .int .i64 0, .int .i64 0, .int .i64 0, .int .i64 0] 34)) := ((Below.refl _ _).alloc (Nat.le_refl _) _).alloc (by simp) _
  have hq := rvalid_line A c l _ (hl.below hal) hn
  rw [hv] at hq
  have HQ := Lib.hid hq
  have HON := Lib.hid (fun W => ron_any px py W)
  rw [hon] at HON
  have HA := Lib.hid hal
  clear hl hv hq hal hon
  go_enter Try.func23, Try.ntmps23
  go_wp2_with fail
  (with_reducible refine HQ.out.mono ?_); rintro e w1 ⟨rfl, hb1⟩
  have HB1 := Lib.hid (HA.out.trans (hb1.mono HA.out.size))
  obtain ⟨k3, k4⟩ := Reg.Blk.new2 hb1
  clear hb1 HQ
  have HK3 := Lib.hid k4
  obtain ⟨c3, f3, z3⟩ := k3.facts
  clear k3 k4
  go_wp2_with fail
  (with_reducible refine (HON.out _).mono ?_); rintro e w2 ⟨rfl, hb2⟩
  have HB := Lib.hid (HB1.out.trans (hb2.mono HB1.out.size))
  have k4 := HK3.out.keep hb2
  clear hb2 HON c3 f3 z3
  have HK4 := Lib.hid k4
  obtain ⟨c4, f4, z4⟩ := k4.facts
  clear k4
  go_wp2_with fail
  have hu := Reg.upd6 (x := .int .i64 0) (y := .int .i64 0) (z := .int .i64 0) (t := .int .i64 0) (u := .int .i64 0) (v := .int .i64 0) HK4.out
  have kC := Reg.updK (M := fun k => w.heap.size ≤ k) (g := w.heap.size + 1) (by omega) _ _ _ _ (keep_of HB.out) hu
  have hn5 : Reg.Blk (w.heap.size + 1) _ _ _ := hu.at_
  clear c4 f4 z4
  obtain ⟨c4, f4, z4⟩ := hn5.facts
  generalize ((((((World.setCell _ _ _).setCell _ _).setCell _ _).setCell _ _).setCell _ _).setCell _ _) = Wn at *
  refine bodyPost_ret (v := .tuple #[.agg spt0.cells, .int .i64 1]) (by simp [results, Try.results23, go_sem, c4, spt0, Spt.cells]) rfl ⟨rfl, kC.below fun k hk => by omega⟩
theorem line_two2 {w : World} {A : Option Addr} {l : List P2} (h : LineAt w A l) {j n : Nat} (hj : j < l.length) (hn : n < l.length) : ∃ b off, A = some ⟨b, off, none⟩ ∧ b < w.heap.size ∧
    w.cell? ⟨b, off + j * 2, none⟩ = some (.int .i64 (pt l j).1) ∧ w.cell? ⟨b, off + j * 2 + 1, none⟩ = some (.int .i64 (pt l j).2) ∧ w.cell? ⟨b, off + n * 2, none⟩ = some (.int .i64 (pt l n).1) ∧ w.cell? ⟨b, off + n * 2 + 1, none⟩ = some (.int .i64 (pt l n).2) := by
  obtain ⟨b, off, hA, hb, c0, c1⟩ := h j hj
  obtain ⟨b', off', hA', _, d0, d1⟩ := h n hn
  rw [hA] at hA'
  injection hA' with h1
  injection h1 with h2 h3
  subst h2 h3
  exact ⟨b, off, hA, hb, c0, c1, d0, d1⟩
theorem best_next {l : List P2} {px py : Int} (h : validL l = true) (hon : onB px py = true) {k : Nat} (hk : k + 1 < l.length) :
    ((k = 0 ∨ (compareI (spotI l px py k).an (spotI l px py k).ad (bestN l px py k).an (bestN l px py k).ad).1 < 0) → bestN l px py (k + 1) = spotI l px py k) ∧
    (k ≠ 0 → ¬ (compareI (spotI l px py k).an (spotI l px py k).ad (bestN l px py k).an (bestN l px py k).ad).1 < 0 → bestN l px py (k + 1) = bestN l px py k) := by
  have e : bestN l px py (k + 1) = keepS (bestN l px py k) (spotI l px py k) := rfl
  rw [e]
  unfold keepS Spt.less
  refine ⟨fun hh => ?_, fun h0 hh => ?_⟩
  · rw [if_pos]
    rcases hh with rfl | hh
    · have e0 : bestN l px py 0 = spt0 := rfl
      rw [e0]; simp [Spt.eqB]
    · simp [hh]
  · rw [if_neg]
    obtain ⟨n, rfl⟩ : ∃ n, k = n + 1 := ⟨k - 1, by omega⟩
    obtain ⟨j, hj, e1, _⟩ := best_spec h hon n (by omega)
    have ok := spot_ok h hon (k := j) (by omega)
    have e2 : (bestN l px py (n + 1)).eqB spt0 = false := by rw [e1]; exact eq0_false ok
    rw [e2]
    simp only [Bool.false_or, decide_eq_true_eq]
    exact hh
set_option maxHeartbeats 16000000 in
theorem rlocate_ok (A : Option Addr) (c : Nat) (l : List P2) (px py : Int) (w : World) (hl : LineAt w A l) (hv : validL l = true) (hon : onB px py = true) (hn : l.length ≤ 9223372036854775807) :
    Calls Try.prog 23 #[.slice A l.length c, .agg #[.int .i64 px, .int .i64 py]] w fun e w' => e = .returned (.tuple #[.agg (bestN l px py (l.length - 1)).cells, .int .i64 0]) ∧ Below w.heap.size w w' := by
  have hal : Below w.heap.size w ((w.alloc (.cells #[.int .i64 px, .int .i64 py] 24)).alloc (.cells #[.int .i64 0, .int .i64 0, .int .i64 0, .int .i64 0, .int .i64 0, .int .i64 0] 34)) := ((Below.refl _ _).alloc (Nat.le_refl _) _).alloc (by simp) _
  have hq := rvalid_line A c l _ (hl.below hal) hn
  rw [hv] at hq
  have HQ := Lib.hid hq
  have HON := Lib.hid (fun W => ron_any px py W)
  rw [hon] at HON
  have HA := Lib.hid hal
  have HL := Lib.hid hl
  have hlen := valid_len hv
  have HN := Lib.hid (fun k (hk : k + 1 < l.length) => best_next hv hon hk)
  have HSB := Lib.hid (fun k (hk : k + 1 < l.length) => spot_B hv hon hk)
  have HBB := Lib.hid (fun k (hk : k + 1 ≤ l.length) => bestN_B hv hon k hk)
  obtain ⟨m, hm⟩ : ∃ m, m = l.length - 1 := ⟨_, rfl⟩
  have hml : m + 1 = l.length := by omega
  have hm40 : m ≤ 40 := by omega
  rw [← hm]
  clear hl hv hq hal hon hm hlen
  go_enter Try.func23, Try.ntmps23
  go_wp2_with fail
  (with_reducible refine HQ.out.mono ?_); rintro e w1 ⟨rfl, hb1⟩
  have HB1 := Lib.hid (HA.out.trans (hb1.mono HA.out.size))
  obtain ⟨k3, k4⟩ := Reg.Blk.new2 hb1
  clear hb1 HQ
  have HK3 := Lib.hid k4
  have HKp := Lib.hid k3
  obtain ⟨c3, f3, z3⟩ := k3.facts
  clear k3 k4
  go_wp2_with fail
  (with_reducible refine (HON.out _).mono ?_); rintro e w2 ⟨rfl, hb2⟩
  have HB := Lib.hid (HB1.out.trans (hb2.mono HB1.out.size))
  have HK4 := Lib.hid (HK3.out.keep hb2)
  replace HKp := Lib.hid (HKp.out.keep hb2)
  clear hb2 HON c3 f3 z3 HK3 HB1
  go_wp2_with fail
  have hw2 : Below w2.heap.size w2 (w2.alloc (.cells #[.int .i64 0, .int .i64 0, .int .i64 0, .int .i64 0, .int .i64 0, .int .i64 0] 34)) := (Below.refl _ _).alloc (Nat.le_refl _) _
  have HK6 := Lib.hid (Reg.Blk.new w2 #[.int .i64 0, .int .i64 0, .int .i64 0, .int .i64 0, .int .i64 0, .int .i64 0] 34)
  have hg4 : w.heap.size + 1 < w2.heap.size := HK4.out.lt
  replace HB := Lib.hid (HB.out.trans (hw2.mono HB.out.size))
  replace HK4 := Lib.hid (HK4.out.keep hw2)
  replace HKp := Lib.hid (HKp.out.keep hw2)
  clear hw2
  generalize w2.alloc (.cells #[.int .i64 0, .int .i64 0, .int .i64 0, .int .i64 0, .int .i64 0, .int .i64 0] 34) = w3 at *
  generalize w2.heap.size = g6 at *
  go_loopw [7] (fun x wr => ∃ k : Nat, k ≤ m ∧ x = .int .i64 k ∧ Below w.heap.size w wr ∧ Reg.Blk w.heap.size #[.int .i64 px, .int .i64 py] 24 wr ∧ Reg.Blk (w.heap.size + 1) #[.int .i64 0, .int .i64 0, .int .i64 0, .int .i64 0, .int .i64 0, .int .i64 0] 34 wr ∧ Reg.Blk g6 (bestN l px py k).cells 34 wr) (fun x _ => m - (intOf x).toNat)
  case atStart => exact ⟨0, Nat.zero_le _, rfl, HB.out, HKp.out, HK4.out, HK6.out⟩
  case round =>
    obtain ⟨k, hk, rfl, hbw, hkp, hk4, hk6⟩ := hrel
    clear HB HKp HK4 HK6
    have HB := Lib.hid hbw
    have HKp := Lib.hid hkp
    have HK4 := Lib.hid hk4
    clear hbw hk4
    obtain ⟨q, hq⟩ : ∃ q, q = k + 1 := ⟨_, rfl⟩
    have hwk : IntKind.i64.wrap ((k : Int) + 1) = (q : Int) := by rw [show (k : Int) + 1 = (q : Int) by omega]; exact i64_in _ (by omega) (by omega)
    have HKQ := Lib.hid hq
    by_cases hlt : k < m
    · have hql : (q : Int) < (l.length : Int) := by omega
      have hkl : (k : Int) < (l.length : Int) := by omega
      have hk0 : (0 : Int) ≤ (k : Int) := by omega
      have hq0 : (0 : Int) ≤ (q : Int) := by omega
      have hdq : decide ((q : Int) < (l.length : Int)) = true := decide_eq_true hql
      have hdq2 : decide (q < l.length) = true := decide_eq_true (by omega)
      obtain ⟨b', off', hA, hb, c0, c1, d0, d1⟩ := line_two2 (HL.out.below HB.out) (j := k) (n := q) (by omega) (by omega)
      obtain ⟨b0, off0, hA0, hb0, _, _⟩ := HL.out k (by omega)
      have hNx := HN.out k (by omega)
      have hsB := HSB.out k (by omega)
      have hbB := HBB.out k (by omega)
      have hSp : spotI l px py k = ⟨k, (footI px py (pt l k).1 (pt l k).2 (pt l (k + 1)).1 (pt l (k + 1)).2).1.1, (footI px py (pt l k).1 (pt l k).2 (pt l (k + 1)).1 (pt l (k + 1)).2).1.2.1, turnI (pt l k).1 (pt l k).2 (pt l (k + 1)).1 (pt l (k + 1)).2 px py,
        (footI px py (pt l k).1 (pt l k).2 (pt l (k + 1)).1 (pt l (k + 1)).2).2.1, (footI px py (pt l k).1 (pt l k).2 (pt l (k + 1)).1 (pt l (k + 1)).2).2.2.1⟩ := rfl
      have hFt := fun W => rfoot_any px py (pt l k).1 (pt l k).2 (pt l (k + 1)).1 (pt l (k + 1)).2 W
      have hTn := fun W => rturn_any (pt l k).1 (pt l k).2 (pt l (k + 1)).1 (pt l (k + 1)).2 px py W
      rw [← hq] at hSp hFt hTn hNx
      generalize footI px py (pt l k).1 (pt l k).2 (pt l q).1 (pt l q).2 = F at *
      generalize turnI (pt l k).1 (pt l k).2 (pt l q).1 (pt l q).2 px py = s4 at *
      obtain ⟨⟨s2, s3, s9⟩, s5, s6, s7⟩ := F
      simp only at hSp hFt
      have HFt := Lib.hid hFt
      have HTn := Lib.hid hTn
      rw [hSp] at hsB hNx
      clear hFt hTn hSp
      generalize (pt l k).1 = ux at *
      generalize (pt l k).2 = uy at *
      generalize (pt l q).1 = vx at *
      generalize (pt l q).2 = vy at *
      generalize bestN l px py k = bs at *
      obtain ⟨n1, n2, n3, n4, n5, n6⟩ := bs
      simp only [Spt.cells] at hk6
      simp only at hNx
      have HC := Lib.hid (fun W => rcompare_any s5 s6 n5 n6 W hsB.1 hsB.2 hbB.1 hbB.2)
      have HK6 := Lib.hid hk6
      generalize compareI s5 s6 n5 n6 = cr at *
      obtain ⟨cr1, cr2⟩ := cr
      simp only at hNx HC
      have HNx := Lib.hid hNx
      obtain ⟨cp, fp, zp⟩ := hkp.facts
      subst hA
      have hbw : b' < w.heap.size := by injection hA0 with h; injection h with h1 h2; rw [h1]; exact hb0
      clear hA0 hb0
      clear hNx hsB hbB hk6 hkp hq
      go_wp2_with fail
      refine Reg.wp_region_seq (by kernel_rfl) (by kernel_rfl) ?_
      simp only
      iterate 15
        apply Reg.SeqOK.val
        · intro γ W hW K hK
          obtain ⟨hc, hf, _⟩ := bcell hW
          simp only [Act.put, List.setIfInBounds_toArray, List.set_cons_zero, List.set_cons_succ] at hK
          unfold Reg.Does
          go_simp
          try simp only [IntWalk.i64_left]
          first
            | exact hK _ (Below.refl _ _)
            | (go_at_call 51; (with_reducible refine (HFt.out _).mono ?_); rintro e w' ⟨rfl, hb⟩; exact hK _ hb)
            | (trace_state; fail)
        simp only [Act.put, List.setIfInBounds_toArray, List.set_cons_zero, List.set_cons_succ, List.nil_append, List.cons_append, Nat.reduceAdd, Nat.zero_add]
      iterate 2
        apply Reg.SeqOK.box
        · intro γ W hW K hK
          simp only [Act.put, List.setIfInBounds_toArray, List.set_cons_zero, List.set_cons_succ] at hK
          unfold Reg.Does
          go_simp
          exact hK
        simp only [Act.put, List.setIfInBounds_toArray, List.set_cons_zero, List.set_cons_succ, List.nil_append, List.cons_append, Nat.reduceAdd, Nat.zero_add]
      refine Reg.SeqOK.st 15 _ _ _ rfl (by kernel_rfl) ?_ ?_
      · intro γ W hW hge hat K hK
        obtain ⟨hcl, hfr⟩ := Reg.cells_at hat
        simp only [Act.put, List.setIfInBounds_toArray, List.set_cons_zero, List.set_cons_succ] at hK
        unfold Reg.Does
        go_simp
        exact hK _ (Reg.upd2 hat)
      simp only [Act.put, List.setIfInBounds_toArray, List.set_cons_zero, List.set_cons_succ, List.nil_append, List.cons_append, Nat.reduceAdd, Nat.zero_add]
      refine Reg.SeqOK.st 16 _ _ _ rfl (by kernel_rfl) ?_ ?_
      · intro γ W hW hge hat K hK
        obtain ⟨hcl, hfr⟩ := Reg.cells_at hat
        simp only [Act.put, List.setIfInBounds_toArray, List.set_cons_zero, List.set_cons_succ] at hK
        unfold Reg.Does
        go_simp
        exact hK _ (Reg.upd2 hat)
      simp only [Act.put, List.setIfInBounds_toArray, List.set_cons_zero, List.set_cons_succ, List.nil_append, List.cons_append, Nat.reduceAdd, Nat.zero_add]
      iterate 1
        apply Reg.SeqOK.val
        · intro γ W hW K hK
          obtain ⟨hc, hf, _⟩ := bcell hW
          simp only [Act.put, List.setIfInBounds_toArray, List.set_cons_zero, List.set_cons_succ] at hK
          unfold Reg.Does
          go_simp
          try simp only [IntWalk.i64_left]
          first
            | exact hK _ (Below.refl _ _)
            | (trace_state; fail)
        simp only [Act.put, List.setIfInBounds_toArray, List.set_cons_zero, List.set_cons_succ, List.nil_append, List.cons_append, Nat.reduceAdd, Nat.zero_add]
      refine Reg.SeqOK.nil (by kernel_rfl) (fun γ W5 hW hBx _ _ => ?_)
      simp only [Reg.Boxes, and_true, true_and, Nat.reduceAdd, Nat.zero_add] at hBx
      obtain ⟨⟨l13, _, at0⟩, l14, _, at1⟩ := hBx
      have hz6 := HK6.out.lt
      generalize γ 15 = g13 at *
      generalize γ 16 = g14 at *
      have n1' : ¬ b' = g6 := by omega
      have n2' : ¬ g13 = g6 := by omega
      have n3' : ¬ g14 = g6 := by omega
      have n4' : ¬ w.heap.size = g6 := by omega
      clear l13 l14 hz6
      have e3 := (bcell hW).1
      replace c0 := (e3 b' _ hb).trans c0
      replace c1 := (e3 b' _ hb).trans c1
      replace d0 := (e3 b' _ hb).trans d0
      replace d1 := (e3 b' _ hb).trans d1
      replace hb := Nat.lt_of_lt_of_le hb hW.size
      replace HB := Lib.hid (HB.out.trans (hW.mono HB.out.size))
      replace HKp := Lib.hid (HKp.out.keep hW)
      replace HK4 := Lib.hid (HK4.out.keep hW)
      replace HK6 := Lib.hid (HK6.out.keep hW)
      have K13 : Reg.Blk g13 _ _ W5 := at0
      have K14 : Reg.Blk g14 _ _ W5 := at1
      clear e3 hW at0 at1 cp fp zp
      obtain ⟨c6, f6, z6⟩ := HK6.out.facts
      obtain ⟨c14, f14, z14⟩ := K14.facts
      go_wp2_with fail
      (with_reducible refine (HC.out _).mono ?_); rintro e w6 ⟨rfl, hb6⟩
      have e3 := (bcell hb6).1
      replace c0 := (e3 b' _ hb).trans c0
      replace c1 := (e3 b' _ hb).trans c1
      replace d0 := (e3 b' _ hb).trans d0
      replace d1 := (e3 b' _ hb).trans d1
      replace hb := Nat.lt_of_lt_of_le hb hb6.size
      replace HB := Lib.hid (HB.out.trans (hb6.mono HB.out.size))
      replace HKp := Lib.hid (HKp.out.keep hb6)
      replace HK4 := Lib.hid (HK4.out.keep hb6)
      replace HK6 := Lib.hid (HK6.out.keep hb6)
      replace K13 := K13.keep hb6
      replace K14 := K14.keep hb6
      clear e3 hb6 c6 f6 z6 c14 f14 z14 HC
      by_cases hup : k = 0 ∨ cr1 < 0
      · have HR := Lib.hid (HNx.out.1 hup)
        obtain ⟨cp, fp, zp⟩ := HKp.out.facts
        obtain ⟨c13, f13, z13⟩ := K13.facts
        obtain ⟨c14, f14, z14⟩ := K14.facts
        have hpk : (((k : Int) == 0) || decide (cr1 < 0)) = true := by
          rw [Bool.or_eq_true, beq_iff_eq, decide_eq_true_iff]; omega
        cases hz : ((k : Int) == 0) with
        | true =>
          clear hup hpk
          go_wp2_with fail
          refine Reg.wp_region_seqK (fun j => j = g6) (by kernel_rfl) (by kernel_rfl) ?_
          simp only
          iterate 15
            apply Reg.SeqOK.val
            · intro γ W hW K hK
              obtain ⟨hc, hf, _⟩ := Reg.kcell hW
              simp only [Act.put, List.setIfInBounds_toArray, List.set_cons_zero, List.set_cons_succ] at hK
              unfold Reg.Does
              go_simp
              try simp only [IntWalk.i64_left]
              first
                | exact hK _ (Below.refl _ _)
                | (go_at_call 52; (with_reducible refine (HTn.out _).mono ?_); rintro e w' ⟨rfl, hb⟩; exact hK _ hb)
                | (trace_state; fail)
            simp only [Act.put, List.setIfInBounds_toArray, List.set_cons_zero, List.set_cons_succ, List.nil_append, List.cons_append, Nat.reduceAdd, Nat.zero_add]
          apply Reg.SeqOK.old (g := g6) (hB := (Reg.updK (M := fun j => j = g6) (g := g6) rfl)) (hg := HK6.out) (hne := by simp [Reg.NotOld])
          · intro γ W hW hat K hK
            obtain ⟨hcl, hfr⟩ := Reg.cells_at hat
            simp only [Act.put, List.setIfInBounds_toArray, List.set_cons_zero, List.set_cons_succ] at hK
            unfold Reg.Does
            go_simp
            exact hK _ (Reg.upd6 hat)
          simp only [Act.put, List.setIfInBounds_toArray, List.set_cons_zero, List.set_cons_succ, List.nil_append, List.cons_append, Nat.reduceAdd, Nat.zero_add]
          refine Reg.SeqOK.nil (by kernel_rfl) (fun γ W hW _ _ hO => ?_)
          simp only [Reg.Olds, and_true] at hO
          have HW := Lib.hid (And.intro hW hO)
          clear hW hO cp fp zp c13 f13 z13 c14 f14 z14 c0 c1 d0 d1 hb
          go_wp2_with fail
          refine ⟨⟨q, by have := HKQ.out; omega, rfl, ?_, ?_, ?_, ?_⟩, by have := HKQ.out; simp [intOf]; omega⟩
          · have hsz := HB.out.size
            exact HB.out.trans (keep_weak HW.out.1 (M' := fun j => w.heap.size ≤ j) (fun j e => by omega) |>.below fun j hj => ⟨by omega, by omega⟩)
          · exact blkK HKp.out HW.out.1 (by omega)
          · exact blkK HK4.out HW.out.1 (by omega)
          · rw [HR.out]; exact HW.out.2
        | false =>
          have hcd : decide (cr1 < 0) = true := by rw [hz, Bool.false_or] at hpk; exact hpk
          clear hup hpk
          go_wp2_with fail
          refine Reg.wp_region_seqK (fun j => j = g6) (by kernel_rfl) (by kernel_rfl) ?_
          simp only
          iterate 15
            apply Reg.SeqOK.val
            · intro γ W hW K hK
              obtain ⟨hc, hf, _⟩ := Reg.kcell hW
              simp only [Act.put, List.setIfInBounds_toArray, List.set_cons_zero, List.set_cons_succ] at hK
              unfold Reg.Does
              go_simp
              try simp only [IntWalk.i64_left]
              first
                | exact hK _ (Below.refl _ _)
                | (go_at_call 52; (with_reducible refine (HTn.out _).mono ?_); rintro e w' ⟨rfl, hb⟩; exact hK _ hb)
                | (trace_state; fail)
            simp only [Act.put, List.setIfInBounds_toArray, List.set_cons_zero, List.set_cons_succ, List.nil_append, List.cons_append, Nat.reduceAdd, Nat.zero_add]
          apply Reg.SeqOK.old (g := g6) (hB := (Reg.updK (M := fun j => j = g6) (g := g6) rfl)) (hg := HK6.out) (hne := by simp [Reg.NotOld])
          · intro γ W hW hat K hK
            obtain ⟨hcl, hfr⟩ := Reg.cells_at hat
            simp only [Act.put, List.setIfInBounds_toArray, List.set_cons_zero, List.set_cons_succ] at hK
            unfold Reg.Does
            go_simp
            exact hK _ (Reg.upd6 hat)
          simp only [Act.put, List.setIfInBounds_toArray, List.set_cons_zero, List.set_cons_succ, List.nil_append, List.cons_append, Nat.reduceAdd, Nat.zero_add]
          refine Reg.SeqOK.nil (by kernel_rfl) (fun γ W hW _ _ hO => ?_)
          simp only [Reg.Olds, and_true] at hO
          have HW := Lib.hid (And.intro hW hO)
          clear hW hO cp fp zp c13 f13 z13 c14 f14 z14 c0 c1 d0 d1 hb
          go_wp2_with fail
          refine ⟨⟨q, by have := HKQ.out; omega, rfl, ?_, ?_, ?_, ?_⟩, by have := HKQ.out; simp [intOf]; omega⟩
          · have hsz := HB.out.size
            exact HB.out.trans (keep_weak HW.out.1 (M' := fun j => w.heap.size ≤ j) (fun j e => by omega) |>.below fun j hj => ⟨by omega, by omega⟩)
          · exact blkK HKp.out HW.out.1 (by omega)
          · exact blkK HK4.out HW.out.1 (by omega)
          · rw [HR.out]; exact HW.out.2
      · have HR := Lib.hid (HNx.out.2 (by omega) (by omega))
        have hz : ((k : Int) == 0) = false := by rw [beq_eq_false_iff_ne]; omega
        have hcd : decide (cr1 < 0) = false := decide_eq_false (by omega)
        clear hup c0 c1 d0 d1 hb K13 K14 HNx
        go_wp2_with fail
        exact ⟨⟨q, by have := HKQ.out; omega, rfl, HB.out, HKp.out, HK4.out, by rw [HR.out]; exact HK6.out⟩, by have := HKQ.out; simp [intOf]; omega⟩
    · obtain rfl : k = m := by omega
      have hql : decide ((q : Int) < (l.length : Int)) = false := decide_eq_false (by omega)
      have hkpB := hk6
      obtain ⟨bs, hbs⟩ : ∃ bs, bestN l px py k = bs := ⟨_, rfl⟩
      rw [hbs] at hkpB
      have HBs := Lib.hid hbs
      clear hbs
      obtain ⟨n1, n2, n3, n4, n5, n6⟩ := bs
      simp only [Spt.cells] at hkpB
      obtain ⟨c6, f6, z6⟩ := hkpB.facts
      obtain ⟨c4, f4, z4⟩ := HK4.out.facts
      clear hkpB hkp hk6
      go_wp2_with fail
      have hu := Reg.upd6 (x := .int .i64 n1) (y := .int .i64 n2) (z := .int .i64 n3) (t := .int .i64 n4) (u := .int .i64 n5) (v := .int .i64 n6) HK4.out
      have kC := Reg.updK (M := fun k => w.heap.size ≤ k) (g := w.heap.size + 1) (by omega) _ _ _ _ (keep_of HB.out) hu
      have hn5 : Reg.Blk (w.heap.size + 1) _ _ _ := hu.at_
      clear c4 f4 z4 c6 f6 z6
      obtain ⟨c4, f4, z4⟩ := hn5.facts
      generalize ((((((World.setCell _ _ _).setCell _ _).setCell _ _).setCell _ _).setCell _ _).setCell _ _) = Wn at *
      refine bodyPost_ret (v := .tuple #[.agg (Spt.mk n1 n2 n3 n4 n5 n6).cells, .int .i64 0]) (by simp [results, Try.results23, go_sem, c4, Spt.cells]) rfl ⟨by rw [HBs.out], kC.below fun k hk => by omega⟩
theorem rlocate_any (A : Option Addr) (c : Nat) (l : List P2) (px py : Int) (w : World) (hl : LineAt w A l) (hn : l.length ≤ 9223372036854775807) :
    Calls Try.prog 23 #[.slice A l.length c, .agg #[.int .i64 px, .int .i64 py]] w fun e w' => e = .returned (.tuple #[.agg (locS l px py).cells, .int .i64 (locE l px py)]) ∧ Below w.heap.size w w' := by
  unfold locS locE
  cases hv : validL l with
  | false => simp only [Bool.false_and, Bool.false_eq_true, if_false]; exact rlocate_no1 A c l px py w hl hv hn
  | true =>
    cases hon : onB px py with
    | false => simp only [Bool.true_and, Bool.false_eq_true, if_false]; exact rlocate_no2 A c l px py w hl hv hon hn
    | true =>
      simp only [Bool.and_self, if_true]
      exact rlocate_ok A c l px py w hl hv hon hn

end G
end Go.Proofs.Ytjeapimjgojpoaa
