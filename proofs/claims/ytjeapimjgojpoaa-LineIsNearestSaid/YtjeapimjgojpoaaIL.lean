/- Lines: the walk of 'LineIsNearest'. -/
import Derived.Test.YtjeapimjgojpoaaIj
import Derived.Test.YtjeapimjgojpoaaIk
set_option linter.unusedSimpArgs false
set_option linter.unusedVariables false
set_option maxRecDepth 100000
namespace Go.Proofs.Ytjeapimjgojpoaa
open Go.RowKit
namespace G

theorem line_two {w : World} {A : Option Addr} {l : List P2} (h : LineAt w A l) {j n : Nat} (hj : j < l.length) (hn : n < l.length) : ∃ b off, A = some ⟨b, off, none⟩ ∧ b < w.heap.size ∧
    w.cell? ⟨b, off + j * 2, none⟩ = some (.int .i64 (pt l j).1) ∧ w.cell? ⟨b, off + j * 2 + 1, none⟩ = some (.int .i64 (pt l j).2) ∧ w.cell? ⟨b, off + n * 2, none⟩ = some (.int .i64 (pt l n).1) ∧ w.cell? ⟨b, off + n * 2 + 1, none⟩ = some (.int .i64 (pt l n).2) := by
  obtain ⟨b, off, hA, hb, c0, c1⟩ := h j hj
  obtain ⟨b', off', hA', _, d0, d1⟩ := h n hn
  rw [hA] at hA'
  injection hA' with h1
  injection h1 with h2 h3
  subst h2 h3
  exact ⟨b, off, hA, hb, c0, c1, d0, d1⟩
theorem run_neq_fr_same (a b : Int) (w : World) : (binOp .neq 32 (.agg #[.int .i64 a, .int .i64 b]) (.agg #[.int .i64 a, .int .i64 b])).run Try.prog w = .ok (.bool false) w := by go_simp

set_option maxHeartbeats 4000000 in
theorem isnear_no (A : Option Addr) (c : Nat) (l : List P2) (px py : Int) (w : World) (hl : LineAt w A l) (h60 : l.length ≤ 60) (hv : (validL l && onB px py) = false) :
    Calls Try.prog 6 #[.slice A l.length c, .agg #[.int .i64 px, .int .i64 py]] w fun e w' => e = .returned (.bool true) ∧ Below w.heap.size w w' := by
  have HL := Lib.hid hl
  have heq := run_eql_spot_same
  have HQ := Lib.hid (fun W (h : LineAt W A l) => locate_any A c l px py W h (by omega))
  unfold locS locE at HQ
  rw [hv] at HQ
  simp only [Bool.false_eq_true, if_false, Spt.cells, spt0] at HQ
  have HV := Lib.hid (fun W (h : LineAt W A l) => valid_line A c l W h (by omega))
  have HON := Lib.hid (fun W => on_any px py W)
  have hn : ¬ (60 : Int) < (l.length : Int) := by omega
  clear hl h60
  go_enter Try.func6, Try.ntmps6
  go_wp2_with fail
  (with_reducible refine (head_any _).mono ?_); rintro e w1 ⟨rfl, hb1⟩
  have HB := Lib.hid (((Below.refl w.heap.size w).alloc (Nat.le_refl _) _).trans (hb1.mono (by simp)))
  have K3 := Lib.hid (Reg.Blk.new1 hb1)
  obtain ⟨c3, f3, z3⟩ := K3.out.facts
  clear hb1
  go_wp2_with fail
  (with_reducible refine (HQ.out _ (HL.out.below HB.out)).mono ?_); rintro e w2 ⟨rfl, hb2⟩
  replace HB := Lib.hid (HB.out.trans (hb2.mono HB.out.size))
  replace K3 := Lib.hid (K3.out.keep hb2)
  clear hb2 HQ c3 f3 z3
  have hal : Below w2.heap.size w2 (w2.alloc (.cells #[.int .i64 0, .int .i64 0, .int .i64 0, .int .i64 0, .int .i64 0, .int .i64 0] 34)) := (Below.refl _ _).alloc (Nat.le_refl _) _
  have K6 := Lib.hid (Reg.Blk.new w2 #[.int .i64 0, .int .i64 0, .int .i64 0, .int .i64 0, .int .i64 0, .int .i64 0] 34)
  replace K3 := Lib.hid (K3.out.keep hal)
  replace HB := Lib.hid (HB.out.trans (hal.mono HB.out.size))
  clear hal
  go_wp2_with fail
  (with_reducible refine (HV.out _ (HL.out.below HB.out)).mono ?_); rintro e w3 ⟨rfl, hb3⟩
  replace HB := Lib.hid (HB.out.trans (hb3.mono HB.out.size))
  replace K3 := Lib.hid (K3.out.keep hb3)
  replace K6 := Lib.hid (K6.out.keep hb3)
  clear hb3 HV
  cases hvl : validL l with
  | false =>
    clear hv hvl
    obtain ⟨c6, f6, z6⟩ := K6.out.facts
    go_wp2_with fail
    go_ret
    exact ⟨rfl, HB.out⟩
  | true =>
    rw [hvl, Bool.true_and] at hv
    rw [hv] at HON
    clear hv hvl
    obtain ⟨c3, f3, z3⟩ := K3.out.facts
    go_wp2_with fail
    (with_reducible refine (HON.out _).mono ?_); rintro e w4 ⟨rfl, hb4⟩
    replace HB := Lib.hid (HB.out.trans (hb4.mono HB.out.size))
    replace K6 := Lib.hid (K6.out.keep hb4)
    clear hb4 HON c3 f3 z3
    obtain ⟨c6, f6, z6⟩ := K6.out.facts
    go_wp2_with fail
    go_ret
    exact ⟨rfl, HB.out⟩

set_option maxHeartbeats 16000000 in
theorem isnear_ok (A : Option Addr) (c : Nat) (l : List P2) (px py : Int) (w : World) (hl : LineAt w A l) (hv : validL l = true) (hon : onB px py = true) (j : Nat) (hb : Best l px py j) :
    Calls Try.prog 6 #[.slice A l.length c, .agg #[.int .i64 px, .int .i64 py]] w fun e w' => e = .returned (.bool true) ∧ Below w.heap.size w w' := by
  have hlen := valid_len hv
  obtain ⟨m, hm⟩ : ∃ m, m = l.length - 1 := ⟨_, rfl⟩
  have hlaw := near_law hv hon hb
  rw [← hm] at hlaw
  have HL := Lib.hid hl
  have hq := fun W (h : LineAt W A l) => locate_any A c l px py W h (by omega)
  rw [hb.eq, hb.err] at hq
  have HV := Lib.hid (fun W (h : LineAt W A l) => valid_line A c l W h (by omega))
  rw [hv] at HV
  have HON := Lib.hid (fun W => on_any px py W)
  rw [hon] at HON
  obtain ⟨p1, p2⟩ := onB_out hon
  obtain ⟨a1, a2⟩ := valid_pt hv (k := j) (by have := hb.lt; omega)
  obtain ⟨b1, b2⟩ := valid_pt hv hb.lt
  have hft := fun W => foot_any px py (pt l j).1 (pt l j).2 (pt l (j + 1)).1 (pt l (j + 1)).2 W
  have htn := fun W => turn_any (pt l j).1 (pt l j).2 (pt l (j + 1)).1 (pt l (j + 1)).2 px py W
  rw [foot_ok p1 p2 a1 a2 b1 b2] at hft
  have hbd := spot_B hv hon hb.lt
  have HNear : Hid (∀ k, k < m → ∃ x1 x2 x3 x4, B64 x3 ∧ B64 x4 ∧ (∀ W, Calls Try.prog 20 #[.agg #[.int .i64 px, .int .i64 py], .agg #[.int .i64 (pt l k).1, .int .i64 (pt l k).2], .agg #[.int .i64 (pt l (k + 1)).1, .int .i64 (pt l (k + 1)).2]] W fun e w' => e = .returned (.tuple #[.agg #[.int .i64 x1, .int .i64 x2], .agg #[.int .i64 x3, .int .i64 x4], .int .i64 0]) ∧ Below W.heap.size W w') ∧
      (compareI x3 x4 (spotI l px py j).an (spotI l px py j).ad).2 = 0 ∧ 0 ≤ (compareI x3 x4 (spotI l px py j).an (spotI l px py j).ad).1 ∧ (k < j → (compareI x3 x4 (spotI l px py j).an (spotI l px py j).ad).1 ≠ 0)) := fun k hk => by
    obtain ⟨d1, d2⟩ := valid_pt hv (k := k) (by omega)
    obtain ⟨e1, e2⟩ := valid_pt hv (k := k + 1) (by omega)
    have hB := spot_B hv hon (k := k) (by omega)
    have hn := hb.near k (by omega)
    refine ⟨(spotI l px py k).pn, (spotI l px py k).pd, (spotI l px py k).an, (spotI l px py k).ad, hB.1, hB.2, fun W => ?_, hn.1, hn.2, hb.first k⟩
    have h := foot_any px py (pt l k).1 (pt l k).2 (pt l (k + 1)).1 (pt l (k + 1)).2 W
    rw [foot_ok p1 p2 d1 d2 e1 e2] at h
    exact h
  have HBetw : Hid (∀ k, ∃ q, (∀ W, Calls Try.prog 22 #[.agg #[.int .i64 px, .int .i64 py], .agg #[.int .i64 (pt l k).1, .int .i64 (pt l k).2], .agg #[.int .i64 (pt l (k + 1)).1, .int .i64 (pt l (k + 1)).2]] W fun e w' => e = .returned (.bool q) ∧ Below W.heap.size W w') ∧ onN l px py (k + 1) = (onN l px py k || q)) := fun k => ⟨_, fun W => between_any px py (pt l k).1 (pt l k).2 (pt l (k + 1)).1 (pt l (k + 1)).2 W, rfl⟩
  have HOn0 : Hid (onN l px py 0 = false) := rfl
  have HJ := Lib.hid (And.intro hb.lt (And.intro hlen hm))
  have hspot : spotI l px py j = ⟨(j : Int), (footI px py (pt l j).1 (pt l j).2 (pt l (j + 1)).1 (pt l (j + 1)).2).1.1, (footI px py (pt l j).1 (pt l j).2 (pt l (j + 1)).1 (pt l (j + 1)).2).1.2.1, turnI (pt l j).1 (pt l j).2 (pt l (j + 1)).1 (pt l (j + 1)).2 px py, (footI px py (pt l j).1 (pt l j).2 (pt l (j + 1)).1 (pt l (j + 1)).2).2.1, (footI px py (pt l j).1 (pt l j).2 (pt l (j + 1)).1 (pt l (j + 1)).2).2.2.1⟩ := rfl
  rw [hspot] at hq hbd HNear hlaw
  generalize (footI px py (pt l j).1 (pt l j).2 (pt l (j + 1)).1 (pt l (j + 1)).2).1.1 = f1 at *
  generalize (footI px py (pt l j).1 (pt l j).2 (pt l (j + 1)).1 (pt l (j + 1)).2).1.2.1 = f2 at *
  generalize (footI px py (pt l j).1 (pt l j).2 (pt l (j + 1)).1 (pt l (j + 1)).2).2.1 = f3 at *
  generalize (footI px py (pt l j).1 (pt l j).2 (pt l (j + 1)).1 (pt l (j + 1)).2).2.2.1 = f4 at *
  generalize turnI (pt l j).1 (pt l j).2 (pt l (j + 1)).1 (pt l (j + 1)).2 px py = sd at *
  have HBD : Hid (B64 f3 ∧ B64 f4) := hbd
  have HLaw := Lib.hid hlaw
  simp only [Spt.cells] at hq
  simp only at HNear HLaw
  have HQ := Lib.hid hq
  have HFT := Lib.hid hft
  have HTN := Lib.hid htn
  obtain ⟨n, hn⟩ : ∃ n, n = j + 1 := ⟨_, rfl⟩
  rw [← hn] at HFT HTN
  have hjn : (j : Int) + 1 < (l.length : Int) := by have := hb.lt; omega
  have hj0 : (0 : Int) ≤ (j : Int) := by omega
  have hjl : (j : Int) < (l.length : Int) := by omega
  have hnl : (n : Int) < (l.length : Int) := by omega
  have hn0 : (0 : Int) ≤ (n : Int) := by omega
  have hwr : IntKind.i64.wrap ((j : Int) + 1) = (n : Int) := by rw [show (j : Int) + 1 = (n : Int) by omega]; exact i64_in _ (by omega) (by omega)
  have hn60 : ¬ (60 : Int) < (l.length : Int) := by omega
  have HD60 := Lib.hid (decide_eq_false hn60)
  have HDj : Hid (decide ((j : Int) < 0) = false) := decide_eq_false (by omega)
  have HDn : Hid (decide (l.length ≤ n) = false) := decide_eq_false (by omega)
  have HN := Lib.hid hn
  have hneq := run_neq_fr_same
  clear hl hv hon hb hlen hm hlaw hq hft htn hbd hspot hn p1 p2 a1 a2 b1 b2
  go_enter Try.func6, Try.ntmps6
  go_wp2_with fail
  (with_reducible refine (head_any _).mono ?_); rintro e w1 ⟨rfl, hb1⟩
  have HB := Lib.hid (((Below.refl w.heap.size w).alloc (Nat.le_refl _) _).trans (hb1.mono (by simp)))
  have K3 := Lib.hid (Reg.Blk.new1 hb1)
  obtain ⟨c3, f3', z3⟩ := K3.out.facts
  clear hb1
  go_wp2_with fail
  (with_reducible refine (HQ.out _ (HL.out.below HB.out)).mono ?_); rintro e w2 ⟨rfl, hb2⟩
  replace HB := Lib.hid (HB.out.trans (hb2.mono HB.out.size))
  replace K3 := Lib.hid (K3.out.keep hb2)
  clear hb2 HQ c3 f3' z3
  have hal : Below w2.heap.size w2 (w2.alloc (.cells #[.int .i64 (j : Int), .int .i64 f1, .int .i64 f2, .int .i64 sd, .int .i64 f3, .int .i64 f4] 34)) := (Below.refl _ _).alloc (Nat.le_refl _) _
  have K6 := Lib.hid (Reg.Blk.new w2 #[.int .i64 (j : Int), .int .i64 f1, .int .i64 f2, .int .i64 sd, .int .i64 f3, .int .i64 f4] 34)
  replace K3 := Lib.hid (K3.out.keep hal)
  replace HB := Lib.hid (HB.out.trans (hal.mono HB.out.size))
  clear hal
  go_wp2_with fail
  (with_reducible refine (HV.out _ (HL.out.below HB.out)).mono ?_); rintro e w3 ⟨rfl, hb3⟩
  replace HB := Lib.hid (HB.out.trans (hb3.mono HB.out.size))
  replace K3 := Lib.hid (K3.out.keep hb3)
  replace K6 := Lib.hid (K6.out.keep hb3)
  clear hb3 HV
  obtain ⟨c3, f3', z3⟩ := K3.out.facts
  go_wp2_with fail
  (with_reducible refine (HON.out _).mono ?_); rintro e w4 ⟨rfl, hb4⟩
  replace HB := Lib.hid (HB.out.trans (hb4.mono HB.out.size))
  replace K3 := Lib.hid (K3.out.keep hb4)
  replace K6 := Lib.hid (K6.out.keep hb4)
  clear hb4 HON c3 f3' z3
  obtain ⟨c6, f6, z6⟩ := K6.out.facts
  go_wp2_with fail
  obtain ⟨c3, f3', z3⟩ := K3.out.facts
  obtain ⟨b, off, hA, hb, c0, c1, d0, d1⟩ := line_two (HL.out.below HB.out) (j := j) (n := n) (by have := HJ.out; omega) (by have := HJ.out; have := HN.out; omega)
  subst hA
  have HPJ : Hid (n = j + 1) := HN.out
  have hp1 : pt l (j + 1) = pt l n := by rw [HN.out]
  have HPP := Lib.hid hp1
  clear hp1
  have HAx : Hid (∃ q, q = (pt l j).1) := ⟨_, rfl⟩
  generalize hax : (pt l j).1 = ax at *
  generalize hay : (pt l j).2 = ay at *
  generalize hbx : (pt l n).1 = bx at *
  generalize hbz : (pt l n).2 = bz at *
  clear hax hay hbx hbz HAx
  simp only [HD60.out, HDj.out, HDn.out, Bool.or_self]
  refine Reg.wp_region_seq (by kernel_rfl) (by kernel_rfl) ?_
  simp only
  iterate 17
    apply Reg.SeqOK.val
    · intro γ W hW K hK
      obtain ⟨hc, hf, _⟩ := bcell hW
      simp only [Act.put, List.setIfInBounds_toArray, List.set_cons_zero, List.set_cons_succ] at hK
      unfold Reg.Does
      go_simp
      try simp only [IntWalk.i64_left]
      first
        | exact hK _ (Below.refl _ _)
        | (go_at_call 20; (with_reducible refine (HFT.out _).mono ?_); rintro e w' ⟨rfl, hb⟩; exact hK _ hb)
        | (trace_state; fail)
    simp only [Act.put, List.setIfInBounds_toArray, List.set_cons_zero, List.set_cons_succ, List.nil_append, List.cons_append, Nat.reduceAdd, Nat.zero_add]
  iterate 2
    apply Reg.SeqOK.box
    · intro γ W hW K hK
      simp only [Act.put, List.setIfInBounds_toArray, List.set_cons_zero, List.set_cons_succ] at hK
      unfold Reg.Does
      go_simp
      exact hK
    simp only [Act.put, List.setIfInBounds_toArray, List.set_cons_zero, List.set_cons_succ, List.nil_append, List.cons_append, Nat.reduceAdd, Nat.zero_add]
  refine Reg.SeqOK.st 17 _ _ _ rfl (by kernel_rfl) ?_ ?_
  · intro γ W hW hge hat K hK
    obtain ⟨hcl, hfr⟩ := Reg.cells_at hat
    simp only [Act.put, List.setIfInBounds_toArray, List.set_cons_zero, List.set_cons_succ] at hK
    unfold Reg.Does
    go_simp
    exact hK _ (Reg.upd2 hat)
  simp only [Act.put, List.setIfInBounds_toArray, List.set_cons_zero, List.set_cons_succ, List.nil_append, List.cons_append, Nat.reduceAdd, Nat.zero_add]
  refine Reg.SeqOK.st 18 _ _ _ rfl (by kernel_rfl) ?_ ?_
  · intro γ W hW hge hat K hK
    obtain ⟨hcl, hfr⟩ := Reg.cells_at hat
    simp only [Act.put, List.setIfInBounds_toArray, List.set_cons_zero, List.set_cons_succ] at hK
    unfold Reg.Does
    go_simp
    exact hK _ (Reg.upd2 hat)
  simp only [Act.put, List.setIfInBounds_toArray, List.set_cons_zero, List.set_cons_succ, List.nil_append, List.cons_append, Nat.reduceAdd, Nat.zero_add]
  iterate 1
    apply Reg.SeqOK.val
    · intro γ W hW K hK
      obtain ⟨hc, hf, _⟩ := bcell hW
      simp only [Act.put, List.setIfInBounds_toArray, List.set_cons_zero, List.set_cons_succ] at hK
      unfold Reg.Does
      go_simp
      try simp only [IntWalk.i64_left]
      first
        | exact hK _ (Below.refl _ _)
        | (trace_state; fail)
    simp only [Act.put, List.setIfInBounds_toArray, List.set_cons_zero, List.set_cons_succ, List.nil_append, List.cons_append, Nat.reduceAdd, Nat.zero_add]
  refine Reg.SeqOK.nil (by kernel_rfl) (fun γ W hW hBx _ _ => ?_)
  simp only [Reg.Boxes, and_true, true_and, Nat.reduceAdd, Nat.zero_add] at hBx
  obtain ⟨⟨_, _, at0⟩, _, _, at1⟩ := hBx
  generalize γ 17 = g8 at *
  generalize γ 18 = g9 at *
  have e3 := (bcell hW).1
  replace c0 := (e3 b _ hb).trans c0
  replace c1 := (e3 b _ hb).trans c1
  replace d0 := (e3 b _ hb).trans d0
  replace d1 := (e3 b _ hb).trans d1
  replace hb := Nat.lt_of_lt_of_le hb hW.size
  replace HB := Lib.hid (HB.out.trans (hW.mono HB.out.size))
  replace K3 := Lib.hid (K3.out.keep hW)
  replace K6 := Lib.hid (K6.out.keep hW)
  have K8 : Hid (Reg.Blk g8 _ _ W) := at0
  have K9 : Hid (Reg.Blk g9 _ _ W) := at1
  clear e3 hW at0 at1 c6 f6 z6 c3 f3' z3 HFT
  obtain ⟨c6, f6, z6⟩ := K6.out.facts
  obtain ⟨c3, f3', z3⟩ := K3.out.facts
  obtain ⟨c8, f8, z8⟩ := K8.out.facts
  obtain ⟨c9, f9, z9⟩ := K9.out.facts
  go_wp2_with fail
  refine Reg.wp_region_seq (by kernel_rfl) (by kernel_rfl) ?_
  simp only
  iterate 32
    apply Reg.SeqOK.val
    · intro γ W hW K hK
      obtain ⟨hc, hf, _⟩ := bcell hW
      simp only [Act.put, List.setIfInBounds_toArray, List.set_cons_zero, List.set_cons_succ] at hK
      unfold Reg.Does
      go_simp
      try simp only [IntWalk.i64_left]
      first
        | exact hK _ (Below.refl _ _)
        | (go_at_call 21; (with_reducible refine (HTN.out _).mono ?_); rintro e w' ⟨rfl, hb⟩; exact hK _ hb)
        | (trace_state; fail)
    simp only [Act.put, List.setIfInBounds_toArray, List.set_cons_zero, List.set_cons_succ, List.nil_append, List.cons_append, Nat.reduceAdd, Nat.zero_add]
  refine Reg.SeqOK.nil (by kernel_rfl) (fun γ W' hW _ _ _ => ?_)
  replace HB := Lib.hid (HB.out.trans (hW.mono HB.out.size))
  replace K3 := Lib.hid (K3.out.keep hW)
  replace K6 := Lib.hid (K6.out.keep hW)
  replace K8 := Lib.hid (K8.out.keep hW)
  clear hW c0 c1 d0 d1 hb K9 c6 f6 z6 c3 f3' z3 c8 f8 z8 c9 f9 z9 HTN
  go_wp2_with fail
  have H0 := Lib.hid (And.intro HB.out (And.intro K3.out (And.intro K6.out K8.out)))
  generalize w2.heap.size = g6 at *
  clear HB K3 K6 K8
  go_loopw [11, 12] (fun o i wr => ∃ k : Nat, k ≤ m ∧ i = .int .i64 k ∧ o = .bool (onN l px py k) ∧ Below w.heap.size w wr ∧ Reg.Blk w.heap.size #[.int .i64 px, .int .i64 py] 24 wr ∧ Reg.Blk g6 #[.int .i64 (j : Int), .int .i64 f1, .int .i64 f2, .int .i64 sd, .int .i64 f3, .int .i64 f4] 34 wr ∧ Reg.Blk g8 #[.int .i64 f1, .int .i64 f2] 32 wr) (fun _ i _ => m - (intOf i).toNat)
  case atStart => exact ⟨0, Nat.zero_le _, rfl, by rw [HOn0.out], H0.out.1, H0.out.2.1, H0.out.2.2.1, H0.out.2.2.2⟩
  case round =>
    obtain ⟨k, hk, rfl, rfl, hbw, hk3, hk6, hk8⟩ := hrel
    have HB := Lib.hid hbw
    have K3 := Lib.hid hk3
    have K6 := Lib.hid hk6
    have K8 := Lib.hid hk8
    clear hbw hk3 hk6 hk8 H0
    obtain ⟨q, hq⟩ : ∃ q, q = k + 1 := ⟨_, rfl⟩
    have hwk : IntKind.i64.wrap ((k : Int) + 1) = (q : Int) := by rw [show (k : Int) + 1 = (q : Int) by omega]; exact i64_in _ (by omega) (by have := HJ.out; omega)
    have HKQ := Lib.hid hq
    obtain ⟨c3, f3', z3⟩ := K3.out.facts
    obtain ⟨c6, f6, z6⟩ := K6.out.facts
    by_cases hlt : k < m
    · have hql : (q : Int) < (l.length : Int) := by have := HJ.out; omega
      have hkl : (k : Int) < (l.length : Int) := by have := HJ.out; omega
      have hk0 : (0 : Int) ≤ (k : Int) := by omega
      have hq0 : (0 : Int) ≤ (q : Int) := by omega
      obtain ⟨b', off', hA, hb, c0, c1, d0, d1⟩ := line_two (HL.out.below HB.out) (j := k) (n := q) (by have := HJ.out; omega) (by have := HJ.out; omega)
      obtain ⟨rfl, rfl⟩ : b = b' ∧ off = off' := by injection hA with h; injection h with h1 h2; exact ⟨h1, h2⟩
      obtain ⟨x1, x2, x3, x4, bx3, bx4, hf2, hc2, hc1, hcj⟩ := HNear.out k hlt
      obtain ⟨qb, hbt, hnx⟩ := HBetw.out k
      rw [← hq] at hf2 hbt hnx
      have HF2 := Lib.hid hf2
      have HBT := Lib.hid hbt
      have HNX := Lib.hid hnx
      have HC := Lib.hid (fun W => compare_any x3 x4 f3 f4 W bx3 bx4 HBD.out.1 HBD.out.2)
      generalize compareI x3 x4 f3 f4 = cr at *
      obtain ⟨cr1, cr2⟩ := cr
      simp only at hc2 hc1 hcj HC
      subst hc2
      have HCJ := Lib.hid hcj
      generalize (pt l k).1 = ux at *
      generalize (pt l k).2 = uy at *
      generalize (pt l q).1 = vx at *
      generalize (pt l q).2 = vy at *
      generalize onN l px py k = oq at *
      have hdq : decide ((q : Int) < (l.length : Int)) = true := decide_eq_true hql
      have hdq2 : decide (q < l.length) = true := decide_eq_true (by omega)
      clear hf2 hbt hnx hA bx3 bx4 hcj hq
      go_wp2_with fail
      refine Reg.wp_region_seq (by kernel_rfl) (by kernel_rfl) ?_
      simp only
      iterate 15
        apply Reg.SeqOK.val
        · intro γ W hW K hK
          obtain ⟨hc, hf, _⟩ := bcell hW
          simp only [Act.put, List.setIfInBounds_toArray, List.set_cons_zero, List.set_cons_succ] at hK
          unfold Reg.Does
          go_simp
          try simp only [IntWalk.i64_left]
          first
            | exact hK _ (Below.refl _ _)
            | (go_at_call 20; (with_reducible refine (HF2.out _).mono ?_); rintro e w' ⟨rfl, hb⟩; exact hK _ hb)
            | (trace_state; fail)
        simp only [Act.put, List.setIfInBounds_toArray, List.set_cons_zero, List.set_cons_succ, List.nil_append, List.cons_append, Nat.reduceAdd, Nat.zero_add]
      iterate 2
        apply Reg.SeqOK.box
        · intro γ W hW K hK
          simp only [Act.put, List.setIfInBounds_toArray, List.set_cons_zero, List.set_cons_succ] at hK
          unfold Reg.Does
          go_simp
          exact hK
        simp only [Act.put, List.setIfInBounds_toArray, List.set_cons_zero, List.set_cons_succ, List.nil_append, List.cons_append, Nat.reduceAdd, Nat.zero_add]
      refine Reg.SeqOK.st 15 _ _ _ rfl (by kernel_rfl) ?_ ?_
      · intro γ W hW hge hat K hK
        obtain ⟨hcl, hfr⟩ := Reg.cells_at hat
        simp only [Act.put, List.setIfInBounds_toArray, List.set_cons_zero, List.set_cons_succ] at hK
        unfold Reg.Does
        go_simp
        exact hK _ (Reg.upd2 hat)
      simp only [Act.put, List.setIfInBounds_toArray, List.set_cons_zero, List.set_cons_succ, List.nil_append, List.cons_append, Nat.reduceAdd, Nat.zero_add]
      refine Reg.SeqOK.st 16 _ _ _ rfl (by kernel_rfl) ?_ ?_
      · intro γ W hW hge hat K hK
        obtain ⟨hcl, hfr⟩ := Reg.cells_at hat
        simp only [Act.put, List.setIfInBounds_toArray, List.set_cons_zero, List.set_cons_succ] at hK
        unfold Reg.Does
        go_simp
        exact hK _ (Reg.upd2 hat)
      simp only [Act.put, List.setIfInBounds_toArray, List.set_cons_zero, List.set_cons_succ, List.nil_append, List.cons_append, Nat.reduceAdd, Nat.zero_add]
      iterate 1
        apply Reg.SeqOK.val
        · intro γ W hW K hK
          obtain ⟨hc, hf, _⟩ := bcell hW
          simp only [Act.put, List.setIfInBounds_toArray, List.set_cons_zero, List.set_cons_succ] at hK
          unfold Reg.Does
          go_simp
          try simp only [IntWalk.i64_left]
          first
            | exact hK _ (Below.refl _ _)
            | (trace_state; fail)
        simp only [Act.put, List.setIfInBounds_toArray, List.set_cons_zero, List.set_cons_succ, List.nil_append, List.cons_append, Nat.reduceAdd, Nat.zero_add]
      refine Reg.SeqOK.nil (by kernel_rfl) (fun γ W5 hW hBx _ _ => ?_)
      simp only [Reg.Boxes, and_true, true_and, Nat.reduceAdd, Nat.zero_add] at hBx
      obtain ⟨⟨_, _, at0⟩, _, _, at1⟩ := hBx
      generalize γ 15 = g13 at *
      generalize γ 16 = g14 at *
      have e3 := (bcell hW).1
      replace c0 := (e3 b _ hb).trans c0
      replace c1 := (e3 b _ hb).trans c1
      replace d0 := (e3 b _ hb).trans d0
      replace d1 := (e3 b _ hb).trans d1
      replace hb := Nat.lt_of_lt_of_le hb hW.size
      replace HB := Lib.hid (HB.out.trans (hW.mono HB.out.size))
      replace K3 := Lib.hid (K3.out.keep hW)
      replace K6 := Lib.hid (K6.out.keep hW)
      replace K8 := Lib.hid (K8.out.keep hW)
      have K14 : Reg.Blk g14 _ _ W5 := at1
      clear e3 hW at0 at1 c6 f6 z6 c3 f3' z3 HF2
      obtain ⟨c6, f6, z6⟩ := K6.out.facts
      obtain ⟨c14, f14, z14⟩ := K14.facts
      clear K14
      go_wp2_with fail
      (with_reducible refine (HC.out _).mono ?_); rintro e w6 ⟨rfl, hb6⟩
      have e3 := (bcell hb6).1
      replace c0 := (e3 b _ hb).trans c0
      replace c1 := (e3 b _ hb).trans c1
      replace d0 := (e3 b _ hb).trans d0
      replace d1 := (e3 b _ hb).trans d1
      replace hb := Nat.lt_of_lt_of_le hb hb6.size
      replace HB := Lib.hid (HB.out.trans (hb6.mono HB.out.size))
      replace K3 := Lib.hid (K3.out.keep hb6)
      replace K6 := Lib.hid (K6.out.keep hb6)
      replace K8 := Lib.hid (K8.out.keep hb6)
      clear e3 hb6 HC c6 f6 z6 c14 f14 z14
      obtain ⟨c3, f3', z3⟩ := K3.out.facts
      obtain ⟨c6, f6, z6⟩ := K6.out.facts
      have hcneg : decide (cr1 < 0) = false := decide_eq_false (by omega)
      by_cases hkj : k < j
      · have hd1 : decide ((k : Int) < (j : Int)) = true := decide_eq_true (by omega)
        have hd2 : decide (k < j) = true := decide_eq_true hkj
        have hcb : (cr1 == 0) = false := by rw [beq_eq_false_iff_ne]; exact HCJ.out hkj
        clear hkj
        go_wp2_with fail
        cases oq with
        | true =>
          refine Reg.wp_region_seq (by kernel_rfl) (by kernel_rfl) ?_
          simp only
          iterate 15
            apply Reg.SeqOK.val
            · intro γ W hW K hK
              obtain ⟨hc, hf, _⟩ := bcell hW
              simp only [Act.put, List.setIfInBounds_toArray, List.set_cons_zero, List.set_cons_succ] at hK
              unfold Reg.Does
              go_simp
              try simp only [IntWalk.i64_left]
              first
                | exact hK _ (Below.refl _ _)
                | (go_at_call 22; (with_reducible refine (HBT.out _).mono ?_); rintro e w' ⟨rfl, hb⟩; exact hK _ hb)
                | (trace_state; fail)
            simp only [Act.put, List.setIfInBounds_toArray, List.set_cons_zero, List.set_cons_succ, List.nil_append, List.cons_append, Nat.reduceAdd, Nat.zero_add]
          refine Reg.SeqOK.nil (by kernel_rfl) (fun γ W7 hW _ _ _ => ?_)
          replace HB := Lib.hid (HB.out.trans (hW.mono HB.out.size))
          replace K3 := Lib.hid (K3.out.keep hW)
          replace K6 := Lib.hid (K6.out.keep hW)
          replace K8 := Lib.hid (K8.out.keep hW)
          clear hW c0 c1 d0 d1 hb c3 f3' z3 c6 f6 z6
          go_wp2_with fail
          refine ⟨⟨k + 1, by omega, by rw [HKQ.out], by rw [← HKQ.out, HNX.out]; rfl, HB.out, K3.out, K6.out, K8.out⟩, by have := HKQ.out; simp [intOf]; omega⟩
        | false =>
          refine Reg.wp_region_seq (by kernel_rfl) (by kernel_rfl) ?_
          simp only
          iterate 15
            apply Reg.SeqOK.val
            · intro γ W hW K hK
              obtain ⟨hc, hf, _⟩ := bcell hW
              simp only [Act.put, List.setIfInBounds_toArray, List.set_cons_zero, List.set_cons_succ] at hK
              unfold Reg.Does
              go_simp
              try simp only [IntWalk.i64_left]
              first
                | exact hK _ (Below.refl _ _)
                | (go_at_call 22; (with_reducible refine (HBT.out _).mono ?_); rintro e w' ⟨rfl, hb⟩; exact hK _ hb)
                | (trace_state; fail)
            simp only [Act.put, List.setIfInBounds_toArray, List.set_cons_zero, List.set_cons_succ, List.nil_append, List.cons_append, Nat.reduceAdd, Nat.zero_add]
          refine Reg.SeqOK.nil (by kernel_rfl) (fun γ W7 hW _ _ _ => ?_)
          replace HB := Lib.hid (HB.out.trans (hW.mono HB.out.size))
          replace K3 := Lib.hid (K3.out.keep hW)
          replace K6 := Lib.hid (K6.out.keep hW)
          replace K8 := Lib.hid (K8.out.keep hW)
          clear hW c0 c1 d0 d1 hb c3 f3' z3 c6 f6 z6
          go_wp2_with fail
          refine ⟨⟨k + 1, by omega, by rw [HKQ.out], by rw [← HKQ.out, HNX.out]; rfl, HB.out, K3.out, K6.out, K8.out⟩, by have := HKQ.out; simp [intOf]; omega⟩
      · have hd1 : decide ((k : Int) < (j : Int)) = false := decide_eq_false (by omega)
        have hd2 : decide (k < j) = false := decide_eq_false hkj
        clear hkj
        go_wp2_with fail
        cases oq with
        | true =>
          refine Reg.wp_region_seq (by kernel_rfl) (by kernel_rfl) ?_
          simp only
          iterate 15
            apply Reg.SeqOK.val
            · intro γ W hW K hK
              obtain ⟨hc, hf, _⟩ := bcell hW
              simp only [Act.put, List.setIfInBounds_toArray, List.set_cons_zero, List.set_cons_succ] at hK
              unfold Reg.Does
              go_simp
              try simp only [IntWalk.i64_left]
              first
                | exact hK _ (Below.refl _ _)
                | (go_at_call 22; (with_reducible refine (HBT.out _).mono ?_); rintro e w' ⟨rfl, hb⟩; exact hK _ hb)
                | (trace_state; fail)
            simp only [Act.put, List.setIfInBounds_toArray, List.set_cons_zero, List.set_cons_succ, List.nil_append, List.cons_append, Nat.reduceAdd, Nat.zero_add]
          refine Reg.SeqOK.nil (by kernel_rfl) (fun γ W7 hW _ _ _ => ?_)
          replace HB := Lib.hid (HB.out.trans (hW.mono HB.out.size))
          replace K3 := Lib.hid (K3.out.keep hW)
          replace K6 := Lib.hid (K6.out.keep hW)
          replace K8 := Lib.hid (K8.out.keep hW)
          clear hW c0 c1 d0 d1 hb c3 f3' z3 c6 f6 z6
          go_wp2_with fail
          refine ⟨⟨k + 1, by omega, by rw [HKQ.out], by rw [← HKQ.out, HNX.out]; rfl, HB.out, K3.out, K6.out, K8.out⟩, by have := HKQ.out; simp [intOf]; omega⟩
        | false =>
          refine Reg.wp_region_seq (by kernel_rfl) (by kernel_rfl) ?_
          simp only
          iterate 15
            apply Reg.SeqOK.val
            · intro γ W hW K hK
              obtain ⟨hc, hf, _⟩ := bcell hW
              simp only [Act.put, List.setIfInBounds_toArray, List.set_cons_zero, List.set_cons_succ] at hK
              unfold Reg.Does
              go_simp
              try simp only [IntWalk.i64_left]
              first
                | exact hK _ (Below.refl _ _)
                | (go_at_call 22; (with_reducible refine (HBT.out _).mono ?_); rintro e w' ⟨rfl, hb⟩; exact hK _ hb)
                | (trace_state; fail)
            simp only [Act.put, List.setIfInBounds_toArray, List.set_cons_zero, List.set_cons_succ, List.nil_append, List.cons_append, Nat.reduceAdd, Nat.zero_add]
          refine Reg.SeqOK.nil (by kernel_rfl) (fun γ W7 hW _ _ _ => ?_)
          replace HB := Lib.hid (HB.out.trans (hW.mono HB.out.size))
          replace K3 := Lib.hid (K3.out.keep hW)
          replace K6 := Lib.hid (K6.out.keep hW)
          replace K8 := Lib.hid (K8.out.keep hW)
          clear hW c0 c1 d0 d1 hb c3 f3' z3 c6 f6 z6
          go_wp2_with fail
          refine ⟨⟨k + 1, by omega, by rw [HKQ.out], by rw [← HKQ.out, HNX.out]; rfl, HB.out, K3.out, K6.out, K8.out⟩, by have := HKQ.out; simp [intOf]; omega⟩
    · obtain rfl : k = m := by omega
      obtain rfl : q = l.length := by have := HJ.out; omega
      obtain ⟨c8, f8, z8⟩ := K8.out.facts
      obtain ⟨l1, l2, l3⟩ := HLaw.out
      generalize onN l px py k = oq at *
      by_cases hz : f3 = 0
      · have ho : oq = true := by rw [l1]; exact decide_eq_true hz
        have hs := l2 ho
        subst hz hs ho
        clear l1 l2 l3
        by_cases i1 : 0 < f1
        · by_cases i2 : f1 < f2
          · go_wp2_with fail
            go_ret
            exact ⟨ret_bool (by simp), HB.out⟩
          · go_wp2_with fail
            go_ret
            exact ⟨ret_bool (by simp), HB.out⟩
        · go_wp2_with fail
          go_ret
          exact ⟨ret_bool (by simp), HB.out⟩
      · have ho : oq = false := by rw [l1]; exact decide_eq_false hz
        have hzb : (f3 == 0) = false := by rw [beq_eq_false_iff_ne]; exact hz
        have L3 : Hid (0 < f1 → f1 < f2 → (sd == 0) = false) := fun i1 i2 => by
          have h := l3 i1 i2
          rw [ho] at h
          rw [beq_eq_false_iff_ne]
          exact of_decide_eq_false h
        subst ho
        clear l1 l2 l3 hz
        by_cases i1 : 0 < f1
        · by_cases i2 : f1 < f2
          · have hsd := L3.out i1 i2
            go_wp2_with fail
            go_ret
            exact ⟨ret_bool (by simp), HB.out⟩
          · go_wp2_with fail
            go_ret
            exact ⟨ret_bool (by simp), HB.out⟩
        · go_wp2_with fail
          go_ret
          exact ⟨ret_bool (by simp), HB.out⟩

theorem isnear_long (A : Option Addr) (c n : Nat) (px py : Int) (w : World) (hn : 60 < n) :
    Calls Try.prog 6 #[.slice A n c, .agg #[.int .i64 px, .int .i64 py]] w fun e w' => e = .returned (.bool true) ∧ Below w.heap.size w w' := by
  have hn' : (60 : Int) < (n : Int) := by omega
  go_enter Try.func6, Try.ntmps6
  go_wp2_with fail
  (with_reducible refine (head_any _).mono ?_); rintro e w1 ⟨rfl, hb1⟩
  have HB := Lib.hid (((Below.refl w.heap.size w).alloc (Nat.le_refl _) _).trans (hb1.mono (by simp)))
  clear hb1
  go_wp2_with fail
  go_ret
  exact ⟨rfl, HB.out⟩
theorem isnear_walk (A : Option Addr) (c : Nat) (l : List P2) (px py : Int) (w : World) (hl : LineAt w A l) (_hn : (l.length ≤ c ∧ c ≤ maxLen) ∧ (A = none → c = 0)) (_hx : -9223372036854775808 ≤ px ∧ px ≤ 9223372036854775807) (_hy : -9223372036854775808 ≤ py ∧ py ≤ 9223372036854775807) :
    Calls Try.prog 6 #[.slice A l.length c, .agg #[.int .i64 px, .int .i64 py]] w fun e w' => e = .returned (.bool true) ∧ Below w.heap.size w w' := by
  by_cases h60 : 60 < l.length
  · exact isnear_long A c _ px py w h60
  · cases hv : validL l && onB px py with
    | false => exact isnear_no A c l px py w hl (by omega) hv
    | true =>
      rw [Bool.and_eq_true] at hv
      obtain ⟨j, hb⟩ := best_of hv.1 hv.2
      exact isnear_ok A c l px py w hl hv.1 hv.2 j hb

end G
end Go.Proofs.Ytjeapimjgojpoaa
