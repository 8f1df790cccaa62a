/- Lines: the walk of 'LineTurns'. -/
import Derived.Test.YtjeapimjgojpoaaIj
import Derived.Test.YtjeapimjgojpoaaIr
set_option linter.unusedSimpArgs false
set_option linter.unusedVariables false
set_option maxRecDepth 100000
namespace Go.Proofs.Ytjeapimjgojpoaa
open Go.RowKit
namespace G

theorem line_pair {w : World} {A : Option Addr} {l : List P2} (h : LineAt w A l) {j n : Nat} (hj : j < l.length) (hn : n < l.length) : ∃ b off, A = some ⟨b, off, none⟩ ∧ b < w.heap.size ∧
    w.cell? ⟨b, off + j * 2, none⟩ = some (.int .i64 (pt l j).1) ∧ w.cell? ⟨b, off + j * 2 + 1, none⟩ = some (.int .i64 (pt l j).2) ∧ w.cell? ⟨b, off + n * 2, none⟩ = some (.int .i64 (pt l n).1) ∧ w.cell? ⟨b, off + n * 2 + 1, none⟩ = some (.int .i64 (pt l n).2) := by
  obtain ⟨b, off, hA, hb, c0, c1⟩ := h j hj
  obtain ⟨b', off', hA', _, d0, d1⟩ := h n hn
  rw [hA] at hA'
  injection hA' with h1
  injection h1 with h2 h3
  subst h2 h3
  exact ⟨b, off, hA, hb, c0, c1, d0, d1⟩
theorem run_neq_frt (a b : Int) (w : World) : (binOp .neq 32 (.agg #[.int .i64 a, .int .i64 b]) (.agg #[.int .i64 a, .int .i64 b])).run Try.prog w = .ok (.bool false) w := by go_simp
theorem run_eql_frt (a b : Int) (w : World) : (binOp .eql 32 (.agg #[.int .i64 a, .int .i64 b]) (.agg #[.int .i64 a, .int .i64 b])).run Try.prog w = .ok (.bool true) w := by go_simp

theorem turns_long (A : Option Addr) (c n : Nat) (px py : Int) (w : World) (hn : 60 < n) :
    Calls Try.prog 9 #[.slice A n c, .agg #[.int .i64 px, .int .i64 py]] w fun e w' => e = .returned (.bool true) ∧ Below w.heap.size w w' := by
  have hn' : (60 : Int) < (n : Int) := by omega
  go_enter Try.func9, Try.ntmps9
  go_wp2_with fail
  (with_reducible refine (head_any _).mono ?_); rintro e w1 ⟨rfl, hb1⟩
  have HB := Lib.hid (((Below.refl w.heap.size w).alloc (Nat.le_refl _) _).trans (hb1.mono (by simp)))
  clear hb1
  go_wp2_with fail
  go_ret
  exact ⟨rfl, HB.out⟩
/-- 'Turned' of a valid line. -/
theorem turn1 (l : List P2) (A : Option Addr) (c : Nat) (w : World) (hv : validL l = true) (hl : LineAt w A l) (hc : l.length ≤ c) (hA : A = none → c = 0) :
    Calls Try.prog 27 #[.slice A l.length c] w fun e w' => (∃ A2 c2, e = .returned (.slice A2 l.length c2) ∧ LineAt w' A2 l.reverse ∧ l.length ≤ c2 ∧ (A2 = none → c2 = 0)) ∧ Below w.heap.size w w' := by
  have hlen := valid_len hv
  refine (turned_any l A c w (by omega) hl hc hA).mono ?_
  rintro e w' ⟨⟨v, rfl, ho⟩, hb⟩
  refine ⟨?_, hb⟩
  have e1 : turnL l = l.reverse := by unfold turnL; rw [hv]; rfl
  rw [e1] at ho
  obtain ⟨A2, c2, rfl, h1, h2, h3, h4⟩ := ho.parts
  rw [List.length_reverse] at h2 ⊢
  exact ⟨A2, c2, rfl, h1, h2, h4⟩

set_option maxHeartbeats 4000000 in
theorem turns_no (A : Option Addr) (c : Nat) (l : List P2) (px py : Int) (w : World) (hl : LineAt w A l) (h60 : l.length ≤ 60) (hc : l.length ≤ c) (hA : A = none → c = 0) (hv : validL l = false) :
    Calls Try.prog 9 #[.slice A l.length c, .agg #[.int .i64 px, .int .i64 py]] w fun e w' => e = .returned (.bool true) ∧ Below w.heap.size w w' := by
  have HL := Lib.hid hl
  have HQ := Lib.hid (fun W (h : LineAt W A l) => locate_any A c l px py W h (by omega))
  unfold locS locE at HQ
  rw [hv] at HQ
  simp only [Bool.false_and, Bool.false_eq_true, if_false, Spt.cells, spt0] at HQ
  have HV := Lib.hid (fun W (h : LineAt W A l) => valid_line A c l W h (by omega))
  rw [hv] at HV
  have HT : Hid (∀ W, LineAt W A l → Calls Try.prog 27 #[.slice A l.length c] W fun e w' => (∃ A2 c2, e = .returned (.slice A2 0 c2)) ∧ Below W.heap.size W w') := fun W h => by
    refine (turned_any l A c W (by omega) h hc hA).mono ?_
    rintro e w' ⟨⟨v, rfl, ho⟩, hb⟩
    refine ⟨?_, hb⟩
    have e1 : turnL l = [] := by unfold turnL; rw [hv]; rfl
    rw [e1] at ho
    obtain ⟨A2, c2, rfl, _⟩ := ho.parts
    exact ⟨A2, c2, rfl⟩
  have hn : ¬ (60 : Int) < (l.length : Int) := by omega
  clear hl h60 hc hA hv
  go_enter Try.func9, Try.ntmps9
  go_wp2_with fail
  (with_reducible refine (head_any _).mono ?_); rintro e w1 ⟨rfl, hb1⟩
  have HB := Lib.hid (((Below.refl w.heap.size w).alloc (Nat.le_refl _) _).trans (hb1.mono (by simp)))
  have K3 := Lib.hid (Reg.Blk.new1 hb1)
  clear hb1
  go_wp2_with fail
  (with_reducible refine (HT.out _ (HL.out.below HB.out)).mono ?_); rintro e w2 ⟨⟨A2, c2, rfl⟩, hb2⟩
  replace HB := Lib.hid (HB.out.trans (hb2.mono HB.out.size))
  replace K3 := Lib.hid (K3.out.keep hb2)
  obtain ⟨c3, f3, z3⟩ := K3.out.facts
  clear hb2 HT
  go_wp2_with fail
  (with_reducible refine (HQ.out _ (HL.out.below HB.out)).mono ?_); rintro e w3 ⟨rfl, hb3⟩
  replace HB := Lib.hid (HB.out.trans (hb3.mono HB.out.size))
  clear hb3 HQ c3 f3 z3
  have hal : Below w3.heap.size w3 (w3.alloc (.cells #[.int .i64 0, .int .i64 0, .int .i64 0, .int .i64 0, .int .i64 0, .int .i64 0] 34)) := (Below.refl _ _).alloc (Nat.le_refl _) _
  replace HB := Lib.hid (HB.out.trans (hal.mono HB.out.size))
  clear hal
  go_wp2_with fail
  (with_reducible refine (HV.out _ (HL.out.below HB.out)).mono ?_); rintro e w4 ⟨rfl, hb4⟩
  replace HB := Lib.hid (HB.out.trans (hb4.mono HB.out.size))
  clear hb4 HV
  go_wp2_with fail
  go_ret
  exact ⟨rfl, HB.out⟩

set_option maxHeartbeats 4000000 in
theorem turns_off (A : Option Addr) (c : Nat) (l : List P2) (px py : Int) (w : World) (hl : LineAt w A l) (hc : l.length ≤ c) (hA : A = none → c = 0) (hv : validL l = true) (hon : onB px py = false) :
    Calls Try.prog 9 #[.slice A l.length c, .agg #[.int .i64 px, .int .i64 py]] w fun e w' => e = .returned (.bool true) ∧ Below w.heap.size w w' := by
  have hlen := valid_len hv
  have hr := valid_rev hv
  have HL := Lib.hid hl
  have HQ := Lib.hid (fun W (h : LineAt W A l) => locate_any A c l px py W h (by omega))
  have HQ2 := fun W A2 c2 (h : LineAt W A2 l.reverse) => locate_any A2 c2 l.reverse px py W h (by rw [List.length_reverse]; omega)
  unfold locS locE at HQ HQ2
  rw [hv, hon] at HQ
  rw [hr, hon] at HQ2
  rw [List.length_reverse] at HQ2
  have HQ2 := Lib.hid HQ2
  simp only [Bool.and_false, Bool.false_eq_true, if_false, Spt.cells, spt0] at HQ HQ2
  have HV := Lib.hid (fun W (h : LineAt W A l) => valid_line A c l W h (by omega))
  rw [hv] at HV
  have HT := Lib.hid (fun W (h : LineAt W A l) => turn1 l A c W hv h hc hA)
  have ht2 := fun W A2 c2 (h : LineAt W A2 l.reverse) => turn1 l.reverse A2 c2 W hr h
  rw [List.length_reverse, List.reverse_reverse] at ht2
  have HT2 := Lib.hid ht2
  have HS := Lib.hid (fun W A3 c3 (h : LineAt W A3 l) (h' : LineAt W A l) => same_pts A3 A c3 c l W h h' (by omega))
  generalize l.reverse = r at *
  have hn : ¬ (60 : Int) < (l.length : Int) := by omega
  clear hl hlen hc hA hv hr hon ht2
  go_enter Try.func9, Try.ntmps9
  go_wp2_with fail
  (with_reducible refine (head_any _).mono ?_); rintro e w1 ⟨rfl, hb1⟩
  have HB := Lib.hid (((Below.refl w.heap.size w).alloc (Nat.le_refl _) _).trans (hb1.mono (by simp)))
  have K3 := Lib.hid (Reg.Blk.new1 hb1)
  clear hb1
  go_wp2_with fail
  (with_reducible refine (HT.out _ (HL.out.below HB.out)).mono ?_); rintro e w2 ⟨⟨A2, c2, rfl, hl2, hcc⟩, hb2⟩
  have HC := Lib.hid hcc
  have HL2 := Lib.hid hl2
  replace HB := Lib.hid (HB.out.trans (hb2.mono HB.out.size))
  replace K3 := Lib.hid (K3.out.keep hb2)
  obtain ⟨c3, f3, z3⟩ := K3.out.facts
  clear hb2 hl2 hcc HT
  go_wp2_with fail
  (with_reducible refine (HQ.out _ (HL.out.below HB.out)).mono ?_); rintro e w3 ⟨rfl, hb3⟩
  replace HB := Lib.hid (HB.out.trans (hb3.mono HB.out.size))
  replace HL2 := Lib.hid (HL2.out.below hb3)
  replace K3 := Lib.hid (K3.out.keep hb3)
  clear hb3 HQ c3 f3 z3
  have hal : Below w3.heap.size w3 (w3.alloc (.cells #[.int .i64 0, .int .i64 0, .int .i64 0, .int .i64 0, .int .i64 0, .int .i64 0] 34)) := (Below.refl _ _).alloc (Nat.le_refl _) _
  replace HB := Lib.hid (HB.out.trans (hal.mono HB.out.size))
  replace HL2 := Lib.hid (HL2.out.below hal)
  replace K3 := Lib.hid (K3.out.keep hal)
  clear hal
  go_wp2_with fail
  (with_reducible refine (HV.out _ (HL.out.below HB.out)).mono ?_); rintro e w4 ⟨rfl, hb4⟩
  replace HB := Lib.hid (HB.out.trans (hb4.mono HB.out.size))
  replace HL2 := Lib.hid (HL2.out.below hb4)
  replace K3 := Lib.hid (K3.out.keep hb4)
  obtain ⟨c3, f3, z3⟩ := K3.out.facts
  clear hb4 HV
  go_wp2_with fail
  (with_reducible refine (HQ2.out _ _ _ HL2.out).mono ?_); rintro e w5 ⟨rfl, hb5⟩
  replace HB := Lib.hid (HB.out.trans (hb5.mono HB.out.size))
  replace HL2 := Lib.hid (HL2.out.below hb5)
  clear hb5 HQ2 c3 f3 z3 K3
  have hal : Below w5.heap.size w5 (w5.alloc (.cells #[.int .i64 0, .int .i64 0, .int .i64 0, .int .i64 0, .int .i64 0, .int .i64 0] 34)) := (Below.refl _ _).alloc (Nat.le_refl _) _
  replace HB := Lib.hid (HB.out.trans (hal.mono HB.out.size))
  replace HL2 := Lib.hid (HL2.out.below hal)
  clear hal
  go_wp2_with fail
  (with_reducible refine (HT2.out _ _ _ HL2.out HC.out.1 HC.out.2).mono ?_); rintro e w6 ⟨⟨A3, c3, rfl, hl3, _⟩, hb6⟩
  replace HB := Lib.hid (HB.out.trans (hb6.mono HB.out.size))
  have HS3 := Lib.hid (HS.out w6 A3 c3 hl3 (HL.out.below HB.out))
  clear hb6 HT2 HL2 HS hl3
  go_wp2_with fail
  (with_reducible refine (HS3.out).mono ?_); rintro e w7 ⟨rfl, hb7⟩
  replace HB := Lib.hid (HB.out.trans (hb7.mono HB.out.size))
  clear hb7 HS3
  go_wp2_with fail
  go_ret
  exact ⟨rfl, HB.out⟩

set_option maxHeartbeats 16000000 in
theorem turns_yes (A : Option Addr) (c : Nat) (l : List P2) (px py : Int) (w : World) (hl : LineAt w A l) (hc : l.length ≤ c) (hA : A = none → c = 0) (hv : validL l = true) (hon : onB px py = true) (j i : Nat) (hb : Best l px py j) (hb' : Best l.reverse px py i) :
    Calls Try.prog 9 #[.slice A l.length c, .agg #[.int .i64 px, .int .i64 py]] w fun e w' => e = .returned (.bool true) ∧ Below w.heap.size w w' := by
  have hlen := valid_len hv
  have hr := valid_rev hv
  obtain ⟨m, hm⟩ : ∃ m, m = l.length - 1 := ⟨_, rfl⟩
  have T := turns_ok hv hon hb hb'
  have hT1 := T.cnt
  have hT2 := T.one
  rw [← hm] at hT1 hT2
  have hi := hb'.lt
  rw [List.length_reverse] at hi
  have hj := hb.lt
  have HL := Lib.hid hl
  have hq := fun W (h : LineAt W A l) => locate_any A c l px py W h (by omega)
  rw [hb.eq, hb.err] at hq
  have hq2 := fun W A2 c2 (h : LineAt W A2 l.reverse) => locate_any A2 c2 l.reverse px py W h (by rw [List.length_reverse]; omega)
  rw [hb'.eq, hb'.err, List.length_reverse] at hq2
  have HV := Lib.hid (fun W (h : LineAt W A l) => valid_line A c l W h (by omega))
  rw [hv] at HV
  have HT := Lib.hid (fun W (h : LineAt W A l) => turn1 l A c W hv h hc hA)
  have ht2 := fun W A2 c2 (h : LineAt W A2 l.reverse) => turn1 l.reverse A2 c2 W hr h
  rw [List.length_reverse, List.reverse_reverse] at ht2
  have HT2 := Lib.hid ht2
  have HS := Lib.hid (fun W A3 c3 (h : LineAt W A3 l) (h' : LineAt W A l) => same_pts A3 A c3 c l W h h' (by omega))
  have mj := mirror hv hon hj
  have mi := mirror hv hon (k := l.length - 2 - i) (by omega)
  rw [show l.length - 2 - (l.length - 2 - i) = i by omega] at mi
  have mj2 := mirror hr (l := l.reverse) hon (k := l.length - 2 - j) (by rw [List.length_reverse]; omega)
  rw [List.length_reverse, List.reverse_reverse, show l.length - 2 - (l.length - 2 - j) = j by omega] at mj2
  have mi2 := mirror hr (l := l.reverse) hon (k := i) (by rw [List.length_reverse]; omega)
  have HNear : Hid (∀ k, k < m → ∃ x1 x2 x3 x4, (∀ W, Calls Try.prog 20 #[.agg #[.int .i64 px, .int .i64 py], .agg #[.int .i64 (pt l k).1, .int .i64 (pt l k).2], .agg #[.int .i64 (pt l (k + 1)).1, .int .i64 (pt l (k + 1)).2]] W fun e w' => e = .returned (.tuple #[.agg #[.int .i64 x1, .int .i64 x2], .agg #[.int .i64 x3, .int .i64 x4], .int .i64 0]) ∧ Below W.heap.size W w') ∧
      cntN l px py (spotI l px py j).an (spotI l px py j).ad (k + 1) = cntN l px py (spotI l px py j).an (spotI l px py j).ad k + (if ptEq x3 x4 (spotI l px py j).an (spotI l px py j).ad then 1 else 0)) := fun k hk => by
    obtain ⟨p1, p2⟩ := onB_out hon
    obtain ⟨d1, d2⟩ := valid_pt hv (k := k) (by omega)
    obtain ⟨e1, e2⟩ := valid_pt hv (k := k + 1) (by omega)
    refine ⟨(spotI l px py k).pn, (spotI l px py k).pd, (spotI l px py k).an, (spotI l px py k).ad, fun W => ?_, rfl⟩
    have h := foot_any px py (pt l k).1 (pt l k).2 (pt l (k + 1)).1 (pt l (k + 1)).2 W
    rw [foot_ok p1 p2 d1 d2 e1 e2] at h
    exact h
  have hsj : spotI l px py j = ⟨(j : Int), (spotI l px py j).pn, (spotI l px py j).pd, (spotI l px py j).side, (spotI l px py j).an, (spotI l px py j).ad⟩ := rfl
  have hsi : spotI l.reverse px py i = ⟨(i : Int), (spotI l.reverse px py i).pn, (spotI l.reverse px py i).pd, (spotI l.reverse px py i).side, (spotI l.reverse px py i).an, (spotI l.reverse px py i).ad⟩ := rfl
  have HADD : Hid (∀ W, Calls Try.prog 29 #[.agg #[.int .i64 (spotI l px py j).pn, .int .i64 (spotI l px py j).pd], .agg #[.int .i64 (spotI l.reverse px py i).pn, .int .i64 (spotI l.reverse px py i).pd]] W fun e w' =>
      (∃ x y g : Int, e = .returned (.tuple #[.agg #[.int .i64 x, .int .i64 y], .int .i64 g]) ∧ (¬ 1 < cntN l px py (spotI l px py j).an (spotI l px py j).ad m → x = 1 ∧ y = 1 ∧ g = 0)) ∧ Below W.heap.size W w') := fun W => by
    by_cases hcn : 1 < cntN l px py (spotI l px py j).an (spotI l px py j).ad m
    · refine (add_gen _ _ _ _ W ⟨mj.p0, by have := mj.sum; have := mj.q0; omega⟩ ⟨mj.d1, mj.d2⟩ ⟨mi.q0, by have := mi.sum; have := mi.p0; have := mi.pd; omega⟩ ⟨by have := mi.d1; have := mi.pd; omega, by have := mi.d2; have := mi.pd; omega⟩ mj.v1 mi.v2).mono ?_
      rintro e w' ⟨⟨x, y, g, rfl⟩, hb⟩
      exact ⟨⟨x, y, g, rfl, fun h => absurd hcn h⟩, hb⟩
    · have e1 := hT2 hcn
      rw [e1]
      have hp := mj.pd
      have hv2 := mj.v2
      rw [hp] at hv2 ⊢
      refine (add_one _ _ _ W mj.p0 mj.q0 mj.d1 mj.d2 mj.sum mj.v1 hv2).mono ?_
      rintro e w' ⟨rfl, hb⟩
      exact ⟨⟨1, 1, 0, rfl, fun _ => ⟨rfl, rfl, rfl⟩⟩, hb⟩
  have hside : ¬ 1 < cntN l px py (spotI l px py j).an (spotI l px py j).ad m → i = l.length - 2 - j ∧ (spotI l.reverse px py i).side = -(spotI l px py j).side := fun h => by
    have e1 := hT2 h
    exact ⟨e1, by rw [e1]; exact mj.side⟩
  have hsd : -1 ≤ (spotI l px py j).side ∧ (spotI l px py j).side ≤ 1 := by
    obtain ⟨p1, p2⟩ := onB_out hon
    obtain ⟨d1, d2⟩ := valid_pt hv (k := j) (by omega)
    obtain ⟨e1, e2⟩ := valid_pt hv hj
    have : (spotI l px py j).side = turnI (pt l j).1 (pt l j).2 (pt l (j + 1)).1 (pt l (j + 1)).2 px py := rfl
    rw [this, turn_in d1 d2 e1 e2 p1 p2]
    have := sgn_cases (areaP (pt l j).1 (pt l j).2 (pt l (j + 1)).1 (pt l (j + 1)).2 px py)
    omega
  rw [hsj] at hq
  rw [hsi, T.an, T.ad] at hq2
  have hc1 := hT1
  have hcm := cntN_le l px py (spotI l px py j).an (spotI l px py j).ad
  clear hsj hsi mj mi mj2 mi2 T hT1 hT2
  simp only [Spt.cells] at hq hq2
  have HJ := Lib.hid (And.intro hj (And.intro hi (And.intro hlen hm)))
  generalize l.reverse = r at *
  generalize (spotI r px py i).pn = g1 at *
  generalize (spotI r px py i).pd = g2 at *
  generalize (spotI r px py i).side = td at *
  generalize (spotI l px py j).pn = f1 at *
  generalize (spotI l px py j).pd = f2 at *
  generalize (spotI l px py j).side = sd at *
  generalize (spotI l px py j).an = f3 at *
  generalize (spotI l px py j).ad = f4 at *
  have HC1 := Lib.hid hc1
  have HCM := Lib.hid hcm
  have HCz : Hid (cntN l px py f3 f4 0 = 0) := rfl
  have HSD := Lib.hid hside
  have HSG := Lib.hid hsd
  have HQ := Lib.hid hq
  have HQ2 := Lib.hid hq2
  have hneq := run_neq_frt
  have heqf := run_eql_fr
  have hn : ¬ (60 : Int) < (l.length : Int) := by omega
  clear hl hlen hc hA hv hr hon ht2 hb hb' hm hi hj hq hq2 hside hsd hc1 hcm
  go_enter Try.func9, Try.ntmps9
  go_wp2_with fail
  (with_reducible refine (head_any _).mono ?_); rintro e w1 ⟨rfl, hb1⟩
  have HB := Lib.hid (((Below.refl w.heap.size w).alloc (Nat.le_refl _) _).trans (hb1.mono (by simp)))
  have K3 := Lib.hid (Reg.Blk.new1 hb1)
  clear hb1
  go_wp2_with fail
  (with_reducible refine (HT.out _ (HL.out.below HB.out)).mono ?_); rintro e w2 ⟨⟨A2, c2, rfl, hl2, hcc⟩, hb2⟩
  have HC := Lib.hid hcc
  have HL2 := Lib.hid hl2
  replace HB := Lib.hid (HB.out.trans (hb2.mono HB.out.size))
  replace K3 := Lib.hid (K3.out.keep hb2)
  obtain ⟨c3, f3', z3⟩ := K3.out.facts
  clear hb2 hl2 hcc HT
  go_wp2_with fail
  (with_reducible refine (HQ.out _ (HL.out.below HB.out)).mono ?_); rintro e w3 ⟨rfl, hb3⟩
  replace HB := Lib.hid (HB.out.trans (hb3.mono HB.out.size))
  replace HL2 := Lib.hid (HL2.out.below hb3)
  replace K3 := Lib.hid (K3.out.keep hb3)
  clear hb3 HQ c3 f3' z3
  have hal : Below w3.heap.size w3 (w3.alloc (.cells #[.int .i64 (j : Int), .int .i64 f1, .int .i64 f2, .int .i64 sd, .int .i64 f3, .int .i64 f4] 34)) := (Below.refl _ _).alloc (Nat.le_refl _) _
  have K7 := Lib.hid (Reg.Blk.new w3 #[.int .i64 (j : Int), .int .i64 f1, .int .i64 f2, .int .i64 sd, .int .i64 f3, .int .i64 f4] 34)
  replace HB := Lib.hid (HB.out.trans (hal.mono HB.out.size))
  replace HL2 := Lib.hid (HL2.out.below hal)
  replace K3 := Lib.hid (K3.out.keep hal)
  clear hal
  go_wp2_with fail
  (with_reducible refine (HV.out _ (HL.out.below HB.out)).mono ?_); rintro e w4 ⟨rfl, hb4⟩
  replace HB := Lib.hid (HB.out.trans (hb4.mono HB.out.size))
  replace HL2 := Lib.hid (HL2.out.below hb4)
  replace K3 := Lib.hid (K3.out.keep hb4)
  replace K7 := Lib.hid (K7.out.keep hb4)
  obtain ⟨c3, f3', z3⟩ := K3.out.facts
  clear hb4 HV
  generalize w3.heap.size = b7 at *
  go_wp2_with fail
  (with_reducible refine (HQ2.out _ _ _ HL2.out).mono ?_); rintro e w5 ⟨rfl, hb5⟩
  replace HB := Lib.hid (HB.out.trans (hb5.mono HB.out.size))
  replace HL2 := Lib.hid (HL2.out.below hb5)
  replace K3 := Lib.hid (K3.out.keep hb5)
  replace K7 := Lib.hid (K7.out.keep hb5)
  clear hb5 HQ2 c3 f3' z3
  have hal : Below w5.heap.size w5 (w5.alloc (.cells #[.int .i64 (i : Int), .int .i64 g1, .int .i64 g2, .int .i64 td, .int .i64 f3, .int .i64 f4] 34)) := (Below.refl _ _).alloc (Nat.le_refl _) _
  have K9 := Lib.hid (Reg.Blk.new w5 #[.int .i64 (i : Int), .int .i64 g1, .int .i64 g2, .int .i64 td, .int .i64 f3, .int .i64 f4] 34)
  replace HB := Lib.hid (HB.out.trans (hal.mono HB.out.size))
  replace HL2 := Lib.hid (HL2.out.below hal)
  replace K3 := Lib.hid (K3.out.keep hal)
  replace K7 := Lib.hid (K7.out.keep hal)
  clear hal
  go_wp2_with fail
  (with_reducible refine (HT2.out _ _ _ HL2.out HC.out.1 HC.out.2).mono ?_); rintro e w6 ⟨⟨A3, c3, rfl, hl3, _⟩, hb6⟩
  replace HB := Lib.hid (HB.out.trans (hb6.mono HB.out.size))
  replace K3 := Lib.hid (K3.out.keep hb6)
  replace K7 := Lib.hid (K7.out.keep hb6)
  replace K9 := Lib.hid (K9.out.keep hb6)
  have HS3 := Lib.hid (HS.out w6 A3 c3 hl3 (HL.out.below HB.out))
  clear hb6 HT2 HL2 HS hl3
  generalize w5.heap.size = b9 at *
  go_wp2_with fail
  (with_reducible refine (HS3.out).mono ?_); rintro e w7 ⟨rfl, hb7⟩
  replace HB := Lib.hid (HB.out.trans (hb7.mono HB.out.size))
  replace K3 := Lib.hid (K3.out.keep hb7)
  replace K7 := Lib.hid (K7.out.keep hb7)
  replace K9 := Lib.hid (K9.out.keep hb7)
  clear hb7 HS3
  obtain ⟨c7, f7, z7⟩ := K7.out.facts
  obtain ⟨c9, f9, z9⟩ := K9.out.facts
  go_wp2_with fail
  have H0 := Lib.hid (And.intro HB.out (And.intro K3.out (And.intro K7.out K9.out)))
  clear HB K3 K7 K9 c7 f7 z7 c9 f9 z9
  go_loopw [11, 12] (fun o i' wr => ∃ k : Nat, k ≤ m ∧ i' = .int .i64 k ∧ o = .int .i64 (cntN l px py f3 f4 k : Nat) ∧ Below w.heap.size w wr ∧ Reg.Blk w.heap.size #[.int .i64 px, .int .i64 py] 24 wr ∧ Reg.Blk b7 #[.int .i64 (j : Int), .int .i64 f1, .int .i64 f2, .int .i64 sd, .int .i64 f3, .int .i64 f4] 34 wr ∧ Reg.Blk b9 #[.int .i64 (i : Int), .int .i64 g1, .int .i64 g2, .int .i64 td, .int .i64 f3, .int .i64 f4] 34 wr) (fun _ i' _ => m - (intOf i').toNat)
  case atStart => exact ⟨0, Nat.zero_le _, rfl, by rw [HCz.out]; rfl, H0.out.1, H0.out.2.1, H0.out.2.2.1, H0.out.2.2.2⟩
  case round =>
    obtain ⟨k, hk, rfl, rfl, hbw, hk3, hk7, hk9⟩ := hrel
    have HB := Lib.hid hbw
    have K3 := Lib.hid hk3
    have K7 := Lib.hid hk7
    have K9 := Lib.hid hk9
    clear hbw hk3 hk7 hk9 H0
    obtain ⟨q, hq⟩ : ∃ q, q = k + 1 := ⟨_, rfl⟩
    have hwk : IntKind.i64.wrap ((k : Int) + 1) = (q : Int) := by rw [show (k : Int) + 1 = (q : Int) by omega]; exact i64_in _ (by omega) (by have := HJ.out; omega)
    have HKQ := Lib.hid hq
    obtain ⟨c3, f3', z3⟩ := K3.out.facts
    obtain ⟨c7, f7, z7⟩ := K7.out.facts
    by_cases hlt : k < m
    · have hql : (q : Int) < (l.length : Int) := by have := HJ.out; omega
      have hkl : (k : Int) < (l.length : Int) := by have := HJ.out; omega
      have hk0 : (0 : Int) ≤ (k : Int) := by omega
      have hq0 : (0 : Int) ≤ (q : Int) := by omega
      obtain ⟨b, off, hA, hb, c0, c1, d0, d1⟩ := line_pair (HL.out.below HB.out) (j := k) (n := q) (by have := HJ.out; omega) (by have := HJ.out; omega)
      subst hA
      obtain ⟨x1, x2, x3, x4, hf2, hcn⟩ := HNear.out k hlt
      rw [← hq] at hf2 hcn
      have HF2 := Lib.hid hf2
      have HCN := Lib.hid hcn
      have HCB := Lib.hid (HCM.out k)
      generalize (pt l k).1 = ux at *
      generalize (pt l k).2 = uy at *
      generalize (pt l q).1 = vx at *
      generalize (pt l q).2 = vy at *
      have hdq : decide ((q : Int) < (l.length : Int)) = true := decide_eq_true hql
      have hdq2 : decide (q < l.length) = true := decide_eq_true (by omega)
      obtain ⟨C, hC⟩ : ∃ C, C = cntN l px py f3 f4 k := ⟨_, rfl⟩
      rw [← hC] at HCN HCB ⊢
      have hwC : IntKind.i64.wrap ((C : Int) + 1) = ((C + 1 : Nat) : Int) := i64_in _ (by omega) (by have := HJ.out; have := HCB.out; omega)
      clear hf2 hcn hq hC
      go_wp2_with fail
      refine Reg.wp_region_seq (by kernel_rfl) (by kernel_rfl) ?_
      simp only
      iterate 15
        apply Reg.SeqOK.val
        · intro γ W hW K hK
          obtain ⟨hc, hf, _⟩ := bcell hW
          simp only [Act.put, List.setIfInBounds_toArray, List.set_cons_zero, List.set_cons_succ] at hK
          unfold Reg.Does
          go_simp
          try simp only [IntWalk.i64_left]
          first
            | exact hK _ (Below.refl _ _)
            | (go_at_call 20; (with_reducible refine (HF2.out _).mono ?_); rintro e w' ⟨rfl, hb⟩; exact hK _ hb)
            | (trace_state; fail)
        simp only [Act.put, List.setIfInBounds_toArray, List.set_cons_zero, List.set_cons_succ, List.nil_append, List.cons_append, Nat.reduceAdd, Nat.zero_add]
      iterate 2
        apply Reg.SeqOK.box
        · intro γ W hW K hK
          simp only [Act.put, List.setIfInBounds_toArray, List.set_cons_zero, List.set_cons_succ] at hK
          unfold Reg.Does
          go_simp
          exact hK
        simp only [Act.put, List.setIfInBounds_toArray, List.set_cons_zero, List.set_cons_succ, List.nil_append, List.cons_append, Nat.reduceAdd, Nat.zero_add]
      refine Reg.SeqOK.st 15 _ _ _ rfl (by kernel_rfl) ?_ ?_
      · intro γ W hW hge hat K hK
        obtain ⟨hcl, hfr⟩ := Reg.cells_at hat
        simp only [Act.put, List.setIfInBounds_toArray, List.set_cons_zero, List.set_cons_succ] at hK
        unfold Reg.Does
        go_simp
        exact hK _ (Reg.upd2 hat)
      simp only [Act.put, List.setIfInBounds_toArray, List.set_cons_zero, List.set_cons_succ, List.nil_append, List.cons_append, Nat.reduceAdd, Nat.zero_add]
      refine Reg.SeqOK.st 16 _ _ _ rfl (by kernel_rfl) ?_ ?_
      · intro γ W hW hge hat K hK
        obtain ⟨hcl, hfr⟩ := Reg.cells_at hat
        simp only [Act.put, List.setIfInBounds_toArray, List.set_cons_zero, List.set_cons_succ] at hK
        unfold Reg.Does
        go_simp
        exact hK _ (Reg.upd2 hat)
      simp only [Act.put, List.setIfInBounds_toArray, List.set_cons_zero, List.set_cons_succ, List.nil_append, List.cons_append, Nat.reduceAdd, Nat.zero_add]
      iterate 1
        apply Reg.SeqOK.val
        · intro γ W hW K hK
          obtain ⟨hc, hf, _⟩ := bcell hW
          simp only [Act.put, List.setIfInBounds_toArray, List.set_cons_zero, List.set_cons_succ] at hK
          unfold Reg.Does
          go_simp
          try simp only [IntWalk.i64_left]
          first
            | exact hK _ (Below.refl _ _)
            | (trace_state; fail)
        simp only [Act.put, List.setIfInBounds_toArray, List.set_cons_zero, List.set_cons_succ, List.nil_append, List.cons_append, Nat.reduceAdd, Nat.zero_add]
      refine Reg.SeqOK.nil (by kernel_rfl) (fun γ W5 hW hBx _ _ => ?_)
      simp only [Reg.Boxes, and_true, true_and, Nat.reduceAdd, Nat.zero_add] at hBx
      obtain ⟨⟨_, _, at0⟩, _, _, at1⟩ := hBx
      generalize γ 15 = g13 at *
      generalize γ 16 = g14 at *
      replace HB := Lib.hid (HB.out.trans (hW.mono HB.out.size))
      replace K3 := Lib.hid (K3.out.keep hW)
      replace K7 := Lib.hid (K7.out.keep hW)
      replace K9 := Lib.hid (K9.out.keep hW)
      have K14 : Reg.Blk g14 _ _ W5 := at1
      clear hW at0 at1 c7 f7 z7 c3 f3' z3 HF2 c0 c1 d0 d1 hb
      obtain ⟨c7, f7, z7⟩ := K7.out.facts
      obtain ⟨c14, f14, z14⟩ := K14.facts
      clear K14
      cases hpe : ptEq x3 x4 f3 f4 with
      | true =>
        rw [hpe] at HCN
        go_wp2_with fail
        refine ⟨⟨k + 1, by omega, by rw [HKQ.out], by rw [← HKQ.out, HCN.out]; rfl, HB.out, K3.out, K7.out, K9.out⟩, by have := HKQ.out; simp [intOf]; omega⟩
      | false =>
        rw [hpe] at HCN
        go_wp2_with fail
        refine ⟨⟨k + 1, by omega, by rw [HKQ.out], by rw [← HKQ.out, HCN.out]; rfl, HB.out, K3.out, K7.out, K9.out⟩, by have := HKQ.out; simp [intOf]; omega⟩
    · obtain rfl : k = m := by omega
      obtain rfl : q = l.length := by have := HJ.out; omega
      clear hq
      obtain ⟨c9, f9, z9⟩ := K9.out.facts
      generalize cntN l px py f3 f4 k = C at *
      have h1C : (1 : Int) ≤ (C : Int) := by have := HC1.out; omega
      go_wp2_with fail
      (with_reducible refine (HADD.out _).mono ?_); rintro e w8 ⟨⟨x, y, g, rfl, hone⟩, hb8⟩
      replace HB := Lib.hid (HB.out.trans (hb8.mono HB.out.size))
      replace K7 := Lib.hid (K7.out.keep hb8)
      replace K9 := Lib.hid (K9.out.keep hb8)
      clear hb8 HADD c7 f7 z7 c9 f9 z9 c3 f3' z3 K3
      have hal : Below w8.heap.size w8 (w8.alloc (.cells #[.int .i64 x, .int .i64 y] 32)) := (Below.refl _ _).alloc (Nat.le_refl _) _
      have K16 := Lib.hid (Reg.Blk.new w8 #[.int .i64 x, .int .i64 y] 32)
      replace HB := Lib.hid (HB.out.trans (hal.mono HB.out.size))
      replace K7 := Lib.hid (K7.out.keep hal)
      replace K9 := Lib.hid (K9.out.keep hal)
      clear hal
      obtain ⟨c7, f7, z7⟩ := K7.out.facts
      obtain ⟨c9, f9, z9⟩ := K9.out.facts
      obtain ⟨c16, f16, z16⟩ := K16.out.facts
      by_cases h2C : 1 < C
      · have h2 : (1 : Int) < (C : Int) := by omega
        clear hone
        go_wp2_with fail
        go_ret
        exact ⟨ret_bool (by simp; try omega), HB.out⟩
      · obtain ⟨rfl, rfl, rfl⟩ := hone h2C
        obtain ⟨hij, htd⟩ := HSD.out h2C
        have h2 : ¬ (1 : Int) < (C : Int) := by omega
        have h2d : decide ((1 : Int) < (C : Int)) = false := decide_eq_false h2
        have h2e : decide (1 < C) = false := decide_eq_false h2C
        have hw1 : IntKind.i64.wrap ((l.length : Int) - 2) = (l.length : Int) - 2 := i64_in _ (by omega) (by have := HJ.out; omega)
        have hw2 : IntKind.i64.wrap ((l.length : Int) - 2 - (j : Int)) = (i : Int) := by rw [show (l.length : Int) - 2 - (j : Int) = (i : Int) by have := HJ.out; omega]; exact i64_in _ (by omega) (by have := HJ.out; omega)
        have hw3 : IntKind.i64.wrap (-sd) = td := by rw [htd]; exact i64_in _ (by have := HSG.out; omega) (by have := HSG.out; omega)
        have hw2' : wrap64 ((l.length : Int) - 2 - (j : Int)) = (i : Int) := (IntWalk.i64_left _).symm.trans hw2
        have hw3' : wrap64 (-sd) = td := (IntWalk.i64_left _).symm.trans hw3
        have hes := run_eql_frt
        clear hone hij htd
        go_wp2_with fail
        go_ret
        exact ⟨ret_bool (by simp [ptEq]), HB.out⟩
theorem turns_walk (A : Option Addr) (c : Nat) (l : List P2) (px py : Int) (w : World) (hl : LineAt w A l) (hn : (l.length ≤ c ∧ c ≤ maxLen) ∧ (A = none → c = 0)) (_hx : -9223372036854775808 ≤ px ∧ px ≤ 9223372036854775807) (_hy : -9223372036854775808 ≤ py ∧ py ≤ 9223372036854775807) :
    Calls Try.prog 9 #[.slice A l.length c, .agg #[.int .i64 px, .int .i64 py]] w fun e w' => e = .returned (.bool true) ∧ Below w.heap.size w w' := by
  by_cases h60 : 60 < l.length
  · exact turns_long A c _ px py w h60
  · cases hv : validL l with
    | false => exact turns_no A c l px py w hl (by omega) hn.1.1 hn.2 hv
    | true =>
      cases hon : onB px py with
      | false => exact turns_off A c l px py w hl hn.1.1 hn.2 hv hon
      | true =>
        obtain ⟨j, hb⟩ := best_of hv hon
        obtain ⟨i, hb'⟩ := best_of (valid_rev hv) hon
        exact turns_yes A c l px py w hl hn.1.1 hn.2 hv hon j i hb hb'

end G
end Go.Proofs.Ytjeapimjgojpoaa
