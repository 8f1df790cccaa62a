/- Lines: the law of the turned line; 'Same' of two rows of points. -/
import Derived.Test.YtjeapimjgojpoaaIq
import Derived.Test.YtjeapimjgojpoaaIs
set_option linter.unusedSimpArgs false
set_option linter.unusedVariables false
set_option maxRecDepth 100000
namespace Go.Proofs.Ytjeapimjgojpoaa
open Go.RowKit
namespace G

theorem ptEq_comm (a b c d : Int) : ptEq a b c d = ptEq c d a b := by
  rw [Bool.eq_iff_iff, ptEq_iff, ptEq_iff]; constructor <;> rintro ⟨h1, h2⟩ <;> exact ⟨h1.symm, h2.symm⟩
theorem pt_rev {l : List P2} {i : Nat} (h : i < l.length) : pt l.reverse i = pt l (l.length - 1 - i) := by
  unfold pt; rw [List.getElem?_reverse h]
theorem preOK_all {l : List P2} : ∀ n, (∀ k, k < n → stepOK l k = true) → preOK l n = true
  | 0, _ => rfl
  | n + 1, h => by
    simp only [preOK, Bool.and_eq_true]
    exact ⟨preOK_all n fun k hk => h k (by omega), h n (by omega)⟩
theorem valid_step {l : List P2} (h : validL l = true) {k : Nat} (hk : k < l.length) : stepOK l k = true := by
  unfold validL at h
  simp only [Bool.and_eq_true] at h
  exact preOK_at _ hk h.1
theorem valid_nx {l : List P2} (h : validL l = true) {k : Nat} (hk : k + 1 < l.length) : ptEq (pt l (k + 1)).1 (pt l (k + 1)).2 (pt l k).1 (pt l k).2 = false := by
  have h1 := valid_step h hk
  unfold stepOK at h1
  simpa using (Bool.and_eq_true_iff.1 h1).2
theorem valid_rev {l : List P2} (h : validL l = true) : validL l.reverse = true := by
  have hl := valid_len h
  unfold validL
  simp only [Bool.and_eq_true, decide_eq_true_eq, List.length_reverse]
  refine ⟨preOK_all _ fun k hk => ?_, by omega, by omega⟩
  have h1 := valid_step h (k := l.length - 1 - k) (by omega)
  unfold stepOK at h1 ⊢
  rw [pt_rev hk]
  simp only [Bool.and_eq_true] at h1 ⊢
  refine ⟨h1.1, ?_⟩
  rcases Nat.eq_zero_or_pos k with h0 | h0
  · simp [h0]
  · have h2 := valid_nx h (k := l.length - 1 - k) (by omega)
    rw [pt_rev (by omega : k - 1 < l.length), show l.length - 1 - (k - 1) = l.length - 1 - k + 1 by omega, ptEq_comm, h2]
    simp
/-- The same place from both ends. -/
structure Mirror (s t : Spt) : Prop where
  an : t.an = s.an
  ad : t.ad = s.ad
  side : t.side = -s.side
  pd : t.pd = s.pd
  sum : s.pn + t.pn = s.pd
  v1 : validI s.pn s.pd = true
  v2 : validI t.pn t.pd = true
  p0 : 0 ≤ s.pn
  q0 : 0 ≤ t.pn
  d1 : 1 ≤ s.pd
  d2 : s.pd ≤ 2147352578
theorem mirror {l : List P2} {px py : Int} (h : validL l = true) (hon : onB px py = true) {k : Nat} (hk : k + 1 < l.length) : Mirror (spotI l px py k) (spotI l.reverse px py (l.length - 2 - k)) := by
  obtain ⟨p1, p2⟩ := onB_out hon
  obtain ⟨a1, a2⟩ := valid_pt h (k := k) (by omega)
  obtain ⟨b1, b2⟩ := valid_pt h hk
  have F := feet_all p1 p2 a1 a2 b1 b2
  have hn := valid_nx h hk
  rw [ptEq_comm] at hn
  obtain ⟨t1, t2, t3, t4, t5, t6, t7, t8⟩ := F.two hn
  obtain ⟨s1, s2⟩ := ptEq_iff.1 F.same
  unfold spotI
  rw [pt_rev (by omega : l.length - 2 - k < l.length), pt_rev (by omega : l.length - 2 - k + 1 < l.length), show l.length - 1 - (l.length - 2 - k) = k + 1 by omega, show l.length - 1 - (l.length - 2 - k + 1) = k by omega]
  refine ⟨s1.symm, s2.symm, ?_, t1, t2, t3, ?_, t5, t6, t7, t8⟩
  · simp only
    rw [turn_in b1 b2 a1 a2 p1 p2, turn_in a1 a2 b1 b2 p1 p2, area_back, sgn_neg]
  · simp only
    exact t4
/-- How many segments are as near. -/
def cntN (l : List P2) (px py an ad : Int) : Nat → Nat
  | 0 => 0
  | k + 1 => cntN l px py an ad k + (if ptEq (spotI l px py k).an (spotI l px py k).ad an ad then 1 else 0)
theorem cntN_le (l : List P2) (px py an ad : Int) : ∀ n, cntN l px py an ad n ≤ n
  | 0 => Nat.le_refl _
  | n + 1 => by have := cntN_le l px py an ad n; simp only [cntN]; split <;> omega
theorem cntN_one {l : List P2} {px py an ad : Int} {i : Nat} (h : ptEq (spotI l px py i).an (spotI l px py i).ad an ad = true) : ∀ n, i < n → 1 ≤ cntN l px py an ad n
  | 0, hn => by omega
  | n + 1, hn => by
    simp only [cntN]
    rcases (by omega : i < n ∨ i = n) with h2 | h2
    · have := cntN_one h n h2; omega
    · subst h2; rw [if_pos h]; omega
theorem cntN_two {l : List P2} {px py an ad : Int} {i k : Nat} (h : ptEq (spotI l px py i).an (spotI l px py i).ad an ad = true) (h' : ptEq (spotI l px py k).an (spotI l px py k).ad an ad = true) (hik : i < k) : ∀ n, k < n → 2 ≤ cntN l px py an ad n
  | 0, hn => by omega
  | n + 1, hn => by
    simp only [cntN]
    rcases (by omega : k < n ∨ k = n) with h2 | h2
    · have := cntN_two h h' hik n h2; omega
    · subst h2; rw [if_pos h']; have := cntN_one h k hik; omega
theorem best_cross {l : List P2} {px py : Int} (h : validL l = true) (hon : onB px py = true) {j : Nat} (b : Best l px py j) {i : Nat} (hi : i + 1 < l.length) : (spotI l px py j).an * (spotI l px py i).ad ≤ (spotI l px py i).an * (spotI l px py j).ad := by
  obtain ⟨c1, c2, c3⟩ := cmp_spec (spot_ok h hon hi).1 (spot_ok h hon b.lt).1
  have hn := (b.near i hi).2
  rcases Int.lt_or_le ((spotI l px py i).an * (spotI l px py j).ad) ((spotI l px py j).an * (spotI l px py i).ad) with hh | hh
  · have := c2.2 hh; omega
  · exact hh
structure TurnsOK (l : List P2) (px py : Int) (j k : Nat) : Prop where
  an : (spotI l.reverse px py k).an = (spotI l px py j).an
  ad : (spotI l.reverse px py k).ad = (spotI l px py j).ad
  cnt : 1 ≤ cntN l px py (spotI l px py j).an (spotI l px py j).ad (l.length - 1)
  one : ¬ 1 < cntN l px py (spotI l px py j).an (spotI l px py j).ad (l.length - 1) → k = l.length - 2 - j
theorem turns_ok {l : List P2} {px py : Int} (h : validL l = true) (hon : onB px py = true) {j k : Nat} (b : Best l px py j) (b' : Best l.reverse px py k) : TurnsOK l px py j k := by
  have hl := valid_len h
  have hj := b.lt
  have hk := b'.lt
  rw [List.length_reverse] at hk
  have hr := valid_rev h
  have mk := mirror h hon (k := l.length - 2 - k) (by omega)
  rw [show l.length - 2 - (l.length - 2 - k) = k by omega] at mk
  have mj := mirror h hon hj
  have e1 := best_cross h hon b (i := l.length - 2 - k) (by omega)
  have e2 := best_cross hr hon b' (i := l.length - 2 - j) (by rw [List.length_reverse]; omega)
  rw [mj.an, mj.ad] at e2
  rw [← mk.an, ← mk.ad] at e1
  have ok1 := spot_ok h hon hj
  have ok2 := spot_ok hr hon b'.lt
  obtain ⟨q1, q2⟩ := cross_eq ok2.1 ok1.1 (Int.le_antisymm e2 e1)
  have hpj : ptEq (spotI l px py j).an (spotI l px py j).ad (spotI l px py j).an (spotI l px py j).ad = true := ptEq_iff.2 ⟨rfl, rfl⟩
  refine ⟨q1, q2, cntN_one hpj _ (by omega), fun hc => ?_⟩
  have hpk : ptEq (spotI l px py (l.length - 2 - k)).an (spotI l px py (l.length - 2 - k)).ad (spotI l px py j).an (spotI l px py j).ad = true := ptEq_iff.2 ⟨mk.an.symm.trans q1, mk.ad.symm.trans q2⟩
  rcases Nat.lt_trichotomy j (l.length - 2 - k) with hh | hh | hh
  · exact absurd (cntN_two hpj hpk hh (l.length - 1) (by omega)) (by omega)
  · omega
  · exact absurd (cntN_two hpk hpj hh (l.length - 1) (by omega)) (by omega)

theorem run_neq_pt (ax ay bx by' : Int) (w : World) : (binOp .neq 24 (.agg #[.int .i64 ax, .int .i64 ay]) (.agg #[.int .i64 bx, .int .i64 by'])).run Try.prog w = .ok (.bool (!ptEq ax ay bx by')) w := by
  by_cases h1 : ax = bx <;> by_cases h2 : ay = by' <;> go_simp <;> simp [ptEq, h1, h2]
theorem run_neq_pt_same (a b : Int) (w : World) : (binOp .neq 24 (.agg #[.int .i64 a, .int .i64 b]) (.agg #[.int .i64 a, .int .i64 b])).run Try.prog w = .ok (.bool false) w := by
  rw [run_neq_pt]; simp [ptEq]

set_option maxHeartbeats 4000000 in
theorem same_pts (A B : Option Addr) (c c' : Nat) (l : List P2) (w : World) (hl : LineAt w A l) (hl' : LineAt w B l) (hn : l.length ≤ 1000) :
    Calls Try.prog 26 #[.slice A l.length c, .slice B l.length c'] w fun e w' => e = .returned (.bool true) ∧ Below w.heap.size w w' := by
  have HL := Lib.hid (And.intro hl hl')
  have hne := run_neq_pt_same
  have hz : (l.length == l.length) = true := by simp
  clear hl hl'
  go_enter Try.func26, Try.ntmps26
  go_wp2_with fail
  go_loopw [5] (fun i wr => ∃ k : Nat, k ≤ l.length ∧ i = .int .i64 k ∧ Below w.heap.size w wr) (fun i _ => l.length - (intOf i).toNat)
  case atStart => exact ⟨0, by omega, rfl, Below.refl _ _⟩
  case round =>
    obtain ⟨k, hk, rfl, hbw⟩ := hrel
    have HB := Lib.hid hbw
    clear hbw
    by_cases hlt : k < l.length
    · obtain ⟨b, off, hA, hb, c0, c1⟩ := (HL.out.1.below HB.out) k hlt
      obtain ⟨b', off', hA', hb', d0, d1⟩ := (HL.out.2.below HB.out) k hlt
      subst hA
      subst hA'
      have hki : (k : Int) < (l.length : Int) := by omega
      have hk0 : (0 : Int) ≤ (k : Int) := by omega
      have hwk : IntKind.i64.wrap ((k : Int) + 1) = ((k + 1 : Nat) : Int) := i64_in _ (by omega) (by omega)
      generalize (pt l k).1 = X at *
      generalize (pt l k).2 = Y at *
      go_wp2_with fail
      refine Reg.wp_region_seq (by kernel_rfl) (by kernel_rfl) ?_
      simp only
      iterate 9
        apply Reg.SeqOK.val
        · intro γ W hW K hK
          obtain ⟨hc, hf, _⟩ := bcell hW
          simp only [Act.put, List.setIfInBounds_toArray, List.set_cons_zero, List.set_cons_succ] at hK
          unfold Reg.Does
          go_simp
          try simp only [IntWalk.i64_left]
          first
            | exact hK _ (Below.refl _ _)
            | (trace_state; fail)
        simp only [Act.put, List.setIfInBounds_toArray, List.set_cons_zero, List.set_cons_succ, List.nil_append, List.cons_append, Nat.reduceAdd, Nat.zero_add]
      refine Reg.SeqOK.nil (by kernel_rfl) (fun γ W hW _ _ _ => ?_)
      replace HB := Lib.hid (HB.out.trans (hW.mono HB.out.size))
      clear hW c0 c1 d0 d1 hb hb'
      go_wp2_with fail
      exact ⟨⟨k + 1, by omega, rfl, HB.out⟩, by simp [intOf]; omega⟩
    · obtain rfl : k = l.length := by omega
      go_wp2_with fail
      go_ret
      exact ⟨rfl, HB.out⟩

end G
end Go.Proofs.Ytjeapimjgojpoaa
