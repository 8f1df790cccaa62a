/- Lines: the walk of 'LineMatchesReference'. -/
import Derived.Test.YtjeapimjgojpoaaJw
import Derived.Test.YtjeapimjgojpoaaReh
set_option linter.unusedSimpArgs false
set_option linter.unusedVariables false
set_option maxRecDepth 100000
namespace Go.Proofs.Ytjeapimjgojpoaa
open Go.RowKit
namespace G

/-- Rows of points that two operations of a drawn region made. -/
def mF (B : Nat) (l : List P2) (d : Nat) (v : Value) (w : World) : Prop := d = 29 ∨ d = 31 → ∃ A c, v = .slice A l.length c ∧ LineAt w A l
theorem mF_s {B : Nat} {l : List P2} : ∀ d v w w', mF B l d v w → Reg.Keep (fun _ => False) w w' → mF B l d v w' := fun _ _ _ _ h k e => by
  obtain ⟨A, c, e1, h1⟩ := h e
  exact ⟨A, c, e1, h1.below (keepN k)⟩

set_option maxHeartbeats 16000000 in
theorem matches_walk (A : Option Addr) (c : Nat) (l : List P2) (px py : Int) (a b : Spt) (w : World) (hl : LineAt w A l) (hn : (l.length ≤ c ∧ c ≤ maxLen) ∧ (A = none → c = 0)) (_hx : -9223372036854775808 ≤ px ∧ px ≤ 9223372036854775807) (_hy : -9223372036854775808 ≤ py ∧ py ≤ 9223372036854775807) (ha : a.B6) (hb : b.B6) :
    Calls Try.prog 8 #[.slice A l.length c, .agg #[.int .i64 px, .int .i64 py], .agg a.cells, .agg b.cells] w fun e w' => e = .returned (.bool true) ∧ Below w.heap.size w w' := by
  have HBl := Lib.hid (fun W => before_any a b W ha hb)
  have HBr := Lib.hid (fun W => rbefore_any a b W ha hb)
  generalize beforeI a b = R at *
  obtain ⟨a1, a2, a3, a4, a5, a6⟩ := a
  obtain ⟨b1, b2, b3, b4, b5, b6⟩ := b
  simp only [Spt.cells] at *
  have HL := Lib.hid hl
  obtain ⟨k5, k6, k7⟩ := Reg.Blk.new3 (w := w) (C := #[.int .i64 px, .int .i64 py]) (T := 24) (C' := #[.int .i64 a1, .int .i64 a2, .int .i64 a3, .int .i64 a4, .int .i64 a5, .int .i64 a6]) (T' := 34) (C'' := #[.int .i64 b1, .int .i64 b2, .int .i64 b3, .int .i64 b4, .int .i64 b5, .int .i64 b6]) (T'' := 34) (Below.refl _ _)
  have hal : Below w.heap.size w (((w.alloc (.cells #[.int .i64 px, .int .i64 py] 24)).alloc (.cells #[.int .i64 a1, .int .i64 a2, .int .i64 a3, .int .i64 a4, .int .i64 a5, .int .i64 a6] 34)).alloc (.cells #[.int .i64 b1, .int .i64 b2, .int .i64 b3, .int .i64 b4, .int .i64 b5, .int .i64 b6] 34)) := (((Below.refl _ _).alloc (Nat.le_refl _) _).alloc (by simp) _).alloc (by simp; omega) _
  have HB := Lib.hid hal
  have K5 := Lib.hid k5
  have K6 := Lib.hid k6
  have K7 := Lib.hid k7
  clear hal k5 k6 k7 hl ha hb
  unfold maxLen at hn
  by_cases h60 : 60 < l.length
  · have h6 : decide ((60 : Int) < (l.length : Int)) = true := decide_eq_true (by omega)
    go_enter Try.func8, Try.ntmps8
    go_wp2_with fail
    (with_reducible refine (head_any _).mono ?_); rintro e w1 ⟨rfl, hb1⟩
    replace HB := Lib.hid (HB.out.trans (hb1.mono HB.out.size))
    clear hb1
    go_wp2_with fail
    go_ret
    exact ⟨rfl, HB.out⟩
  have h6 : decide ((60 : Int) < (l.length : Int)) = false := decide_eq_false (by omega)
  have HV := Lib.hid (fun W (h : Below w.heap.size w W) => valid_line A c l W (HL.out.below h) (by omega))
  have HVr := Lib.hid (fun W (h : Below w.heap.size w W) => rvalid_line A c l W (HL.out.below h) (by omega))
  have HLo := Lib.hid (fun W (h : Below w.heap.size w W) => locate_any A c l px py W (HL.out.below h) (by omega))
  have HLr := Lib.hid (fun W (h : Below w.heap.size w W) => rlocate_any A c l px py W (HL.out.below h) (by omega))
  have HTu := Lib.hid (fun W (h : Below w.heap.size w W) => turned_any l A c W (by omega) (HL.out.below h) hn.1.1 hn.2)
  have HTr := Lib.hid (fun W (h : Below w.heap.size w W) => rturned_any l A c W (by omega) (HL.out.below h))
  have htl : (turnL l).length ≤ 1000 := by unfold turnL; split <;> simp; omega
  have HSm := Lib.hid (fun A B c c' W (h1 : LineAt W A (turnL l)) (h2 : LineAt W B (turnL l)) => same_pts A B c c' (turnL l) W h1 h2 htl)
  clear hn h60 htl
  generalize validL l = q at *
  generalize turnL l = tl at *
  generalize locS l px py = sp at *
  generalize locE l px py = er at *
  obtain ⟨s1, s2, s3, s4, s5, s6⟩ := sp
  simp only [Spt.cells] at HLo HLr
  go_enter Try.func8, Try.ntmps8
  go_wp2_with fail
  generalize (((w.alloc (.cells #[.int .i64 px, .int .i64 py] 24)).alloc (.cells #[.int .i64 a1, .int .i64 a2, .int .i64 a3, .int .i64 a4, .int .i64 a5, .int .i64 a6] 34)).alloc (.cells #[.int .i64 b1, .int .i64 b2, .int .i64 b3, .int .i64 b4, .int .i64 b5, .int .i64 b6] 34)) = w0 at *
  (with_reducible refine (head_any _).mono ?_); rintro e w1 ⟨rfl, hb⟩
  replace HB := Lib.hid (HB.out.trans (hb.mono HB.out.size))
  replace K5 := Lib.hid (K5.out.keep hb)
  replace K6 := Lib.hid (K6.out.keep hb)
  replace K7 := Lib.hid (K7.out.keep hb)
  clear hb
  obtain ⟨c5, f5, z5⟩ := K5.out.facts
  go_wp2_with fail
  (with_reducible refine (HLo.out _ HB.out).mono ?_); rintro e w2 ⟨rfl, hb⟩
  replace HB := Lib.hid (HB.out.trans (hb.mono HB.out.size))
  replace K5 := Lib.hid (K5.out.keep hb)
  replace K6 := Lib.hid (K6.out.keep hb)
  replace K7 := Lib.hid (K7.out.keep hb)
  clear hb c5 f5 z5 HLo
  have hw2 : Below w2.heap.size w2 (w2.alloc (.cells #[.int .i64 s1, .int .i64 s2, .int .i64 s3, .int .i64 s4, .int .i64 s5, .int .i64 s6] 34)) := (Below.refl _ _).alloc (Nat.le_refl _) _
  have K10 := Lib.hid (Reg.Blk.new w2 #[.int .i64 s1, .int .i64 s2, .int .i64 s3, .int .i64 s4, .int .i64 s5, .int .i64 s6] 34)
  obtain ⟨c5, f5, z5⟩ := (K5.out.keep hw2).facts
  go_wp2_with fail
  replace HB := Lib.hid (HB.out.trans (hw2.mono HB.out.size))
  replace K5 := Lib.hid (K5.out.keep hw2)
  replace K6 := Lib.hid (K6.out.keep hw2)
  replace K7 := Lib.hid (K7.out.keep hw2)
  clear hw2
  generalize w2.alloc (.cells #[.int .i64 s1, .int .i64 s2, .int .i64 s3, .int .i64 s4, .int .i64 s5, .int .i64 s6] 34) = v2 at *
  generalize w2.heap.size = g10 at *
  (with_reducible refine (HLr.out _ HB.out).mono ?_); rintro e w3 ⟨rfl, hb⟩
  replace HB := Lib.hid (HB.out.trans (hb.mono HB.out.size))
  replace K6 := Lib.hid (K6.out.keep hb)
  replace K7 := Lib.hid (K7.out.keep hb)
  replace K10 := Lib.hid (K10.out.keep hb)
  clear hb c5 f5 z5 HLr K5
  have hw3 : Below w3.heap.size w3 (w3.alloc (.cells #[.int .i64 s1, .int .i64 s2, .int .i64 s3, .int .i64 s4, .int .i64 s5, .int .i64 s6] 34)) := (Below.refl _ _).alloc (Nat.le_refl _) _
  have K12 := Lib.hid (Reg.Blk.new w3 #[.int .i64 s1, .int .i64 s2, .int .i64 s3, .int .i64 s4, .int .i64 s5, .int .i64 s6] 34)
  go_wp2_with fail
  replace HB := Lib.hid (HB.out.trans (hw3.mono HB.out.size))
  replace K6 := Lib.hid (K6.out.keep hw3)
  replace K7 := Lib.hid (K7.out.keep hw3)
  replace K10 := Lib.hid (K10.out.keep hw3)
  clear hw3
  generalize w3.alloc (.cells #[.int .i64 s1, .int .i64 s2, .int .i64 s3, .int .i64 s4, .int .i64 s5, .int .i64 s6] 34) = v3 at *
  generalize w3.heap.size = g12 at *
  replace HV := Lib.hid (fun W (h : Below v3.heap.size v3 W) => HV.out W (HB.out.trans (h.mono HB.out.size)))
  replace HVr := Lib.hid (fun W (h : Below v3.heap.size v3 W) => HVr.out W (HB.out.trans (h.mono HB.out.size)))
  replace HTu := Lib.hid (fun W (h : Below v3.heap.size v3 W) => HTu.out W (HB.out.trans (h.mono HB.out.size)))
  replace HTr := Lib.hid (fun W (h : Below v3.heap.size v3 W) => HTr.out W (HB.out.trans (h.mono HB.out.size)))
  obtain ⟨c6, f6, z6⟩ := K6.out.facts
  obtain ⟨c7, f7, z7⟩ := K7.out.facts
  obtain ⟨c10, f10, z10⟩ := K10.out.facts
  obtain ⟨c12, f12, z12⟩ := K12.out.facts
  have heq := run_eql_spot_same
  refine Reg.wp_region_eff (fun _ => False) (mF v3.heap.size tl) (fun _ _ => True) (by kernel_rfl) (by kernel_rfl) mF_s (fun _ _ _ _ _ => trivial) trivial ?_
  simp only
  iterate 29
    apply Reg.SeqE.val
    rotate_left 2
    · intro δ W hW hkn K hK
      obtain ⟨hc, hf, _⟩ := Reg.kcell hW
      simp only [Act.put, List.setIfInBounds_toArray, List.set_cons_zero, List.set_cons_succ] at hK
      unfold Reg.Does
      go_simp
      try simp only [IntWalk.i64_left]
      first
        | exact hK _ (Below.refl _ _)
        | (go_at_call 18; (with_reducible refine (HV.out _ (keepN hW)).mono ?_); rintro e w' ⟨rfl, hb⟩; exact hK _ hb)
        | (go_at_call 24; (with_reducible refine (HVr.out _ (keepN hW)).mono ?_); rintro e w' ⟨rfl, hb⟩; exact hK _ hb)
        | (go_at_call 14; (with_reducible refine (HBl.out _).mono ?_); rintro e w' ⟨rfl, hb⟩; exact hK _ hb)
        | (go_at_call 25; (with_reducible refine (HBr.out _).mono ?_); rintro e w' ⟨rfl, hb⟩; exact hK _ hb)
        | (trace_state; fail)
    rotate_left 1
    · intro δ δ' hd; first | rfl | (simp only [hd _ (show Reg.reach _ 12 _ _ = true by kernel_rfl)])
    · intro x w; first | exact trivial | (intro e; exact absurd e (by decide)) | exact ⟨fun e => absurd e (by decide), fun e => absurd e (by decide)⟩
    simp only [Act.put, List.setIfInBounds_toArray, List.set_cons_zero, List.set_cons_succ, List.nil_append, List.cons_append, Nat.reduceAdd, Nat.zero_add]
  refine Reg.SeqE.new (fun δ W hW hkn K hK => ?_) ?_
  · simp only [Act.put, List.setIfInBounds_toArray, List.set_cons_zero, List.set_cons_succ] at hK
    unfold Reg.Does
    go_simp
    (with_reducible refine (HTu.out W (keepN hW)).mono ?_); rintro e w' ⟨⟨v, rfl, ho⟩, hb⟩
    exact hK _ _ hb (fun _ => by obtain ⟨A', c', e1, h1, _⟩ := ho.parts; exact ⟨A', c', e1, h1⟩)
  simp only [Act.put, List.setIfInBounds_toArray, List.set_cons_zero, List.set_cons_succ, List.nil_append, List.cons_append, Nat.reduceAdd, Nat.zero_add]
  iterate 1
    apply Reg.SeqE.val
    rotate_left 2
    · intro δ W hW hkn K hK
      obtain ⟨hc, hf, _⟩ := Reg.kcell hW
      simp only [Act.put, List.setIfInBounds_toArray, List.set_cons_zero, List.set_cons_succ] at hK
      unfold Reg.Does
      go_simp
      try simp only [IntWalk.i64_left]
      first
        | exact hK _ (Below.refl _ _)
        | (trace_state; fail)
    rotate_left 1
    · intro δ δ' hd; first | rfl | (simp only [hd _ (show Reg.reach _ 12 _ _ = true by kernel_rfl)])
    · intro x w; first | exact trivial | (intro e; exact absurd e (by decide)) | exact ⟨fun e => absurd e (by decide), fun e => absurd e (by decide)⟩
    simp only [Act.put, List.setIfInBounds_toArray, List.set_cons_zero, List.set_cons_succ, List.nil_append, List.cons_append, Nat.reduceAdd, Nat.zero_add]
  refine Reg.SeqE.new (fun δ W hW hkn K hK => ?_) ?_
  · simp only [Act.put, List.setIfInBounds_toArray, List.set_cons_zero, List.set_cons_succ] at hK
    unfold Reg.Does
    go_simp
    (with_reducible refine (HTr.out W (keepN hW)).mono ?_); rintro e w' ⟨⟨v, rfl, ho⟩, hb⟩
    exact hK _ _ hb (fun _ => by obtain ⟨A', c', e1, h1, _⟩ := ho.parts; exact ⟨A', c', e1, h1⟩)
  simp only [Act.put, List.setIfInBounds_toArray, List.set_cons_zero, List.set_cons_succ, List.nil_append, List.cons_append, Nat.reduceAdd, Nat.zero_add]
  refine Reg.SeqE.val (fun _ => .bool true) (fun _ _ _ => rfl) (fun _ _ e => absurd e (by decide)) (fun δ W hW hkn K hK => ?_) ?_
  · obtain ⟨A1, c1, e1, h1⟩ := hkn 29 (by kernel_rfl) (.inl rfl)
    obtain ⟨A2, c2, e2, h2⟩ := hkn 31 (by kernel_rfl) (.inr rfl)
    have Q := Lib.hid (HSm.out A1 A2 c1 c2 W h1 h2)
    simp only [Act.put, List.setIfInBounds_toArray, List.set_cons_zero, List.set_cons_succ, e1, e2] at hK ⊢
    clear h1 h2 e1 e2
    unfold Reg.Does
    go_simp
    (with_reducible refine Q.out.mono ?_); rintro e w' ⟨rfl, hb⟩
    exact hK _ hb
  simp only [Act.put, List.setIfInBounds_toArray, List.set_cons_zero, List.set_cons_succ, List.nil_append, List.cons_append, Nat.reduceAdd, Nat.zero_add]
  iterate 2
    apply Reg.SeqE.val
    rotate_left 2
    · intro δ W hW hkn K hK
      obtain ⟨hc, hf, _⟩ := Reg.kcell hW
      simp only [Act.put, List.setIfInBounds_toArray, List.set_cons_zero, List.set_cons_succ] at hK
      unfold Reg.Does
      go_simp
      try simp only [IntWalk.i64_left]
      first
        | exact hK _ (Below.refl _ _)
        | (trace_state; fail)
    rotate_left 1
    · intro δ δ' hd; first | rfl | (simp only [hd _ (show Reg.reach _ 12 _ _ = true by kernel_rfl)])
    · intro x w; first | exact trivial | (intro e; exact absurd e (by decide)) | exact ⟨fun e => absurd e (by decide), fun e => absurd e (by decide)⟩
    simp only [Act.put, List.setIfInBounds_toArray, List.set_cons_zero, List.set_cons_succ, List.nil_append, List.cons_append, Nat.reduceAdd, Nat.zero_add]
  refine Reg.SeqE.nil (fun δ W hW hkn _ => ?_)
  replace HB := Lib.hid (HB.out.trans ((keepN hW).mono HB.out.size))
  generalize δ 29 = u29
  generalize δ 31 = u31
  clear hkn hW c6 f6 z6 c7 f7 z7 c10 f10 z10 c12 f12 z12
  go_wp2_with fail
  go_ret
  exact ⟨rfl, HB.out⟩

end G
end Go.Proofs.Ytjeapimjgojpoaa
