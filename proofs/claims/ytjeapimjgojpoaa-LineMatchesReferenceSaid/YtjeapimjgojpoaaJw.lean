/- Lines of the reference: 'Turned', 'Same', 'Before' at places. -/
import Derived.Test.YtjeapimjgojpoaaJv
import Derived.Test.YtjeapimjgojpoaaJt
import Derived.Test.YtjeapimjgojpoaaIq
set_option linter.unusedSimpArgs false
set_option linter.unusedVariables false
set_option maxRecDepth 100000
namespace Go.Proofs.Ytjeapimjgojpoaa
open Go.RowKit
namespace G

theorem run_neq_pt (ax ay bx by' : Int) (w : World) : (binOp .neq 24 (.agg #[.int .i64 ax, .int .i64 ay]) (.agg #[.int .i64 bx, .int .i64 by'])).run Try.prog w = .ok (.bool (!ptEq ax ay bx by')) w := by
  by_cases h1 : ax = bx <;> by_cases h2 : ay = by' <;> go_simp <;> simp [ptEq, h1, h2]
theorem run_neq_pt_same (a b : Int) (w : World) : (binOp .neq 24 (.agg #[.int .i64 a, .int .i64 b]) (.agg #[.int .i64 a, .int .i64 b])).run Try.prog w = .ok (.bool false) w := by
  rw [run_neq_pt]; simp [ptEq]

set_option maxHeartbeats 4000000 in
theorem same_pts (A B : Option Addr) (c c' : Nat) (l : List P2) (w : World) (hl : LineAt w A l) (hl' : LineAt w B l) (hn : l.length ≤ 1000) :
    Calls Try.prog 26 #[.slice A l.length c, .slice B l.length c'] w fun e w' => e = .returned (.bool true) ∧ Below w.heap.size w w' := by
  have HL := Lib.hid (And.intro hl hl')
  have hne := run_neq_pt_same
  have hz : (l.length == l.length) = true := by simp
  clear hl hl'
  go_enter Try.func26, Try.ntmps26
  go_wp2_with fail
  go_loopw [5] (fun i wr => ∃ k : Nat, k ≤ l.length ∧ i = .int .i64 k ∧ Below w.heap.size w wr) (fun i _ => l.length - (intOf i).toNat)
  case atStart => exact ⟨0, by omega, rfl, Below.refl _ _⟩
  case round =>
    obtain ⟨k, hk, rfl, hbw⟩ := hrel
    have HB := Lib.hid hbw
    clear hbw
    by_cases hlt : k < l.length
    · obtain ⟨b, off, hA, hb, c0, c1⟩ := (HL.out.1.below HB.out) k hlt
      obtain ⟨b', off', hA', hb', d0, d1⟩ := (HL.out.2.below HB.out) k hlt
      subst hA
      subst hA'
      have hki : (k : Int) < (l.length : Int) := by omega
      have hk0 : (0 : Int) ≤ (k : Int) := by omega
      have hwk : IntKind.i64.wrap ((k : Int) + 1) = ((k + 1 : Nat) : Int) := i64_in _ (by omega) (by omega)
      generalize (pt l k).1 = X at *
      generalize (pt l k).2 = Y at *
      go_wp2_with fail
      refine Reg.wp_region_seq (by kernel_rfl) (by kernel_rfl) ?_
      simp only
      iterate 9
        apply Reg.SeqOK.val
        · intro γ W hW K hK
          obtain ⟨hc, hf, _⟩ := bcell hW
          simp only [Act.put, List.setIfInBounds_toArray, List.set_cons_zero, List.set_cons_succ] at hK
          unfold Reg.Does
          go_simp
          try simp only [IntWalk.i64_left]
          first
            | exact hK _ (Below.refl _ _)
            | (trace_state; fail)
        simp only [Act.put, List.setIfInBounds_toArray, List.set_cons_zero, List.set_cons_succ, List.nil_append, List.cons_append, Nat.reduceAdd, Nat.zero_add]
      refine Reg.SeqOK.nil (by kernel_rfl) (fun γ W hW _ _ _ => ?_)
      replace HB := Lib.hid (HB.out.trans (hW.mono HB.out.size))
      clear hW c0 c1 d0 d1 hb hb'
      go_wp2_with fail
      exact ⟨⟨k + 1, by omega, rfl, HB.out⟩, by simp [intOf]; omega⟩
    · obtain rfl : k = l.length := by omega
      go_wp2_with fail
      go_ret
      exact ⟨rfl, HB.out⟩

theorem rbefore_any (a b : Spt) (w : World) (ha : a.B6) (hb : b.B6) :
    Calls Try.prog 25 #[.agg a.cells, .agg b.cells] w fun e w' => e = .returned (.int .i64 (beforeI a b)) ∧ Below w.heap.size w w' := by
  obtain ⟨a1, a2, a3, a4, a5, a6⟩ := a
  obtain ⟨b1, b2, b3, b4, b5, b6⟩ := b
  exact rbefore_cells a1 a2 a3 a4 a5 a6 b1 b2 b3 b4 b5 b6 w ha hb
theorem app1P {w0 w : World} {B cap : Nat} {A0 : Option Addr} {l : List P2} (x y : Int) (hown : OwnP B w (.slice A0 l.length cap) l) (hn : l.length + 1 ≤ 1000000) (hB : Below B w0 w) (hBw : B ≤ w.heap.size) :
    ∃ A' c' w', (Ap.appA #[38, 38] 38 #[.slice A0 l.length cap, .slice (some ⟨w.heap.size, 0, none⟩) 1 1]).run Try.prog (w.alloc (.cells #[.int .i64 x, .int .i64 y] 24)) = .ok (.slice A' (l ++ [(x, y)]).length c') w' ∧
      OwnP B w' (.slice A' (l ++ [(x, y)]).length c') (l ++ [(x, y)]) ∧ Below B w0 w' := by
  obtain ⟨i0, hi0, hz⟩ := Option.map_eq_some_iff.1 info_pt
  simp only [Prod.mk.injEq] at hz
  obtain ⟨hz0, hz1, hz2⟩ := hz
  have hb1 : Below w.heap.size w (w.alloc (.cells #[.int .i64 x, .int .i64 y] 24)) := (Below.refl _ _).alloc (Nat.le_refl _) _
  have hs : Ap.SrcAt (w.alloc (.cells #[.int .i64 x, .int .i64 y] 24)) (some ⟨w.heap.size, 0, none⟩) 2 1 [.int .i64 x, .int .i64 y] := Ap.SrcAt.blk2 (Reg.Blk.new w _ _) rfl rfl
  obtain ⟨A', c', w', hrun, ho, hgr, _⟩ := Ap.run_appX (c := 1) Try.underlying38 hi0 hz0 hz1 hz2 rfl (by omega) (by omega) 38 (Ap.own_below hown hb1) hs (fun e => by cases e) hn (by simp; omega)
  have e1 : (l ++ [(x, y)]).length = l.length + 1 := by simp
  refine ⟨A', c', w', by rw [e1]; exact hrun, ?_, (hB.trans (hb1.mono hBw)).grown hgr (by simp; omega) (fun k e => ?_)⟩
  · show World.ownsRow _ _ _ _ _ _ _
    rw [e1, flat_app, show flat [(x, y)] = [.int .i64 x, .int .i64 y] by rfl]
    exact ho
  · have h0 : w.ownsRow B 24 2 (.slice A0 l.length cap) l.length (flat l) := hown
    exact (World.ownsRow.lt h0 k e).1
theorem rev_step {l : List P2} {k : Nat} (hk : k < l.length) : (l.reverse).take (l.length - k) = (l.reverse).take (l.length - (k + 1)) ++ [pt l k] := by
  have h1 : l.length - (k + 1) < l.reverse.length := by rw [List.length_reverse]; omega
  have h2 : l.length - k = l.length - (k + 1) + 1 := by omega
  rw [h2, ← List.take_append_getElem h1]
  have h3 : l.reverse[l.length - (k + 1)] = pt l k := by
    rw [List.getElem_reverse]
    unfold pt
    rw [List.getElem?_eq_getElem hk]
    simp only [Option.getD_some]
    congr 1
    omega
  rw [h3]

attribute [local go_sem ↓ high] Ap.builtin_appA in
set_option maxHeartbeats 8000000 in
theorem rturned_any (l : List P2) (A : Option Addr) (c : Nat) (w : World) (hn : l.length ≤ 1000) (hl : LineAt w A l) :
    Calls Try.prog 28 #[.slice A l.length c] w fun e w' => (∃ v, e = .returned v ∧ OwnP w.heap.size w' v (turnL l)) ∧ Below w.heap.size w w' := by
  have HV := Lib.hid (rvalid_line A c l w hl (by omega))
  have HL := Lib.hid hl
  have HE : Hid (turnL l = if validL l then l.reverse else []) := rfl
  obtain ⟨q, hq⟩ : ∃ q, validL l = q := ⟨_, rfl⟩
  rw [hq] at HV HE
  have hvl : q = true → 2 ≤ l.length := fun h => (valid_len (hq.trans h)).1
  clear hl hq
  cases q with
  | false =>
    go_enter Try.func28, Try.ntmps28
    go_wp2_with fail
    (with_reducible refine HV.out.mono ?_); rintro e w1 ⟨rfl, hb1⟩
    have HB := Lib.hid hb1
    clear hb1
    go_wp2_with fail
    refine bodyPost_ret (v := .slice none 0 0) (by simp [results, Try.results28, go_sem]) rfl ⟨⟨_, rfl, ?_⟩, HB.out⟩
    rw [HE.out]; exact OwnP.nil _ _
  | true =>
    have h2l := hvl rfl
    clear hvl
    obtain ⟨n, hnl⟩ : ∃ n, n + 1 = l.length := ⟨l.length - 1, by omega⟩
    have hsub : IntKind.i64.wrap ((l.length : Int) - 1) = (n : Int) := by rw [show (l.length : Int) - 1 = (n : Int) by omega]; exact i64_in _ (by omega) (by omega)
    have HRs := Lib.hid (fun k (hk : k < l.length) => rev_step (l := l) hk)
    go_enter Try.func28, Try.ntmps28
    go_wp2_with fail
    (with_reducible refine HV.out.mono ?_); rintro e w1 ⟨rfl, hb1⟩
    have HB := Lib.hid hb1
    clear hb1
    go_wp2_with fail
    go_loopw [3, 4] (fun v x wr => ∃ (k : Nat) (z : Int) (L : List P2) (A' : Option Addr) (c' : Nat), k ≤ l.length ∧ z = (k : Int) - 1 ∧ x = .int .i64 z ∧ v = .slice A' L.length c' ∧ L = l.reverse.take (l.length - k) ∧ OwnP w1.heap.size wr (.slice A' L.length c') L ∧ Below w1.heap.size w1 wr) (fun _ x _ => (intOf x + 1).toNat)
    case atStart => exact ⟨l.length, n, [], none, 0, Nat.le_refl _, by omega, rfl, rfl, by rw [Nat.sub_self]; rfl, OwnP.nil _ _, Below.refl _ _⟩
    case round =>
      obtain ⟨k, z, L, A', c', hk, hz, rfl, rfl, hL, ho, hbw⟩ := hrel
      have HO := Lib.hid ho
      have HBw := Lib.hid hbw
      have HLk := Lib.hid hL
      have hlen : L.length ≤ l.length := by rw [hL, List.length_take, List.length_reverse]; omega
      clear ho hbw hL
      cases k with
      | zero =>
        have hzn : ¬ (0 : Int) ≤ z := by omega
        have hzd : decide ((0 : Int) ≤ z) = false := decide_eq_false hzn
        have hLl : L = l.reverse := by rw [HLk.out, Nat.sub_zero, ← List.length_reverse, List.take_length]
        have HLl := Lib.hid hLl
        clear hLl
        go_wp2_with fail
        refine bodyPost_ret (v := .slice A' L.length c') (by simp [results, Try.results28, go_sem]) rfl ⟨⟨_, rfl, ?_⟩, HB.out.trans (HBw.out.mono HB.out.size)⟩
        rw [HE.out, if_pos trivial, ← HLl.out]
        exact Ap.own_base HO.out HB.out.size
      | succ k =>
        obtain rfl : z = (k : Int) := by omega
        obtain ⟨b, off, hA, hb, c0, c1⟩ := (HL.out.below (HB.out.trans (HBw.out.mono HB.out.size))) k (by omega)
        have hnx := HRs.out k (by omega)
        generalize pt l k = P at *
        obtain ⟨X, Y⟩ := P
        simp only at c0 c1
        obtain ⟨A3, c3, w3, hrun, ho3, hL3⟩ := app1P X Y HO.out (by omega) HBw.out HBw.out.size
        have e1 : (L ++ [(X, Y)]).length = L.length + 1 := by simp
        rw [e1] at hrun
        have HE1 := Lib.hid e1
        have HO3 := Lib.hid ho3
        have HL3 := Lib.hid hL3
        have HNx : Hid (L ++ [(X, Y)] = l.reverse.take (l.length - k)) := by unfold Hid; rw [hnx, HLk.out]
        have hk0 : (0 : Int) ≤ (k : Int) := by omega
        have hkl : (k : Int) < (l.length : Int) := by omega
        have hks : k < l.length := by omega
        have hw2 : IntKind.i64.wrap ((k : Int) - 1) = (k : Int) - 1 := i64_in _ (by omega) (by omega)
        subst hA
        clear hnx e1 ho3 hL3 hz
        go_wp2_with fail
        exact ⟨⟨k, (k : Int) - 1, L ++ [(X, Y)], A3, c3, by omega, rfl, rfl, by rw [HE1.out], HNx.out, HO3.out, HL3.out⟩, by simp [intOf]⟩

end G
end Go.Proofs.Ytjeapimjgojpoaa
