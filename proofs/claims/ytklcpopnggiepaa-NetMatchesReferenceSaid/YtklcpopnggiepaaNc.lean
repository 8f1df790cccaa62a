/- Net: 'Clone' of a queue, 'Waiting', and 'Send' where nothing is sent. -/
import Derived.Test.YtklcpopnggiepaaNb
set_option linter.unusedSimpArgs false
set_option linter.unusedVariables false
set_option maxRecDepth 100000
namespace Go.Proofs.Ytklcpopnggiepaa
open Go.RowKit
namespace N

theorem nil_row (w : World) (B : Nat) : w.ownsRow B 9 1 (.slice none 0 0) 0 (sv []) := ⟨rfl, .inl ⟨rfl, rfl⟩⟩
theorem clone_any {w : World} {B n : Nat} {v : Value} {l : List Tx} (h : w.ownsRow B 9 1 v n (sv l)) (hn : l.length = n) (hm : n ≤ 1000000) :
    Calls Try.prog 26 #[v] w fun e w' => ∃ v', e = .returned v' ∧ w'.ownsRow w.heap.size 9 1 v' n (sv l) ∧ Below w.heap.size w w' := by
  rcases h.2 with ⟨rfl, h0⟩ | ⟨g', cap, cur, rfl, hb, hg, hc, hm', hs, ht⟩
  · subst h0
    obtain rfl : l = [] := List.eq_nil_of_length_eq_zero hn
    refine (Try.slices_Clone_string_nil 0 0 w).mono ?_
    rintro e w' ⟨rfl, rfl⟩
    exact ⟨_, rfl, nil_row _ _, Below.refl _ _⟩
  · by_cases h0 : n = 0
    · subst h0
      obtain rfl : l = [] := List.eq_nil_of_length_eq_zero hn
      refine (Try.slices_Clone_string_zero ⟨g', 0, none⟩ cap w).mono ?_
      rintro e w' ⟨v', rfl, ho, _, hb2⟩
      exact ⟨v', rfl, ho, hb2⟩
    · refine (Try.slices_Clone_string g' 0 n cap (l.map str) w (by simp [hn]) (by omega) ?_).mono ?_
      · intro j hj
        rw [Nat.zero_add]
        have hj' : j < l.length := by simpa using hj
        have := StrsAt.own (A := some ⟨g', 0, none⟩) (c := cap) h hn j hj'
        obtain ⟨b, off, e1, _, e2⟩ := this
        simp only [Option.some.injEq, Addr.mk.injEq] at e1
        obtain ⟨rfl, rfl, _⟩ := e1
        rw [Nat.zero_add] at e2
        rw [e2]
        simp [List.getD_eq_getElem?_getD, hj']
      · rintro e w' ⟨v', rfl, ho, _, hb2⟩
        refine ⟨v', rfl, ?_, hb2⟩
        have e : ((l.map str).take n).map Value.string = sv l := by
          rw [List.take_of_length_le (by simp [hn])]; simp [sv]
        rw [e] at ho
        exact ho

theorem knows_at (a b : Int) (w : World) {B g : Nat} {M : Nat → Prop} {d : Nt} (hd : NetAt w B M g d) :
    Calls Try.prog 23 #[.pointer (some ⟨g, 0, none⟩), .agg #[.int .i64 a, .int .i64 b]] w fun e w' => e = .returned (.bool (okP d.n a b)) ∧ Below w.heap.size w w' := knows_any a b w hd
theorem waiting_any (a b : Int) (ha : B64 a) (hb : B64 b) (w : World) {B g : Nat} {M : Nat → Prop} {d : Nt} (hd : NetAt w B M g d) (hq : (d.q a b).length ≤ 1000000) :
    Calls Try.prog 15 #[.pointer (some ⟨g, 0, none⟩), .int .i64 a, .int .i64 b] w fun e w' =>
      ∃ v, e = .returned v ∧ w'.ownsRow w.heap.size 9 1 v (waiting d a b).length (sv (waiting d a b)) ∧ Below w.heap.size w w' := by
  have HK := Lib.hid (fun (W : World) (hW : NetAt W B M g d) => knows_at a b W hW)
  cases hk : okP d.n a b
  · have hw : Hid (waiting d a b = []) := by unfold Hid waiting; simp [hk]
    go_enter Try.func15, Try.ntmps15
    go_wp2_with fail
    (with_reducible refine (HK.out _ (hd.below ?_)).mono ?_)
    · exact (Below.refl _ _).alloc (Nat.le_refl _) _
    rw [hk]; rintro e w1 ⟨rfl, hb1⟩
    go_wp2
    go_ret
    refine ⟨_, rfl, ?_, ?_⟩
    · rw [hw.out]; exact nil_row _ _
    · exact ((Below.refl _ _).alloc (Nat.le_refl _) _).trans (hb1.mono (by simp))
  · have hw : Hid (waiting d a b = d.q a b) := by unfold Hid waiting; simp [hk]
    go_enter Try.func15, Try.ntmps15
    go_wp2_with fail
    (with_reducible refine (HK.out _ (hd.below ?_)).mono ?_)
    · exact (Below.refl _ _).alloc (Nat.le_refl _) _
    rw [hk]; rintro e w1 ⟨rfl, hb1⟩
    have kw := Reg.Blk.new1 hb1
    have hT : Below w.heap.size w w1 := ((Below.refl _ _).alloc (Nat.le_refl _) _).trans (hb1.mono (by simp))
    have hd1 := hd.below hT
    obtain ⟨bq, bc, fq, fc, h1⟩ := hd1
    obtain ⟨ckw, fkw, zkw⟩ := kw.facts
    obtain ⟨ckd, fkd, zkd⟩ := h1.blk.facts
    have hl := fun (W : World) (hW : Below w1.heap.size w1 W) => (h1.below hW).look_row ha hb
    have HT := Lib.hid hT
    have H1 := Lib.hid h1
    clear hb1 hd hT h1
    go_wp2_with fail
    refine Reg.wp_region_seq (by kernel_rfl) (by kernel_rfl) ?_
    simp only
    iterate 6
      apply Reg.SeqOK.val
      · intro γ W hW K hK
        obtain ⟨hc, hf, _⟩ := bcell hW
        simp only [Act.put, List.setIfInBounds_toArray, List.set_cons_zero, List.set_cons_succ] at hK
        unfold Reg.Does
        go_simp
        try simp only [IntWalk.i64_left]
        first
          | exact hK _ (Below.refl _ _)
      simp only [Act.put, List.setIfInBounds_toArray, List.set_cons_zero, List.set_cons_succ, List.nil_append, List.cons_append, Nat.reduceAdd, Nat.zero_add]
    refine Reg.SeqOK.tail (by kernel_rfl) (by kernel_rfl) (fun γ W hW _ _ _ => ?_)
    have HW := Lib.hid hW
    have HC := Lib.hid (clone_any (((H1.out.below hW).row a b)) rfl (Nat.le_trans hq (by omega)))
    clear hW hl
    refine Reg.tail_cons ?_
    unfold Reg.Does
    go_simp
    go_wp2_with fail
    (with_reducible refine HC.out.mono ?_); rintro e w3 ⟨v, rfl, ho, hb3⟩
    refine Reg.tail_cons ?_
    unfold Reg.Does
    go_simp
    refine Reg.tail_nil ?_
    go_wp2_with fail
    go_ret
    have hz : w.heap.size ≤ W.heap.size := Nat.le_trans HT.out.size HW.out.size
    refine ⟨v, rfl, ?_, (HT.out.trans (HW.out.mono HT.out.size)).trans (hb3.mono hz)⟩
    rw [hw.out]
    exact own_base ho hz

end N
end Go.Proofs.Ytklcpopnggiepaa
