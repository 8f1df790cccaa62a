/- Net: 'Cut', 'Heal'. -/
import Derived.Test.YtklcpopnggiepaaNi
set_option linter.unusedSimpArgs false
set_option linter.unusedVariables false
set_option maxRecDepth 100000
namespace Go.Proofs.Ytklcpopnggiepaa
open Go.RowKit
namespace N

def one (d : Nt) (a b : Int) (cut : Bool) : Nt := { d with c := at2 d.c a b cut, q := if cut = true then at2 d.q a b [] else d.q }
def stg (d : Nt) (a b : Int) (cut : Bool) : Nat → Nt
  | 0 => d
  | 1 => one d a b cut
  | _ => one (one d a b cut) b a cut
theorem turn_stg {d : Nt} {a b : Int} {cut : Bool} (hk : okP d.n a b = true) (hc : d.c a b ≠ cut) : turn d a b cut = (0, stg d a b cut 2) := by
  unfold turn
  rw [if_neg (by simp [hk]), if_neg hc]
  cases cut <;> rfl

section
variable (a b : Int) (cut : Bool) (w : World) {B g : Nat} {M : Nat → Prop} {d : Nt}
theorem turn_no (hd : NetAt w B M g d) (hk : okP d.n a b = false) :
    Calls Try.prog 33 #[.pointer (some ⟨g, 0, none⟩), .int .i64 a, .int .i64 b, .bool cut] w fun e w' => e = .returned (.int .i64 1) ∧ Below w.heap.size w w' := by
  have HK := Lib.hid (fun (W : World) (hW : NetAt W B M g d) => knows_at a b W hW)
  go_enter Try.func33, Try.ntmps33
  go_wp2_with fail
  (with_reducible refine (HK.out _ hd).mono ?_)
  rw [hk]; rintro e w1 ⟨rfl, hb1⟩
  go_wp2
  go_ret
  exact ⟨rfl, hb1⟩
theorem turn_same (ha : B64 a) (hb : B64 b) (hd : NetAt w B M g d) (hk : okP d.n a b = true) (hc : d.c a b = cut) :
    Calls Try.prog 33 #[.pointer (some ⟨g, 0, none⟩), .int .i64 a, .int .i64 b, .bool cut] w fun e w' => e = .returned (.int .i64 11) ∧ Below w.heap.size w w' := by
  have HK := Lib.hid (fun (W : World) (hW : NetAt W B M g d) => knows_at a b W hW)
  go_enter Try.func33, Try.ntmps33
  go_wp2_with fail
  (with_reducible refine (HK.out _ hd).mono ?_)
  rw [hk]; rintro e w1 ⟨rfl, hb1⟩
  obtain ⟨bq, bc, fq, fc, h1⟩ := hd.below hb1
  obtain ⟨ckd, fkd, zkd⟩ := h1.blk.facts
  have hl := h1.look_cut ha hb
  rw [hc] at hl
  cases cut
  all_goals
    go_wp2
    go_ret
    exact ⟨rfl, hb1⟩

set_option maxHeartbeats 2000000 in
/-- A round. -/
theorem turn_yes (ha : B64 a) (hb : B64 b) (hB : B ≤ w.heap.size) (hd : NetAt w B M g d) (hk : okP d.n a b = true) (hc : d.c a b = !cut) :
    Calls Try.prog 33 #[.pointer (some ⟨g, 0, none⟩), .int .i64 a, .int .i64 b, .bool cut] w fun e w' => e = .returned (.int .i64 0) ∧ Post w B M g (stg d a b cut 2) w' := by
  have HK := Lib.hid (fun (W : World) (hW : NetAt W B M g d) => knows_at a b W hW)
  have i0 : ∀ w, (Instr.index 75 (.agg #[.int .i64 a, .int .i64 b, .int .i64 b, .int .i64 a]) (.int .i64 0)).run Try.prog w = .ok (.agg #[.int .i64 a, .int .i64 b]) w := fun _ => by kernel_rfl
  have i1 : ∀ w, (Instr.index 75 (.agg #[.int .i64 a, .int .i64 b, .int .i64 b, .int .i64 a]) (.int .i64 1)).run Try.prog w = .ok (.agg #[.int .i64 b, .int .i64 a]) w := fun _ => by kernel_rfl
  go_enter Try.func33, Try.ntmps33
  go_wp2_with fail
  (with_reducible refine (HK.out _ hd).mono ?_)
  rw [hk]; rintro e w1 ⟨rfl, hb1⟩
  have hd1 := hd.below hb1
  obtain ⟨bq, bc, fq, fc, h1⟩ := hd1
  obtain ⟨ckd, fkd, zkd⟩ := h1.blk.facts
  have hl := h1.look_cut ha hb
  rw [hc] at hl
  have hne : ((!cut) == cut) = false := by cases cut <;> rfl
  have HB := Lib.hid hb1
  have HD := Lib.hid hd
  clear hd hb1 h1
  go_wp2_with fail
  have I0 := Lib.hid i0
  have I1 := Lib.hid i1
  have HNE := Lib.hid hne
  clear i0 i1 hne hl ckd fkd zkd
  go_loopw [34] (fun i wr => ∃ k : Nat, k ≤ 2 ∧ i = .int .i64 k ∧ Post w B M g (stg d a b cut k) wr) (fun i _ => 2 - (intOf i).toNat)
  case atStart => exact ⟨0, by omega, rfl, Post.quiet HD.out HB.out⟩
  case round =>
    obtain ⟨k, hk2, rfl, hp⟩ := hrel
    by_cases hlt : k < 2
    · obtain ⟨x, y, bx, by', hi, hs⟩ : ∃ x y : Int, B64 x ∧ B64 y ∧ (∀ w, (Instr.index 75 (.agg #[.int .i64 a, .int .i64 b, .int .i64 b, .int .i64 a]) (.int .i64 (k : Int))).run Try.prog w = .ok (.agg #[.int .i64 x, .int .i64 y]) w) ∧ stg d a b cut (k + 1) = one (stg d a b cut k) x y cut := by
        match k, hlt with
        | 0, _ => exact ⟨a, b, ha, hb, I0.out, rfl⟩
        | 1, _ => exact ⟨b, a, hb, ha, I1.out, rfl⟩
      have HS := Lib.hid hs
      obtain ⟨M1, ⟨bq1, bc1, fq1, fc1, h2⟩, hm2⟩ := hp
      have kw := Reg.Blk.new wr #[.int .i64 x, .int .i64 y] 59
      have h3 := h2.alloc (.cells #[.int .i64 x, .int .i64 y] 59)
      have hm3 := hm2.trans (Moved.alloc wr (.cells #[.int .i64 x, .int .i64 y] 59))
      have hB3 : B ≤ wr.heap.size := Nat.le_trans hB hm2.keep.size
      obtain ⟨w2, hw2⟩ : ∃ w2, w2 = wr.alloc (.cells #[.int .i64 x, .int .i64 y] 59) := ⟨_, rfl⟩
      have HE := Lib.hid hw2
      rw [← hw2] at kw h3 hm3
      obtain ⟨kl, hkl⟩ := key_of bx by'
      obtain ⟨ckw, fkw, zkw⟩ := kw.facts
      obtain ⟨ckd, fkd, zkd⟩ := h3.blk.facts
      have H3 := Lib.hid h3
      have HM3 := Lib.hid hm3
      have hB4 : B ≤ w2.heap.size := by rw [hw2]; simp; omega
      have HB4 := Lib.hid hB4
      clear hs h2 hm2 h3 hm3 hw2 hB4
      have d1 : decide ((k : Int) < 2) = true := by simp; omega
      have d2 : decide (k < 2) = true := by simp; omega
      go_wp2_with fail
      rw [← HE.out]
      try simp only [d1, d2]
      clear d1 d2
      refine Reg.wp_region_seq (by kernel_rfl) (by kernel_rfl) ?_
      simp only
      iterate 6
        apply Reg.SeqOK.val
        · intro γ W hW K hK
          obtain ⟨hc, hf, _⟩ := bcell hW
          simp only [Act.put, List.setIfInBounds_toArray, List.set_cons_zero, List.set_cons_succ] at hK
          unfold Reg.Does
          go_simp
          try simp only [IntWalk.i64_left]
          first
            | exact hK _ (Below.refl _ _)
            | (trace_state; fail)
        simp only [Act.put, List.setIfInBounds_toArray, List.set_cons_zero, List.set_cons_succ, List.nil_append, List.cons_append, Nat.reduceAdd, Nat.zero_add]
      refine Reg.SeqOK.last (by kernel_rfl) (by kernel_rfl) (fun γ W hW _ _ _ => ?_)
      have h4 := H3.out.below hW
      have kw4 := kw.keep hW
      obtain ⟨w4, hrun, hm, htn⟩ := h4.mpc.update (T := 55) (v := .bool cut) key_law Try.underlying55 hkl
      have hrun' : (Instr.mapUpdate 55 (.map (some bc1)) (.agg #[.int .i64 x, .int .i64 y]) (.bool cut)).run Try.prog W = .ok () w4 := hrun
      obtain ⟨h5, hm5⟩ := h4.putC (x := cut) htn hm
      have kw5 : Reg.Blk wr.heap.size #[.int .i64 x, .int .i64 y] 59 w4 := (htn.far _ (h4.mpc.not_cells kw4)).trans kw4
      have H5 := Lib.hid h5
      have HM5 := Lib.hid ((HM3.out.trans (Moved.below hW)).trans hm5)
      have HB5 := Lib.hid (show B ≤ w4.heap.size by rw [htn.size]; exact Nat.le_trans HB4.out hW.size)
      clear hW h4 kw4 hrun hm htn h5 hm5 ckw fkw zkw ckd fkd zkd
      unfold Reg.Does
      go_simp
      obtain ⟨ckw, fkw, zkw⟩ := kw5.facts
      obtain ⟨ckd, fkd, zkd⟩ := H5.out.blk.facts
      clear hrun'
      cases cut
      · go_wp2_with fail
        go_roundw
        case rel =>
          refine ⟨k + 1, by omega, by go_num, M1, ⟨bq1, bc1, fq1, upd fc1 x y (.bool false), ?_⟩, HM5.out⟩
          rw [HS.out]
          exact H5.out
        case measure => simp [intOf]; omega
      · go_wp2_with fail
        refine Reg.wp_region_seq (by kernel_rfl) (by kernel_rfl) ?_
        simp only
        iterate 5
          apply Reg.SeqOK.val
          · intro γ W hW K hK
            obtain ⟨hc, hf, _⟩ := bcell hW
            simp only [Act.put, List.setIfInBounds_toArray, List.set_cons_zero, List.set_cons_succ] at hK
            unfold Reg.Does
            go_simp
            try simp only [IntWalk.i64_left]
            first
              | exact hK _ (Below.refl _ _)
              | (trace_state; fail)
          simp only [Act.put, List.setIfInBounds_toArray, List.set_cons_zero, List.set_cons_succ, List.nil_append, List.cons_append, Nat.reduceAdd, Nat.zero_add]
        refine Reg.SeqOK.last (by kernel_rfl) (by kernel_rfl) (fun γ W6 hW6 _ _ _ => ?_)
        have h6 := H5.out.below hW6
        obtain ⟨w7, hrun, hm, htn⟩ := h6.mpq.update (T := 54) (v := nilS) key_law Try.underlying54 hkl
        have hrun' : (Instr.mapUpdate 54 (.map (some bq1)) (.agg #[.int .i64 x, .int .i64 y]) (.slice none 0 0)).run Try.prog W6 = .ok () w7 := hrun
        have hp7 := h6.put (M1 := fun j => j = bq1) (l := []) (n := 0) ⟨htn.os, htn.tape, htn.output, by rw [htn.size]; exact Nat.le_refl _, fun j _ hn => htn.far j hn⟩ (fun j e => .inl e) hm (nil_row _ _) rfl (fun j hj => by simp [nilS, Value.ownBlock] at hj)
        have HP7 := Lib.hid hp7
        have HM7 := Lib.hid ((HM5.out.trans (Moved.below hW6)).trans hp7.2)
        clear hW6 h6 hrun hm htn hp7
        unfold Reg.Does
        go_simp
        clear hrun'
        go_wp2_with fail
        go_roundw
        case rel =>
          refine ⟨k + 1, by omega, by go_num, _, ⟨bq1, bc1, upd fq1 x y nilS, upd fc1 x y (.bool true), ?_⟩, HM7.out⟩
          rw [HS.out]
          exact HP7.out.1
        case measure => simp [intOf]; omega
    · obtain rfl : k = 2 := by omega
      have HP := Lib.hid hp
      clear hp
      go_wp2_with fail
      go_ret
      exact ⟨rfl, HP.out⟩

theorem turn_any (ha : B64 a) (hb : B64 b) (hB : B ≤ w.heap.size) (hd : NetAt w B M g d) :
    Calls Try.prog 33 #[.pointer (some ⟨g, 0, none⟩), .int .i64 a, .int .i64 b, .bool cut] w fun e w' => e = .returned (.int .i64 (turn d a b cut).1) ∧ Post w B M g (turn d a b cut).2 w' := by
  cases hk : okP d.n a b
  · have e : turn d a b cut = (1, d) := by unfold turn; rw [if_pos hk]
    rw [e]
    exact (turn_no a b cut w hd hk).mono fun e w' ⟨he, hb⟩ => ⟨he, Post.quiet hd hb⟩
  · by_cases hc : d.c a b = cut
    · have e : turn d a b cut = (11, d) := by unfold turn; rw [if_neg (by simp [hk]), if_pos hc]
      rw [e]
      exact (turn_same a b cut w ha hb hd hk hc).mono fun e w' ⟨he, hb⟩ => ⟨he, Post.quiet hd hb⟩
    · rw [turn_stg hk hc]
      exact turn_yes a b cut w ha hb hB hd hk (by revert hc; cases d.c a b <;> cases cut <;> simp)
theorem cut_any (ha : B64 a) (hb : B64 b) (hB : B ≤ w.heap.size) (hd : NetAt w B M g d) :
    Calls Try.prog 21 #[.pointer (some ⟨g, 0, none⟩), .int .i64 a, .int .i64 b] w fun e w' => e = .returned (.int .i64 (turn d a b true).1) ∧ Post w B M g (turn d a b true).2 w' := by
  have H := Lib.hid (turn_any a b true w ha hb hB hd)
  clear hd
  go_enter Try.func21, Try.ntmps21
  go_wp2_with fail
  (with_reducible refine H.out.mono ?_); rintro e w1 ⟨rfl, hp⟩
  go_wp2_with fail
  go_ret
  exact ⟨rfl, hp⟩
theorem heal_any (ha : B64 a) (hb : B64 b) (hB : B ≤ w.heap.size) (hd : NetAt w B M g d) :
    Calls Try.prog 22 #[.pointer (some ⟨g, 0, none⟩), .int .i64 a, .int .i64 b] w fun e w' => e = .returned (.int .i64 (turn d a b false).1) ∧ Post w B M g (turn d a b false).2 w' := by
  have H := Lib.hid (turn_any a b false w ha hb hB hd)
  clear hd
  go_enter Try.func22, Try.ntmps22
  go_wp2_with fail
  (with_reducible refine H.out.mono ?_); rintro e w1 ⟨rfl, hp⟩
  go_wp2_with fail
  go_ret
  exact ⟨rfl, hp⟩
end
end N
end Go.Proofs.Ytklcpopnggiepaa
