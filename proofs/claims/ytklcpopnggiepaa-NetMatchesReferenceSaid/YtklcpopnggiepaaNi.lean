/- Net: 'Deliver'. -/
import Derived.Test.YtklcpopnggiepaaNh
set_option linter.unusedSimpArgs false
set_option linter.unusedVariables false
set_option maxRecDepth 100000
namespace Go.Proofs.Ytklcpopnggiepaa
open Go.RowKit
namespace N

theorem door_ret {P : Program} {fn : Func} {R : Ending → World → Prop} {tmps : Array Value} {w : World} {v : Value} (h : (results fn tmps).run P w = .ok v w) (hR : R (.returned v) w) : bodyPostD P fn R .ret { tmps := tmps, defers := [] } w := ⟨v, h, hR⟩
section
variable (a b k : Int) (lost again : Bool) (w : World) {B g : Nat} {M : Nat → Prop} {d : Nt}
theorem knows_is {x : Bool} (hx : okP d.n a b = x) {w1 : World} (hd : NetAt w1 B M g d) : Hid (∀ W, Below w1.heap.size w1 W → Calls Try.prog 23 #[.pointer (some ⟨g, 0, none⟩), .agg #[.int .i64 a, .int .i64 b]] W fun e w' => e = .returned (.bool x) ∧ Below W.heap.size W w') := by
  intro W hW
  rw [← hx]
  exact knows_at a b W (hd.below hW)

set_option maxHeartbeats 1000000 in
theorem deliver_not (hd : NetAt w B M g d) (hk : okP d.n a b = false) :
    Calls Try.prog 13 #[.pointer (some ⟨g, 0, none⟩), .int .i64 a, .int .i64 b, .int .i64 k, .bool lost, .bool again] w fun e w' => e = .returned (.tuple #[.string (str []), .bool false]) ∧ Below w.heap.size w w' := by
  have hT : Below w.heap.size w (((w.alloc (.cells #[.pointer (some ⟨g, 0, none⟩)] 25)).alloc (.cells #[.int .i64 k] 3)).alloc (.cells #[.int .i64 a, .int .i64 b] 59)) := (((Below.refl _ _).alloc (Nat.le_refl _) _).alloc (by simp) _).alloc (by simp; omega) _
  have HKN := knows_is a b hk (hd.below hT)
  have HT := Lib.hid hT
  clear hT hd
  go_enter_defers Try.func13, Try.ntmps13
  go_wp2_with fail
  refine Reg.wp_region_seq (by kernel_rfl) (by kernel_rfl) ?_
  simp only
  iterate 19
    apply Reg.SeqOK.val
    · intro γ W hW K hK
      obtain ⟨hc, hf, _⟩ := bcell hW
      simp only [Act.put, List.setIfInBounds_toArray, List.set_cons_zero, List.set_cons_succ] at hK
      unfold Reg.Does
      go_simp
      try simp only [IntWalk.i64_left]
      first
        | exact hK _ (Below.refl _ _)
        | (go_at_call 23; (with_reducible refine (HKN.out _ hW).mono ?_); rintro e w' ⟨rfl, hb⟩; exact hK _ hb)
        | (trace_state; fail)
    simp only [Act.put, List.setIfInBounds_toArray, List.set_cons_zero, List.set_cons_succ, List.nil_append, List.cons_append, Nat.reduceAdd, Nat.zero_add]
  refine Reg.SeqOK.nil (by kernel_rfl) (fun γ W hW _ _ _ => ?_)
  have HW := Lib.hid hW
  clear hW HKN
  go_wp2_with fail
  refine door_ret (v := .tuple #[.string (str []), .bool false]) (by simp [results, Try.results13, go_sem, str]) ⟨rfl, HT.out.trans (HW.out.mono HT.out.size)⟩

set_option maxHeartbeats 1000000 in
theorem deliver_neg (hd : NetAt w B M g d) (hk : okP d.n a b = true) (h0 : k < 0) :
    Calls Try.prog 13 #[.pointer (some ⟨g, 0, none⟩), .int .i64 a, .int .i64 b, .int .i64 k, .bool lost, .bool again] w fun e w' => e = .returned (.tuple #[.string (str []), .bool false]) ∧ Below w.heap.size w w' := by
  have hT : Below w.heap.size w (((w.alloc (.cells #[.pointer (some ⟨g, 0, none⟩)] 25)).alloc (.cells #[.int .i64 k] 3)).alloc (.cells #[.int .i64 a, .int .i64 b] 59)) := (((Below.refl _ _).alloc (Nat.le_refl _) _).alloc (by simp) _).alloc (by simp; omega) _
  have HKN := knows_is a b hk (hd.below hT)
  have HT := Lib.hid hT
  have h1 : decide (k < 0) = true := by simp [h0]
  clear hT hd
  go_enter_defers Try.func13, Try.ntmps13
  go_wp2_with fail
  refine Reg.wp_region_seq (by kernel_rfl) (by kernel_rfl) ?_
  simp only
  iterate 19
    apply Reg.SeqOK.val
    · intro γ W hW K hK
      obtain ⟨hc, hf, _⟩ := bcell hW
      simp only [Act.put, List.setIfInBounds_toArray, List.set_cons_zero, List.set_cons_succ] at hK
      unfold Reg.Does
      go_simp
      try simp only [IntWalk.i64_left]
      first
        | exact hK _ (Below.refl _ _)
        | (go_at_call 23; (with_reducible refine (HKN.out _ hW).mono ?_); rintro e w' ⟨rfl, hb⟩; exact hK _ hb)
        | (trace_state; fail)
    simp only [Act.put, List.setIfInBounds_toArray, List.set_cons_zero, List.set_cons_succ, List.nil_append, List.cons_append, Nat.reduceAdd, Nat.zero_add]
  refine Reg.SeqOK.nil (by kernel_rfl) (fun γ W hW _ _ _ => ?_)
  have HW := Lib.hid hW
  clear hW HKN
  go_wp2_with fail
  refine door_ret (v := .tuple #[.string (str []), .bool false]) (by simp [results, Try.results13, go_sem, str]) ⟨rfl, HT.out.trans (HW.out.mono HT.out.size)⟩

/-- The three blocks that the call begins with. -/
structure Begun (a b k : Int) (w : World) (B g : Nat) (M : Nat → Prop) (d : Nt) (w2 : World) : Prop where
  eq : w2 = (((w.alloc (.cells #[.pointer (some ⟨g, 0, none⟩)] 25)).alloc (.cells #[.int .i64 k] 3)).alloc (.cells #[.int .i64 a, .int .i64 b] 59))
  low : Below w.heap.size w w2
  at_ : NetAt w2 B M g d
  k0 : Reg.Blk w.heap.size #[.pointer (some ⟨g, 0, none⟩)] 25 w2
  kk : Reg.Blk (w.heap.size + 1) #[.int .i64 k] 3 w2
  kw : Reg.Blk (w.heap.size + 1 + 1) #[.int .i64 a, .int .i64 b] 59 w2
theorem begun (hd : NetAt w B M g d) : ∃ w2, Begun a b k w B g M d w2 := by
  have hT : Below w.heap.size w (((w.alloc (.cells #[.pointer (some ⟨g, 0, none⟩)] 25)).alloc (.cells #[.int .i64 k] 3)).alloc (.cells #[.int .i64 a, .int .i64 b] 59)) := (((Below.refl _ _).alloc (Nat.le_refl _) _).alloc (by simp) _).alloc (by simp; omega) _
  obtain ⟨k0, kk, kw⟩ := Reg.Blk.new3 (w := w) (w' := _) (C := #[.pointer (some ⟨g, 0, none⟩)]) (T := 25) (C' := #[.int .i64 k]) (T' := 3) (C'' := #[.int .i64 a, .int .i64 b]) (T'' := 59) (Below.refl _ _)
  exact ⟨_, rfl, hT, hd.below hT, k0, kk, kw⟩

set_option maxHeartbeats 1000000 in
theorem deliver_past (ha : B64 a) (hb : B64 b) (hd : NetAt w B M g d) (hk : okP d.n a b = true) (h0 : 0 ≤ k) (hn : (d.q a b).length ≤ k) :
    Calls Try.prog 13 #[.pointer (some ⟨g, 0, none⟩), .int .i64 a, .int .i64 b, .int .i64 k, .bool lost, .bool again] w fun e w' => e = .returned (.tuple #[.string (str []), .bool false]) ∧ Below w.heap.size w w' := by
  obtain ⟨w2, hb2⟩ := begun a b k w hd
  have HKN := knows_is a b hk hb2.at_
  obtain ⟨ck0, fk0, zk0⟩ := hb2.k0.facts
  obtain ⟨ckk, fkk, zkk⟩ := hb2.kk.facts
  obtain ⟨ckw, fkw, zkw⟩ := hb2.kw.facts
  obtain ⟨bq, bc, fq, fc, h⟩ := hb2.at_
  obtain ⟨ckd, fkd, zkd⟩ := h.blk.facts
  have hl := fun (W : World) (hW : Below w2.heap.size w2 W) => (h.below hW).look_row ha hb
  obtain ⟨A, c, hv, _, _⟩ := h.form a b
  rw [hv] at hl
  have HE := Lib.hid hb2.eq
  have HT := Lib.hid hb2.low
  have h1 : decide (k < 0) = false := by simp; omega
  have h2 : decide (((d.q a b).length : Int) ≤ k) = true := by simp [hn]
  clear hd h hv hb2
  go_enter_defers Try.func13, Try.ntmps13
  go_wp2_with fail
  rw [← HE.out]
  refine Reg.wp_region_seq (by kernel_rfl) (by kernel_rfl) ?_
  simp only
  iterate 19
    apply Reg.SeqOK.val
    · intro γ W hW K hK
      obtain ⟨hc, hf, _⟩ := bcell hW
      simp only [Act.put, List.setIfInBounds_toArray, List.set_cons_zero, List.set_cons_succ] at hK
      unfold Reg.Does
      go_simp
      try simp only [IntWalk.i64_left]
      first
        | exact hK _ (Below.refl _ _)
        | (go_at_call 23; (with_reducible refine (HKN.out _ hW).mono ?_); rintro e w' ⟨rfl, hb⟩; exact hK _ hb)
    simp only [Act.put, List.setIfInBounds_toArray, List.set_cons_zero, List.set_cons_succ, List.nil_append, List.cons_append, Nat.reduceAdd, Nat.zero_add]
  refine Reg.SeqOK.nil (by kernel_rfl) (fun γ W hW _ _ _ => ?_)
  have HW := Lib.hid hW
  clear hW HKN hl
  go_wp2_with fail
  refine door_ret (v := .tuple #[.string (str []), .bool false]) (by simp [results, Try.results13, go_sem, str]) ⟨rfl, HT.out.trans (HW.out.mono HT.out.size)⟩

set_option maxHeartbeats 4000000 in
theorem deliver_yes (k : Nat) (hB : B ≤ w.heap.size) (ha : B64 a) (hb : B64 b) (hd : NetAt w B M g d) (hk : okP d.n a b = true) (hn : k < (d.q a b).length) (hq : (d.q a b).length ≤ 1000000) :
    Calls Try.prog 13 #[.pointer (some ⟨g, 0, none⟩), .int .i64 a, .int .i64 b, .int .i64 k, .bool lost, .bool again] w fun e w' =>
      e = .returned (.tuple #[.string (str (if lost = true then [] else (d.q a b).getD k [])), .bool (!lost)]) ∧ Post w B M g (if (lost || !again) = true then cutD d a b k else d) w' := by
  have HD := Lib.hid hd
  obtain ⟨w2, hb2⟩ := begun a b k w hd
  have HKN := knows_is a b hk hb2.at_
  obtain ⟨ck0, fk0, zk0⟩ := hb2.k0.facts
  obtain ⟨ckk, fkk, zkk⟩ := hb2.kk.facts
  obtain ⟨ckw, fkw, zkw⟩ := hb2.kw.facts
  have hd2 := hb2.at_
  obtain ⟨bq, bc, fq, fc, h⟩ := hd2
  obtain ⟨ckd, fkd, zkd⟩ := h.blk.facts
  have hl := fun (W : World) (hW : Below w2.heap.size w2 W) => (h.below hW).look_row ha hb
  obtain ⟨gg, cap, hv, _, hlt⟩ := (h.row a b).form (by omega)
  have hcell := StrsAt.own (by have := h.row a b; rw [hv] at this; exact this) rfl k hn
  obtain ⟨b', off, e1, _, e2⟩ := hcell
  simp only [Option.some.injEq, Addr.mk.injEq] at e1
  obtain ⟨rfl, rfl, _⟩ := e1
  rw [Nat.zero_add] at e2
  have hgd : (d.q a b).getD k [] = (d.q a b)[k] := by simp [List.getD_eq_getElem?_getD, hn]
  rw [hgd]
  rw [hv] at hl
  have HV := Lib.hid hv
  have HE := Lib.hid hb2.eq
  have HB2 := Lib.hid hb2
  have H := Lib.hid h
  have h1 : decide ((k : Int) < 0) = false := by simp
  have h2 : decide (((d.q a b).length : Int) ≤ (k : Int)) = false := by simp; omega
  have h3 : k < (d.q a b).length := hn
  have h4 : decide ((d.q a b).length ≤ k) = false := by simp; omega
  have hmf : ∀ (fn : Fn) (first cap : Array Value) (w : World), (Instr.makeFunc fn first cap).run Try.prog w = .ok (.func fn first cap) w := fun _ _ _ _ => rfl
  clear hd h hv hb2
  go_enter_defers Try.func13, Try.ntmps13
  go_wp2_with fail
  rw [← HE.out]
  refine Reg.wp_region_seq (by kernel_rfl) (by kernel_rfl) ?_
  simp only
  iterate 19
    apply Reg.SeqOK.val
    · intro γ W hW K hK
      obtain ⟨hc, hf, _⟩ := bcell hW
      simp only [Act.put, List.setIfInBounds_toArray, List.set_cons_zero, List.set_cons_succ] at hK
      unfold Reg.Does
      go_simp
      try simp only [IntWalk.i64_left]
      first
        | exact hK _ (Below.refl _ _)
        | (go_at_call 23; (with_reducible refine (HKN.out _ hW).mono ?_); rintro e w' ⟨rfl, hb⟩; exact hK _ hb)
    simp only [Act.put, List.setIfInBounds_toArray, List.set_cons_zero, List.set_cons_succ, List.nil_append, List.cons_append, Nat.reduceAdd, Nat.zero_add]
  refine Reg.SeqOK.nil (by kernel_rfl) (fun γ W hW _ _ _ => ?_)
  have HW := Lib.hid hW
  have e3 : W.cell? ⟨gg, k, none⟩ = some (.string (str (d.q a b)[k])) := (hW.cell (p := ⟨gg, k, none⟩) hlt).trans e2
  have hlt2 : gg < W.heap.size := Nat.lt_of_lt_of_le hlt hW.size
  clear HKN hl e2 hlt ck0 fk0 zk0 ckk fkk zkk ckw fkw zkw ckd fkd zkd
  obtain ⟨ck0, fk0, zk0⟩ := (HB2.out.k0.keep hW).facts
  obtain ⟨ckk, fkk, zkk⟩ := (HB2.out.kk.keep hW).facts
  obtain ⟨ckw, fkw, zkw⟩ := (HB2.out.kw.keep hW).facts
  obtain ⟨ckd, fkd, zkd⟩ := (H.out.below hW).blk.facts
  have hl := fun (W' : World) (hW' : Below W.heap.size W W') => ((H.out.below hW).below hW').look_row ha hb
  rw [HV.out] at hl
  clear hW
  have hG := Lib.hid (fun (W' : World) (hW' : Below w2.heap.size w2 W') => gone_any a b ha hb k w.heap.size (w.heap.size + 1 + 1) (w.heap.size + 1) _ .returning W' (Nat.le_trans hB (Nat.le_trans HB2.out.low.size hW'.size)) (HB2.out.at_.below hW') hn hq (HB2.out.k0.keep hW') (HB2.out.kw.keep hW') (HB2.out.kk.keep hW'))
  cases lost
  · cases again
    · go_wp2_with fail
      try simp only [h4, Bool.not_true, Bool.not_false]
      refine Reg.wp_region_seq (by kernel_rfl) (by kernel_rfl) ?_
      simp only
      iterate 11
        apply Reg.SeqOK.val
        · intro γ W hW K hK
          obtain ⟨hc, hf, _⟩ := bcell hW
          simp only [Act.put, List.setIfInBounds_toArray, List.set_cons_zero, List.set_cons_succ] at hK
          unfold Reg.Does
          go_simp
          try simp only [IntWalk.i64_left]
          first
            | exact hK _ (Below.refl _ _)
        simp only [Act.put, List.setIfInBounds_toArray, List.set_cons_zero, List.set_cons_succ, List.nil_append, List.cons_append, Nat.reduceAdd, Nat.zero_add]
      refine Reg.SeqOK.nil (by kernel_rfl) (fun γ W4 hW4 _ _ _ => ?_)
      have HW4 := Lib.hid (HW.out.trans (hW4.mono HW.out.size))
      clear hW4 hl
      go_wp2_with fail
      refine leaves_cons (f := 24) (args := #[.pointer (some ⟨w.heap.size, 0, none⟩), .pointer (some ⟨w.heap.size + 1 + 1, 0, none⟩), .pointer (some ⟨w.heap.size + 1, 0, none⟩)]) (by simp) (by simp [go_sem]) ?_
      refine (hG.out W4 HW4.out).mono ?_
      rintro e u' w'' ⟨rfl, rfl, hp⟩
      refine ⟨_, results_tmp2 rfl _ _ _, rfl, ?_⟩
      exact (Post.trans (Moved.below (HB2.out.low.trans (HW4.out.mono HB2.out.low.size))) hp)
    · go_wp2_with fail
      try simp only [h4, Bool.not_true, Bool.not_false]
      refine Reg.wp_region_seq (by kernel_rfl) (by kernel_rfl) ?_
      simp only
      iterate 11
        apply Reg.SeqOK.val
        · intro γ W hW K hK
          obtain ⟨hc, hf, _⟩ := bcell hW
          simp only [Act.put, List.setIfInBounds_toArray, List.set_cons_zero, List.set_cons_succ] at hK
          unfold Reg.Does
          go_simp
          try simp only [IntWalk.i64_left]
          first
            | exact hK _ (Below.refl _ _)
        simp only [Act.put, List.setIfInBounds_toArray, List.set_cons_zero, List.set_cons_succ, List.nil_append, List.cons_append, Nat.reduceAdd, Nat.zero_add]
      refine Reg.SeqOK.nil (by kernel_rfl) (fun γ W4 hW4 _ _ _ => ?_)
      have HW4 := Lib.hid (HW.out.trans (hW4.mono HW.out.size))
      clear hW4 hl
      go_wp2_with fail
      refine door_ret (results_tmp2 rfl _ _ _) ⟨rfl, ?_⟩
      exact Post.quiet HD.out (HB2.out.low.trans (HW4.out.mono HB2.out.low.size))
  · go_wp2_with fail
    refine leaves_cons (f := 24) (args := #[.pointer (some ⟨w.heap.size, 0, none⟩), .pointer (some ⟨w.heap.size + 1 + 1, 0, none⟩), .pointer (some ⟨w.heap.size + 1, 0, none⟩)]) (by simp) (by simp [go_sem]) ?_
    refine (hG.out W HW.out).mono ?_
    rintro e u' w'' ⟨rfl, rfl, hp⟩
    refine ⟨_, results_tmp2 rfl _ _ _, rfl, ?_⟩
    exact (Post.trans (Moved.below (HB2.out.low.trans (HW.out.mono HB2.out.low.size))) hp)

theorem deliver_any (hB : B ≤ w.heap.size) (ha : B64 a) (hb : B64 b) (hd : NetAt w B M g d) (hq : (d.q a b).length ≤ 1000000) :
    Calls Try.prog 13 #[.pointer (some ⟨g, 0, none⟩), .int .i64 a, .int .i64 b, .int .i64 k, .bool lost, .bool again] w fun e w' =>
      e = .returned (.tuple #[.string (str (deliver d a b k lost again).1.1), .bool (deliver d a b k lost again).1.2]) ∧ Post w B M g (deliver d a b k lost again).2 w' := by
  show Calls _ _ _ _ fun e w' => e = .returned (.tuple #[.string (str (delT d a b k lost).1), .bool (delT d a b k lost).2]) ∧ Post w B M g (delD d a b k lost again) w'
  cases hi : inQ d a b k
  · have e1 : delT d a b k lost = ([], false) := by unfold delT; rw [if_pos hi]
    have e2 : delD d a b k lost again = d := by unfold delD; rw [if_pos hi]
    rw [e1, e2]
    have quiet : ∀ {e : Ending} {w' : World}, e = .returned (.tuple #[.string (str []), .bool false]) ∧ Below w.heap.size w w' → e = .returned (.tuple #[.string (str []), .bool false]) ∧ Post w B M g d w' := fun ⟨he, hb⟩ => ⟨he, Post.quiet hd hb⟩
    cases hk : okP d.n a b
    · exact (deliver_not a b k lost again w hd hk).mono fun e w' h => quiet h
    · by_cases h0 : k < 0
      · exact (deliver_neg a b k lost again w hd hk h0).mono fun e w' h => quiet h
      · refine (deliver_past a b k lost again w ha hb hd hk (by omega) ?_).mono fun e w' h => quiet h
        unfold inQ at hi
        rw [hk] at hi
        simp at hi
        omega
  · have e1 : delT d a b k lost = ((if lost = true then [] else (d.q a b).getD k.toNat []), !lost) := by unfold delT; rw [if_neg (by simp [hi])]; cases lost <;> rfl
    have e2 : delD d a b k lost again = if (lost || !again) = true then cutD d a b k else d := by unfold delD; rw [if_neg (by simp [hi])]
    rw [e1, e2]
    unfold inQ at hi
    simp only [Bool.and_eq_true, decide_eq_true_eq] at hi
    obtain ⟨hk, h0, hn⟩ := hi
    obtain ⟨m, rfl⟩ := Int.eq_ofNat_of_zero_le h0
    exact deliver_yes a b lost again w m hB ha hb hd hk (by omega) hq
end
end N
end Go.Proofs.Ytklcpopnggiepaa
