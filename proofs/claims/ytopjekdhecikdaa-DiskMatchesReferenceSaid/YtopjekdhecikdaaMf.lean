/- The reference disk: 'Fail', 'Start', 'count', 'Arm', 'Sync'. -/
import Derived.Test.YtopjekdhecikdaaMe
import Derived.Test.YtopjekdhecikdaaLQ
set_option linter.unusedSimpArgs false
set_option linter.unusedVariables false
set_option maxRecDepth 100000
namespace Go.Proofs.Ytopjekdhecikdaa
open Go.RowKit
namespace D

theorem put_whole {n : Nat} {st u : Tx} {s : Nat} (hl : st.length = n * 64) (hs : s < n) (hu : u.length ≤ 64) : put st s (u ++ (sec st s).drop u.length) = put st s u := by
  have hsl : (sec st s).length = 64 := sec_len (by omega)
  have hll : (u ++ (sec st s).drop u.length).length = 64 := by rw [List.length_append, List.length_drop]; omega
  apply List.ext_getElem?
  intro i
  rw [put_get (by omega), put_get (by omega), hll]
  by_cases h1 : s * 64 ≤ i ∧ i < s * 64 + u.length
  · rw [if_pos (by omega), if_pos h1, List.getElem?_append_left (by omega)]
  · rw [if_neg h1]
    by_cases h2 : s * 64 ≤ i ∧ i < s * 64 + 64
    · rw [if_pos h2, List.getElem?_append_right (by omega), List.getElem?_drop, sec_get (by omega)]
      congr 1; omega
    · rw [if_neg h2]

theorem rclip_runs (x : Int) (n : Nat) : ∃ X : Int, (∀ (ts : Array TypeId) (t : TypeId) (w : World), (Builtin.min_ ts t #[.int .i64 x, .int .i64 (n : Int)]).run Try.prog w = .ok (.int .i64 X) w) ∧
    (∀ (ts : Array TypeId) (t : TypeId) (w : World), (Builtin.max_ ts t #[.int .i64 0, .int .i64 X]).run Try.prog w = .ok (.int .i64 (clip x n : Int)) w) :=
  ⟨min x n, fun ts t w => run_min2 _ _ _ rfl ts t w, fun ts t w => run_max2 _ _ _ (by unfold clip; omega) ts t w⟩
theorem rclip64_runs (x : Int) : ∃ X : Int, (∀ (ts : Array TypeId) (t : TypeId) (w : World), (Builtin.min_ ts t #[.int .i64 x, .int .i64 64]).run Try.prog w = .ok (.int .i64 X) w) ∧
    (∀ (ts : Array TypeId) (t : TypeId) (w : World), (Builtin.max_ ts t #[.int .i64 0, .int .i64 X]).run Try.prog w = .ok (.int .i64 (clip x 64 : Int)) w) :=
  ⟨min x 64, fun ts t w => run_min2 _ _ _ rfl ts t w, fun ts t w => run_max2 _ _ _ (by unfold clip; omega) ts t w⟩

section
variable {w : World} {B n : Nat} {M : Nat → Prop} {g : Nat} {d : Dk} {sb qv : Value} {am : Bool} {a x y : Int}
theorem IsR.finish {w0 : World} (h : IsR w B n M g d sb qv am a x y) (m : Moved M M w0 w) :
    RPost w0 B n M g ⟨d.st, [], true, none⟩ (((w.setCell ⟨g, 1, none⟩ (.slice none 0 0)).setCell ⟨g, 2, none⟩ (.bool false)).setCell ⟨g, 3, none⟩ (.bool false)) :=
  ⟨M, ⟨sb, _, _, _, _, _, ((h.setq).setoff false).setarm⟩, ((m.trans (Moved.set _ ⟨g, 1, none⟩ _ h.mg)).trans (Moved.set _ ⟨g, 2, none⟩ _ h.mg)).trans (Moved.set _ ⟨g, 3, none⟩ _ h.mg)⟩
end

theorem RPost.alloc {w : World} {B n : Nat} {M : Nat → Prop} {g : Nat} {d : Dk} {w' : World} (h : RPost w B n M g d w') (o : Obj) : RPost w B n M g d (w'.alloc o) := by
  obtain ⟨M', ⟨sb, qv, am, a, x, y, hd⟩, m⟩ := h
  exact ⟨M', ⟨sb, qv, am, a, x, y, hd.alloc o⟩, m.trans (Moved.alloc _ _)⟩
theorem rfail_off (wr by' : Int) (w : World) {B n g : Nat} {M : Nat → Prop} {d : Dk} (hd : RefAt w B n M g d) (ho : d.off = true) :
    Calls Try.prog 35 #[.pointer (some ⟨g, 0, none⟩), .int .i64 wr, .int .i64 by'] w fun e w' => e = .returned (.tuple #[]) ∧ w = w' := by
  obtain ⟨sb, qv, am, a, x, y, h⟩ := hd
  obtain ⟨ckd, fkd, zkd⟩ := h.blk.facts
  rw [ho] at ckd
  clear h
  go_enter Try.func35, Try.ntmps35
  go_wp2
  exact bodyPost_ret (results_none rfl _ _ _) rfl ⟨rfl, rfl⟩

set_option maxHeartbeats 1000000 in
theorem rfail_on (wr by' : Int) (w : World) {B g n : Nat} {M : Nat → Prop} {d : Dk} (hd : RefAt w B n M g d) (hf : Fit n d) (ho : d.off = false) :
    Calls Try.prog 35 #[.pointer (some ⟨g, 0, none⟩), .int .i64 wr, .int .i64 by'] w fun e w' => e = .returned (.tuple #[]) ∧ RPost w B n M g (fail d wr by') w' := by
  obtain ⟨sb, qv, am, a, x, y, h⟩ := hd
  obtain ⟨A, c, rfl, hc⟩ := h.qform
  obtain ⟨ckd, fkd, zkd⟩ := h.blk.facts
  rw [ho] at ckd
  obtain ⟨X1, hx1, hx2⟩ := rclip_runs wr d.q.length
  obtain ⟨X2, hx3, hx4⟩ := rclip64_runs by'
  have hNl := clip_le wr d.q.length
  have hKl := clip_le by' 64
  have Hf : Hid (fail d wr by' = ⟨torn (settle d.st (d.q.take (clip wr d.q.length))) d.q (clip wr d.q.length) (clip by' 64), [], true, none⟩) := by unfold Hid fail; rw [if_neg (by simp [ho])]
  generalize clip wr d.q.length = N at *
  generalize clip by' 64 = K at *
  have HS := Lib.hid (rsettle_any N w h hf.good hf.n hf.ql hNl)
  have hql := hf.ql
  have Hg := Lib.hid hf.good
  have Hn := Lib.hid hf.n
  clear h hf
  go_enter Try.func35, Try.ntmps35
  go_wp2_with fail
  (with_reducible refine HS.out.mono ?_); rintro e w1 ⟨rfl, h1, hM1⟩
  clear ckd fkd zkd hx1 hx2
  obtain ⟨ckd, fkd, zkd⟩ := h1.blk.facts
  have hsl := length_settle Hg.out.len (mem_take (n := N) Hg.out.q)
  by_cases hlt : N < d.q.length
  · obtain ⟨gq, hA, zq, q1, q2⟩ := h1.cells (k := N) hlt
    have hq := Hg.out.q _ (List.getElem_mem hlt)
    obtain ⟨gs, cs, rfl, hmg, hgl, hne⟩ := h1.sform (by omega)
    have HH := Lib.hid h1
    have Hq := Lib.hid hq
    have HM1 := Lib.hid hM1
    simp only at q1 q2
    generalize hqe : d.q[N] = p at *
    have Hqe := Lib.hid hqe
    obtain ⟨t1, t2⟩ := h1.cell hq.1
    simp only at t1
    have hu64 : (sec (settle d.st (d.q.take N)) p.1).length = 64 := sec_len (by rw [hsl]; omega)
    have Ht : Hid (torn (settle d.st (d.q.take N)) d.q N K = put (settle d.st (d.q.take N)) p.1 (p.2.take K)) := by
      unfold Hid torn; rw [List.getElem?_eq_getElem hlt, Hqe.out]
    have hkl : (p.2.take K).length = K := by rw [List.length_take]; omega
    have Hpw : Hid (put (settle d.st (d.q.take N)) p.1 (p.2.take K ++ (sec (settle d.st (d.q.take N)) p.1).drop K) = put (settle d.st (d.q.take N)) p.1 (p.2.take K)) := by
      have := put_whole hsl hq.1 (u := p.2.take K) (by omega)
      rw [hkl] at this
      exact this
    have Hsl := Lib.hid hsl
    subst hA
    have x1 := str_take p.2 K
    have x2 := str_drop (sec (settle d.st (d.q.take N)) p.1) K hu64
    have x3 := str_append (p.2.take K) ((sec (settle d.st (d.q.take N)) p.1).drop K)
    have y1 : (str p.2).size = 64 := by rw [str_size]; exact hq.2
    have y2 : (str (sec (settle d.st (d.q.take N)) p.1)).size = 64 := by rw [str_size]; exact hu64
    have y5 : ¬ 9223372036854775807 < (str (p.2.take K)).size + (str ((sec (settle d.st (d.q.take N)) p.1).drop K)).size := by
      rw [str_size, str_size, List.length_take, List.length_drop]; omega
    have hn64 : (p.2.take K ++ (sec (settle d.st (d.q.take N)) p.1).drop K).length = 64 := by rw [List.length_append, List.length_take, List.length_drop]; omega
    have hK2 : (K : Int) ≤ 64 := by omega
    have hpn : (p.1 : Int) < (n : Int) := by omega
    have z1 : g < w1.heap.size + 1 := by omega
    have z2 : gs < w1.heap.size + 1 := by omega
    have z3 : gq < w1.heap.size + 1 := by omega
    have hNq : (N : Int) < (d.q.length : Int) := by omega
    have HSet := Lib.hid (fun (W : World) (hW : Below (w1.alloc (.cells #[.int .i64 (p.1 : Int), .string (str p.2)] 72)).heap.size (w1.alloc (.cells #[.int .i64 (p.1 : Int), .string (str p.2)] 72)) W) =>
      rset_any p.1 _ W ((HH.out.alloc _).below hW) hsl Hn.out hq.1 hn64)
    clear hqe hq h1 hM1 hu64 hkl hsl hn64
    generalize hst1 : settle d.st (d.q.take N) = st1 at *
    generalize hnew : p.2.take K ++ (sec st1 p.1).drop K = new at *
    by_cases hk0 : 0 < K
    · have hk1 : (0 : Int) < (K : Int) := by omega
      go_wp2_with fail
      refine Reg.wp_region_seq (by kernel_rfl) (by kernel_rfl) ?_
      simp only
      iterate 18
        apply Reg.SeqOK.val
        · intro γ W hW K hK
          obtain ⟨hc, hf, _⟩ := bcell hW
          simp only [Act.put, List.setIfInBounds_toArray, List.set_cons_zero, List.set_cons_succ] at hK
          unfold Reg.Does
          go_simp
          try simp only [IntWalk.i64_left]
          first
            | exact hK _ (Below.refl _ _)
        simp only [Act.put, List.setIfInBounds_toArray, List.set_cons_zero, List.set_cons_succ, List.nil_append, List.cons_append, Nat.reduceAdd, Nat.zero_add]
      refine Reg.SeqOK.last (by kernel_rfl) (by kernel_rfl) (fun γ W hW _ _ _ => ?_)
      have hS := Lib.hid (HSet.out W hW)
      have HW := Lib.hid hW
      clear hW
      unfold Reg.Does
      go_simp
      (with_reducible refine hS.out.mono ?_); rintro e w3 ⟨rfl, h3, hM3⟩
      clear ckd fkd zkd q1 q2 t1 t2
      obtain ⟨ckd, fkd, zkd⟩ := h3.blk.facts
      have h3' := Lib.hid h3
      have hM3' := Lib.hid hM3
      clear h3 hM3
      go_wp2
      go_end0
      refine ⟨rfl, ?_⟩
      rw [Hf.out, Ht.out, ← Hpw.out]
      exact h3'.out.finish (((HM1.out.trans (Moved.alloc _ _)).trans (Moved.below HW.out)).trans hM3'.out)
    · obtain rfl : K = 0 := by omega
      go_wp2
      go_end0
      refine ⟨rfl, ?_⟩
      rw [Hf.out, Ht.out, List.take_zero, put_nil]
      exact (HH.out.finish HM1.out).alloc _
  · obtain rfl : N = d.q.length := by omega
    have HH := Lib.hid h1
    have HM1 := Lib.hid hM1
    clear h1 hM1
    go_wp2
    go_end0
    refine ⟨rfl, ?_⟩
    rw [Hf.out, torn_end]
    exact HH.out.finish HM1.out

theorem rfail_any (wr by' : Int) (w : World) {B g n : Nat} {M : Nat → Prop} {d : Dk} (hd : RefAt w B n M g d) (hf : Fit n d) :
    Calls Try.prog 35 #[.pointer (some ⟨g, 0, none⟩), .int .i64 wr, .int .i64 by'] w fun e w' => e = .returned (.tuple #[]) ∧ RPost w B n M g (fail d wr by') w' := by
  cases ho : d.off
  · exact rfail_on wr by' w hd hf ho
  · rw [fail_still ho]
    refine (rfail_off wr by' w hd ho).mono ?_
    rintro e w' ⟨rfl, rfl⟩
    exact ⟨rfl, M, hd, Moved.refl _ _⟩

theorem rstart_any (w : World) {B g n : Nat} {M : Nat → Prop} {d : Dk} (hd : RefAt w B n M g d) :
    Calls Try.prog 36 #[.pointer (some ⟨g, 0, none⟩)] w fun e w' => e = .returned (.tuple #[]) ∧ RPost w B n M g (start d) w' := by
  obtain ⟨sb, qv, am, a, x, y, h⟩ := hd
  obtain ⟨ckd, fkd, zkd⟩ := h.blk.facts
  have HH := Lib.hid h
  clear h
  go_enter Try.func36, Try.ntmps36
  go_wp2
  go_end0
  exact ⟨rfl, M, ⟨sb, qv, false, a, x, y, (HH.out.setoff true).setarm⟩, (Moved.set _ ⟨g, 2, none⟩ _ HH.out.mg).trans (Moved.set _ ⟨g, 3, none⟩ _ HH.out.mg)⟩

theorem IsR.armed {w : World} {B n : Nat} {M : Nat → Prop} {g : Nat} {d : Dk} {sb qv : Value} {am : Bool} {a x y : Int} (h : IsR w B n M g d sb qv am a x y) (b : Bool) (a' x' y' : Int) (hp : b = true → 0 ≤ a') :
    IsR ((((w.setCell ⟨g, 3, none⟩ (.bool b)).setCell ⟨g, 4, none⟩ (.int .i64 a')).setCell ⟨g, 5, none⟩ (.int .i64 x')).setCell ⟨g, 6, none⟩ (.int .i64 y')) B n M g ⟨d.st, d.q, d.off, if b = true then some (a', x', y') else none⟩ sb qv b a' x' y' :=
  h.upd (((((Reg.Upd.refl h.blk).set 3 _).set 4 _).set 5 _).set 6 _) h.que rfl hp h.mq
theorem moved4 {M : Nat → Prop} {g : Nat} (hm : M g) (w : World) (i j k l : Nat) (a b c e : Value) : Moved M M w ((((w.setCell ⟨g, i, none⟩ a).setCell ⟨g, j, none⟩ b).setCell ⟨g, k, none⟩ c).setCell ⟨g, l, none⟩ e) :=
  (((Moved.set _ ⟨g, i, none⟩ _ hm).trans (Moved.set _ ⟨g, j, none⟩ _ hm)).trans (Moved.set _ ⟨g, k, none⟩ _ hm)).trans (Moved.set _ ⟨g, l, none⟩ _ hm)
theorem rarm_any (a' x' y' : Int) (w : World) {B g n : Nat} {M : Nat → Prop} {d : Dk} (hd : RefAt w B n M g d) :
    Calls Try.prog 37 #[.pointer (some ⟨g, 0, none⟩), .int .i64 a', .int .i64 x', .int .i64 y'] w fun e w' => e = .returned (.tuple #[]) ∧ RPost w B n M g (armD d a' x' y') w' := by
  have hd0 := hd
  obtain ⟨sb, qv, am, a, x, y, h⟩ := hd
  obtain ⟨ckd, fkd, zkd⟩ := h.blk.facts
  have HH := Lib.hid h
  have Hd := Lib.hid hd0
  cases ho : d.off
  · rw [ho] at ckd
    have Hs : Hid (armD d a' x' y' = ⟨d.st, d.q, d.off, if decide (0 ≤ a') = true then some (a', x', y') else none⟩) := by unfold Hid armD; rw [if_neg (by simp [ho])]; simp only [decide_eq_true_eq]
    have hf := Lib.hid (h.armed (decide (0 ≤ a')) a' x' y' (by simp))
    clear h hd0 ho
    by_cases h0 : 0 ≤ a'
    · rw [decide_eq_true h0] at hf
      go_enter Try.func37, Try.ntmps37
      go_wp2
      go_end0
      refine ⟨rfl, ?_⟩
      rw [Hs.out, decide_eq_true h0]
      exact ⟨M, ⟨_, _, _, _, _, _, hf.out⟩, moved4 HH.out.mg _ _ _ _ _ _ _ _ _⟩
    · rw [decide_eq_false h0] at hf
      go_enter Try.func37, Try.ntmps37
      go_wp2
      go_end0
      refine ⟨rfl, ?_⟩
      rw [Hs.out, decide_eq_false (show ¬ 0 ≤ a' by omega)]
      exact ⟨M, ⟨_, _, _, _, _, _, hf.out⟩, moved4 HH.out.mg _ _ _ _ _ _ _ _ _⟩
  · rw [ho] at ckd
    have Hs : Hid (armD d a' x' y' = d) := by unfold Hid armD; rw [if_pos ho]
    clear h hd0 ho
    go_enter Try.func37, Try.ntmps37
    go_wp2
    refine bodyPost_ret (results_none rfl _ _ _) rfl ⟨rfl, ?_⟩
    rw [Hs.out]
    exact ⟨M, Hd.out, Moved.refl _ _⟩

set_option maxHeartbeats 1000000 in
theorem rcount_any (w : World) {B g n : Nat} {M : Nat → Prop} {d : Dk} (hd : RefAt w B n M g d) (hf : Fit n d) :
    Calls Try.prog 45 #[.pointer (some ⟨g, 0, none⟩)] w fun e w' => e = .returned (.int .i64 (count d).1) ∧ RPost w B n M g (count d).2 w' := by
  have hd0 := hd
  obtain ⟨sb, qv, am, a, x, y, h⟩ := hd
  obtain ⟨ckd, fkd, zkd⟩ := h.blk.facts
  have HH := Lib.hid h
  have Hd := Lib.hid hd0
  have harm := h.arm
  have hpos := h.pos
  clear h hd0
  cases am
  · have hc : Hid (count d = (0, d)) := by unfold Hid D.count; rw [harm]; rfl
    clear harm hpos
    go_enter Try.func45, Try.ntmps45
    go_wp2
    go_ret
    rw [hc.out]
    exact ⟨rfl, M, Hd.out, Moved.refl _ _⟩
  · rw [if_pos rfl] at harm
    have h0 := hpos rfl
    have hmax := hf.arm a x y harm
    by_cases hz : a = 0
    · subst hz
      have hc : Hid (count d = (21, fail d x y)) := by unfold Hid D.count; rw [harm]; rfl
      have HF := Lib.hid (fun (W : World) (hW : Below w.heap.size w W) => rfail_any x y W (show RefAt W B n M g d from ⟨_, _, _, _, _, _, HH.out.below hW⟩) hf)
      clear harm hpos h0 hmax
      go_enter Try.func45, Try.ntmps45
      go_wp2_with fail
      refine Reg.wp_region_seq (by kernel_rfl) (by kernel_rfl) ?_
      simp only
      iterate 9
        apply Reg.SeqOK.val
        · intro γ W hW K hK
          obtain ⟨hc, hf, _⟩ := bcell hW
          simp only [Act.put, List.setIfInBounds_toArray, List.set_cons_zero, List.set_cons_succ] at hK
          unfold Reg.Does
          go_simp
          try simp only [IntWalk.i64_left]
          first
            | exact hK _ (Below.refl _ _)
        simp only [Act.put, List.setIfInBounds_toArray, List.set_cons_zero, List.set_cons_succ, List.nil_append, List.cons_append, Nat.reduceAdd, Nat.zero_add]
      refine Reg.SeqOK.last (by kernel_rfl) (by kernel_rfl) (fun γ W hW _ _ _ => ?_)
      have hS := Lib.hid (HF.out W hW)
      have HW := Lib.hid hW
      clear hW
      unfold Reg.Does
      go_simp
      (with_reducible refine hS.out.mono ?_); rintro e w3 ⟨rfl, h3⟩
      go_wp2
      go_ret
      rw [hc.out]
      exact ⟨rfl, h3.trans (Moved.below HW.out)⟩
    · have hzb : (a == 0) = false := by simpa using hz
      have ha1 : 0 < a := by omega
      have hc : Hid (count d = (0, ⟨d.st, d.q, d.off, some (a - 1, x, y)⟩)) := by unfold Hid D.count; rw [harm]; simp only; rw [if_pos ha1]
      have hu := Lib.hid (HH.out.upd (am' := true) (a' := a - 1) (x' := x) (y' := y) (arm' := some (a - 1, x, y)) ((Reg.Upd.refl HH.out.blk).set 4 (.int .i64 (a - 1))) HH.out.que (by simp) (fun _ => by omega) HH.out.mq)
      clear harm hpos
      go_enter Try.func45, Try.ntmps45
      go_wp2
      go_ret
      rw [hc.out]
      refine ⟨rfl, M, ⟨sb, qv, true, a - 1, x, y, ?_⟩, Moved.set _ ⟨g, 4, none⟩ _ HH.out.mg⟩
      exact hu.out

set_option maxHeartbeats 1000000 in
theorem rsync_any (w : World) {B g n : Nat} {M : Nat → Prop} {d : Dk} (hd : RefAt w B n M g d) (hf : Fit n d) :
    Calls Try.prog 34 #[.pointer (some ⟨g, 0, none⟩)] w fun e w' => e = .returned (.int .i64 (sync d).1) ∧ RPost w B n M g (sync d).2 w' := by
  have hd0 := hd
  obtain ⟨sb, qv, am, a, x, y, h⟩ := hd
  obtain ⟨ckd, fkd, zkd⟩ := h.blk.facts
  have Hd := Lib.hid hd0
  have hc := Lib.hid (rcount_any w hd0 hf)
  have hf2 := Lib.hid hf.count
  clear h hd0
  cases ho : d.off
  · rw [ho] at ckd
    have Hs : Hid (sync d = if (count d).1 ≠ 0 then count d else (0, { (count d).2 with st := settle (count d).2.st (count d).2.q, q := [] })) := by unfold Hid sync; rw [if_neg (by simp [ho])]
    have hv : (count d).1 = 0 ∨ (count d).1 = 21 := by
      unfold D.count
      split
      · exact .inl rfl
      · split
        · exact .inl rfl
        · exact .inr rfl
    clear hf
    generalize count d = cd at *
    obtain ⟨c1, c2⟩ := cd
    simp only at hv
    rcases hv with rfl | rfl
    · go_enter Try.func34, Try.ntmps34
      go_wp2_with fail
      (with_reducible refine hc.out.mono ?_); rintro e w1 ⟨rfl, M1, ⟨sb1, qv1, am1, a1, x1, y1, h1⟩, hM1⟩
      obtain ⟨A, c, rfl, hcap⟩ := h1.qform
      clear ckd fkd zkd
      obtain ⟨ckd, fkd, zkd⟩ := h1.blk.facts
      have hql := hf2.out.ql
      have hS := Lib.hid (rsettle_any c2.q.length w1 h1 hf2.out.good hf2.out.n hf2.out.ql (Nat.le_refl _))
      have HM1 := Lib.hid hM1
      clear h1 hM1
      go_wp2_with fail
      (with_reducible refine hS.out.mono ?_); rintro e w2 ⟨rfl, h2, hM2⟩
      clear ckd fkd zkd
      obtain ⟨ckd, fkd, zkd⟩ := h2.blk.facts
      have HH := Lib.hid h2
      have HM2 := Lib.hid hM2
      clear h2 hM2
      go_wp2
      go_ret
      refine ⟨by rw [Hs.out]; rfl, M1, ⟨sb1, .slice none 0 0, am1, a1, x1, y1, ?_⟩, (HM1.out.trans HM2.out).trans (Moved.set _ ⟨g, 1, none⟩ _ HH.out.mg)⟩
      have := HH.out.setq
      rw [Hs.out]
      simp only [List.take_length, ne_eq, not_true_eq_false, if_false] at this ⊢
      exact this
    · go_enter Try.func34, Try.ntmps34
      go_wp2_with fail
      (with_reducible refine hc.out.mono ?_); rintro e w1 ⟨rfl, h1⟩
      go_wp2
      go_ret
      rw [Hs.out, if_pos (by decide)]
      exact ⟨rfl, h1⟩
  · rw [ho] at ckd
    have e : Hid (sync d = (21, d)) := by unfold Hid sync; rw [if_pos ho]
    clear hc hf2 hf
    go_enter Try.func34, Try.ntmps34
    go_wp2
    go_ret
    rw [e.out]
    exact ⟨rfl, M, Hd.out, Moved.refl _ _⟩

end D
end Go.Proofs.Ytopjekdhecikdaa
