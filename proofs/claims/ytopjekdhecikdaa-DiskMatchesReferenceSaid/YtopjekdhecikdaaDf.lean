/- Disk: 'Fail', 'count', 'Start', 'Arm', 'Sync'. -/
import Derived.Test.YtopjekdhecikdaaDs
set_option linter.unusedSimpArgs false
set_option linter.unusedVariables false
set_option maxRecDepth 100000
namespace Go.Proofs.Ytopjekdhecikdaa
open Go.RowKit
namespace D

theorem IsD.upd {w w' : World} {B : Nat} {M : Nat → Prop} {g : Nat} {d : Dk} {gs : Nat} {qv av : Value} (h : IsD w B M g d gs qv av) {q' : List (Nat × Tx)} {off' : Bool} {arm' : Option (Int × Int × Int)} {qv' av' : Value}
    (hu : Reg.Upd g #[.slice (some ⟨gs, 0, none⟩) d.st.length d.st.length, qv', .bool off', av'] 60 w w')
    (hq : w.ownsRow B 70 3 qv' q'.length (pnd q')) (ha : ArmAt w M arm' av') (hm : ∀ k, qv'.ownBlock = some k → M k) : IsD w' B M g ⟨d.st, q', off', arm'⟩ gs qv' av' := by
  have hne : ∀ k (C : Array Value) (T : TypeId), Reg.Blk k C T w → T ≠ 60 → k ≠ g := fun k C T hk hT e => by
    subst e
    have := hk.symm.trans h.blk
    injection this with this
    injection this with _ e2
    exact hT e2
  refine ⟨hu.at_, (hu.far gs (hne gs _ _ h.stb (by decide))).trans h.stb, ?_, ?_, h.mg, h.ms, hm, fun k m => ⟨(h.bb k m).1, by rw [hu.size]; exact (h.bb k m).2⟩⟩
  · refine ⟨hq.1, ?_⟩
    rcases hq.2 with hn | ⟨g', cap, cur, e, hb, hg, rest⟩
    · exact .inl hn
    · exact .inr ⟨g', cap, cur, e, hb, (hu.far g' (hne g' _ _ hg (by decide))).trans hg, rest⟩
  · revert ha
    cases arm' with
    | none => exact id
    | some x =>
      obtain ⟨a, x, y⟩ := x
      rintro ⟨ga, e, hb, hm⟩
      exact ⟨ga, e, (hu.far ga (hne ga _ _ hb (by decide))).trans hb, hm⟩
theorem IsD.setq {w : World} {B : Nat} {M : Nat → Prop} {g : Nat} {d : Dk} {gs : Nat} {qv av : Value} (h : IsD w B M g d gs qv av) : IsD (w.setCell ⟨g, 1, none⟩ (.slice none 0 0)) B M g ⟨d.st, [], d.off, d.arm⟩ gs (.slice none 0 0) av :=
  h.upd ((Reg.Upd.refl h.blk).set 1 _) (World.ownsRow_nil _ _ _ _) h.arm (fun k hk => by simp [Value.ownBlock] at hk)
theorem IsD.setoff {w : World} {B : Nat} {M : Nat → Prop} {g : Nat} {d : Dk} {gs : Nat} {qv av : Value} (h : IsD w B M g d gs qv av) (b : Bool) : IsD (w.setCell ⟨g, 2, none⟩ (.bool b)) B M g ⟨d.st, d.q, b, d.arm⟩ gs qv av :=
  h.upd ((Reg.Upd.refl h.blk).set 2 _) h.que h.arm h.mq
theorem IsD.setarm {w : World} {B : Nat} {M : Nat → Prop} {g : Nat} {d : Dk} {gs : Nat} {qv av : Value} (h : IsD w B M g d gs qv av) : IsD (w.setCell ⟨g, 3, none⟩ (.pointer none)) B M g ⟨d.st, d.q, d.off, none⟩ gs qv (.pointer none) :=
  h.upd ((Reg.Upd.refl h.blk).set 3 _) h.que rfl h.mq
theorem IsD.qform {w : World} {B : Nat} {M : Nat → Prop} {g : Nat} {d : Dk} {gs : Nat} {qv av : Value} (h : IsD w B M g d gs qv av) : ∃ A c, qv = .slice A d.q.length c ∧ d.q.length ≤ c := by
  rcases h.que.2 with ⟨e, hn⟩ | ⟨g', cap, cur, e, hb, hg, hc, _⟩
  · exact ⟨none, 0, by rw [e, hn], by omega⟩
  · exact ⟨some ⟨g', 0, none⟩, cap, e, hc⟩

theorem str_take (t : Tx) (k : Nat) : (str t).extract 0 k = str (t.take k) := by
  simp [str, ByteArray.ext_iff]

theorem run_max2 (x y z : Int) (h : max x y = z) (ts : Array TypeId) (t : TypeId) (w : World) : (Builtin.max_ ts t #[.int .i64 x, .int .i64 y]).run Try.prog w = .ok (.int .i64 z) w := by
  rw [run_max_int2]
  have : (if y > x then y else x) = z := by split <;> omega
  rw [this]
theorem run_min2 (x y z : Int) (h : min x y = z) (ts : Array TypeId) (t : TypeId) (w : World) : (Builtin.min_ ts t #[.int .i64 x, .int .i64 y]).run Try.prog w = .ok (.int .i64 z) w := by
  rw [run_min_int2]
  have : (if y < x then y else x) = z := by split <;> omega
  rw [this]
/-- min(max(x, 0), n) -/
theorem clip_runs (x : Int) (n : Nat) : ∃ X : Int, (∀ (ts : Array TypeId) (t : TypeId) (w : World), (Builtin.max_ ts t #[.int .i64 x, .int .i64 0]).run Try.prog w = .ok (.int .i64 X) w) ∧
    (∀ (ts : Array TypeId) (t : TypeId) (w : World), (Builtin.min_ ts t #[.int .i64 X, .int .i64 (n : Int)]).run Try.prog w = .ok (.int .i64 (clip x n : Int)) w) :=
  ⟨max x 0, fun ts t w => run_max2 _ _ _ rfl ts t w, fun ts t w => run_min2 _ _ _ (by unfold clip; omega) ts t w⟩

theorem clip64_runs (x : Int) : ∃ X : Int, (∀ (ts : Array TypeId) (t : TypeId) (w : World), (Builtin.max_ ts t #[.int .i64 x, .int .i64 0]).run Try.prog w = .ok (.int .i64 X) w) ∧
    (∀ (ts : Array TypeId) (t : TypeId) (w : World), (Builtin.min_ ts t #[.int .i64 X, .int .i64 64]).run Try.prog w = .ok (.int .i64 (clip x 64 : Int)) w) :=
  ⟨max x 0, fun ts t w => run_max2 _ _ _ rfl ts t w, fun ts t w => run_min2 _ _ _ (by unfold clip; omega) ts t w⟩

theorem IsD.finish {w w0 : World} {B : Nat} {M : Nat → Prop} {g : Nat} {d : Dk} {gs : Nat} {qv av : Value} (h : IsD w B M g d gs qv av) (m : Moved M M w0 w) :
    Post w0 B M g ⟨d.st, [], true, none⟩ (((w.setCell ⟨g, 1, none⟩ (.slice none 0 0)).setCell ⟨g, 2, none⟩ (.bool true)).setCell ⟨g, 3, none⟩ (.pointer none)) :=
  ⟨M, ⟨gs, _, _, ((h.setq).setoff true).setarm⟩, ((m.trans (Moved.set _ ⟨g, 1, none⟩ _ h.mg)).trans (Moved.set _ ⟨g, 2, none⟩ _ h.mg)).trans (Moved.set _ ⟨g, 3, none⟩ _ h.mg)⟩

theorem Post.alloc {w : World} {B : Nat} {M : Nat → Prop} {g : Nat} {d : Dk} {w' : World} (h : Post w B M g d w') (o : Obj) : Post w B M g d (w'.alloc o) := by
  obtain ⟨M', ⟨gs, qv, av, hd⟩, m⟩ := h
  exact ⟨M', ⟨gs, qv, av, hd.alloc o⟩, m.trans (Moved.alloc _ _)⟩
theorem Post.below {w : World} {B : Nat} {M : Nat → Prop} {g : Nat} {d : Dk} {w' w2 : World} (h : Post w B M g d w') (hb : Below w'.heap.size w' w2) : Post w B M g d w2 := by
  obtain ⟨M', ⟨gs, qv, av, hd⟩, m⟩ := h
  exact ⟨M', ⟨gs, qv, av, hd.below hb⟩, m.trans (Moved.below hb)⟩

theorem fail_off (wr by' : Int) (w : World) {B g : Nat} {M : Nat → Prop} {d : Dk} (hd : DiskAt w B M g d) (ho : d.off = true) :
    Calls Try.prog 25 #[.pointer (some ⟨g, 0, none⟩), .int .i64 wr, .int .i64 by'] w fun e w' => e = .returned (.tuple #[]) ∧ w = w' := by
  obtain ⟨gs, qv, av, h⟩ := hd
  obtain ⟨ckd, fkd, zkd⟩ := h.blk.facts
  clear h
  go_enter Try.func25, Try.ntmps25
  go_wp2
  exact bodyPost_ret (results_none rfl _ _ _) rfl ⟨rfl, rfl⟩

set_option maxHeartbeats 1000000 in
theorem fail_on (wr by' : Int) (w : World) {B g n : Nat} {M : Nat → Prop} {d : Dk} (hd : DiskAt w B M g d) (hf : Fit n d) (ho : d.off = false) :
    Calls Try.prog 25 #[.pointer (some ⟨g, 0, none⟩), .int .i64 wr, .int .i64 by'] w fun e w' => e = .returned (.tuple #[]) ∧ Post w B M g (fail d wr by') w' := by
  obtain ⟨gs, qv, av, h⟩ := hd
  obtain ⟨A, c, rfl, hc⟩ := h.qform
  obtain ⟨ckd, fkd, zkd⟩ := h.blk.facts
  obtain ⟨X1, hx1, hx2⟩ := clip_runs wr d.q.length
  obtain ⟨X2, hx3, hx4⟩ := clip64_runs by'
  have hNl := clip_le wr d.q.length
  have hKl := clip_le by' 64
  have Hf : Hid (fail d wr by' = ⟨torn (settle d.st (d.q.take (clip wr d.q.length))) d.q (clip wr d.q.length) (clip by' 64), [], true, none⟩) := by unfold Hid fail; rw [if_neg (by simp [ho])]
  generalize clip wr d.q.length = N at *
  generalize clip by' 64 = K at *
  have hset := settle_any N A c w h hf hNl
  have HS := Lib.hid hset
  have hN2 : (N : Int) ≤ (c : Int) := by omega
  have hql := hf.ql
  clear hset h
  go_enter Try.func25, Try.ntmps25
  go_wp2_with fail
  (with_reducible refine HS.out.mono ?_); rintro e w1 ⟨rfl, h1, hM1⟩
  clear ckd fkd zkd hx1 hx2
  obtain ⟨ckd, fkd, zkd⟩ := h1.blk.facts
  have HH := Lib.hid h1
  by_cases hlt : N < d.q.length
  · obtain ⟨gq, hA, zq, q1, q2, q3⟩ := h1.cells (k := N) hlt
    have hq := hf.good.q _ (List.getElem_mem hlt)
    have Hq := Lib.hid hq
    simp only at q1 q2 q3
    generalize hqe : d.q[N] = p at *
    have Hqe := Lib.hid hqe
    have ss : (str p.2).size = 64 := by rw [str_size]; exact hq.2
    have st := str_take p.2 K
    have sk := Lib.hid (show (List.take K p.2).length ≤ 64 by simp; omega)
    subst hA
    have z1 : g < w1.heap.size + 1 := by omega
    have hK2 : (K : Int) ≤ 64 := by omega
    clear hqe hq h1
    have Ht : Hid (torn (settle d.st (d.q.take N)) d.q N K = put (settle d.st (d.q.take N)) p.1 (p.2.take K)) := by
      unfold Hid torn; rw [List.getElem?_eq_getElem hlt, Hqe.out]
    by_cases hk0 : 0 < K
    · have hk1 : (0 : Int) < (K : Int) := by omega
      go_wp2_with fail
      refine Reg.wp_region_seq (by kernel_rfl) (by kernel_rfl) ?_
      simp only
      iterate 7
        apply Reg.SeqOK.val
        · intro γ W hW K hK
          obtain ⟨hc, hf, _⟩ := bcell hW
          simp only [Act.put, List.setIfInBounds_toArray, List.set_cons_zero, List.set_cons_succ] at hK
          unfold Reg.Does
          go_simp
          try simp only [IntWalk.i64_left]
          first
            | exact hK _ (Below.refl _ _)
        simp only [Act.put, List.setIfInBounds_toArray, List.set_cons_zero, List.set_cons_succ, List.nil_append, List.cons_append, Nat.reduceAdd, Nat.zero_add]
      refine Reg.SeqOK.last (by kernel_rfl) (by kernel_rfl) (fun γ W hW _ _ _ => ?_)
      have h2 := (HH.out.alloc (.cells #[.int .i64 ((p.1 : Int) * 64), .int .i64 (((p.1 : Int) + 1) * 64), .string (str p.2)] 70)).below hW
      have hS := Lib.hid (set_any p.1 (p.2.take K) W h2 (hf.settle N) Hq.out.1 sk.out)
      clear h2
      unfold Reg.Does
      go_simp
      go_wp2_with fail
      (with_reducible refine hS.out.mono ?_); rintro e w3 ⟨rfl, h3, hM3⟩
      clear ckd fkd zkd q1 q2 q3
      obtain ⟨ckd, fkd, zkd⟩ := h3.blk.facts
      have h3' := Lib.hid h3
      clear h3
      go_wp2
      go_end0
      refine ⟨rfl, ?_⟩
      rw [Hf.out, Ht.out]
      exact h3'.out.finish (((hM1.trans (Moved.alloc _ _)).trans (Moved.below hW)).trans hM3)
    · obtain rfl : K = 0 := by omega
      go_wp2
      go_end0
      refine ⟨rfl, ?_⟩
      rw [Hf.out, Ht.out, List.take_zero, put_nil]
      exact (HH.out.finish hM1).alloc _
  · obtain rfl : N = d.q.length := by omega
    have Ht : Hid (torn (settle d.st (d.q.take d.q.length)) d.q d.q.length K = settle d.st (d.q.take d.q.length)) := by
      unfold Hid torn; rw [List.getElem?_eq_none (Nat.le_refl _)]
    clear h1
    go_wp2
    go_end0
    refine ⟨rfl, ?_⟩
    rw [Hf.out, Ht.out]
    exact HH.out.finish hM1

theorem fail_any (wr by' : Int) (w : World) {B g n : Nat} {M : Nat → Prop} {d : Dk} (hd : DiskAt w B M g d) (hf : Fit n d) :
    Calls Try.prog 25 #[.pointer (some ⟨g, 0, none⟩), .int .i64 wr, .int .i64 by'] w fun e w' => e = .returned (.tuple #[]) ∧ Post w B M g (fail d wr by') w' := by
  cases ho : d.off
  · exact fail_on wr by' w hd hf ho
  · refine (fail_off wr by' w hd ho).mono ?_
    rintro e w' ⟨rfl, rfl⟩
    have e2 : fail d wr by' = d := by unfold fail; rw [if_pos ho]
    rw [e2]
    exact ⟨rfl, M, hd, Moved.refl _ _⟩

theorem start_any (w : World) {B g : Nat} {M : Nat → Prop} {d : Dk} (hd : DiskAt w B M g d) :
    Calls Try.prog 20 #[.pointer (some ⟨g, 0, none⟩)] w fun e w' => e = .returned (.tuple #[]) ∧ Post w B M g (start d) w' := by
  obtain ⟨gs, qv, av, h⟩ := hd
  obtain ⟨ckd, fkd, zkd⟩ := h.blk.facts
  have HH := Lib.hid h
  clear h
  go_enter Try.func20, Try.ntmps20
  go_wp2
  go_end0
  exact ⟨rfl, M, ⟨gs, _, _, (HH.out.setoff false).setarm⟩, (Moved.set _ ⟨g, 2, none⟩ _ HH.out.mg).trans (Moved.set _ ⟨g, 3, none⟩ _ HH.out.mg)⟩

theorem count_none (w : World) {B g : Nat} {M : Nat → Prop} {d : Dk} (hd : DiskAt w B M g d) (ha : d.arm = none) :
    Calls Try.prog 41 #[.pointer (some ⟨g, 0, none⟩)] w fun e w' => e = .returned (.int .i64 0) ∧ w = w' := by
  obtain ⟨gs, qv, av, h⟩ := hd
  have e := h.arm
  rw [ha] at e
  obtain rfl : av = .pointer none := e
  obtain ⟨ckd, fkd, zkd⟩ := h.blk.facts
  clear h ha
  go_enter Try.func41, Try.ntmps41
  go_wp2
  go_ret
  exact ⟨rfl, rfl⟩

theorem IsD.tick {w : World} {B : Nat} {M : Nat → Prop} {g : Nat} {d : Dk} {gs ga : Nat} {qv : Value} {a x y : Int} (h : IsD w B M g d gs qv (.pointer (some ⟨ga, 0, none⟩))) (ha : d.arm = some (a, x, y)) (a' : Int) :
    IsD (w.setCell ⟨ga, 0, none⟩ (.int .i64 a')) B M g ⟨d.st, d.q, d.off, some (a', x, y)⟩ gs qv (.pointer (some ⟨ga, 0, none⟩)) := by
  have hb := h.arm
  rw [ha] at hb
  obtain ⟨ga', e, hb, hm⟩ := hb
  obtain rfl : ga = ga' := by injection e with e; injection e with e; injection e
  have hu := (Reg.Upd.refl hb).set 0 (.int .i64 a')
  have hne : ∀ k (C : Array Value) (T : TypeId), Reg.Blk k C T w → T ≠ 76 → k ≠ ga := fun k C T hk hT e => by
    subst e
    have := hk.symm.trans hb
    injection this with this
    injection this with _ e2
    exact hT e2
  refine ⟨(hu.far g (hne g _ _ h.blk (by decide))).trans h.blk, (hu.far gs (hne gs _ _ h.stb (by decide))).trans h.stb, ?_, ⟨ga, rfl, hu.at_, hm⟩, h.mg, h.ms, h.mq, fun k m => ⟨(h.bb k m).1, by rw [hu.size]; exact (h.bb k m).2⟩⟩
  refine ⟨h.que.1, ?_⟩
  rcases h.que.2 with hn | ⟨g', cap, cur, e, hb, hg, rest⟩
  · exact .inl hn
  · exact .inr ⟨g', cap, cur, e, hb, (hu.far g' (hne g' _ _ hg (by decide))).trans hg, rest⟩

set_option maxHeartbeats 1000000 in
theorem count_tick (w : World) {B g : Nat} {M : Nat → Prop} {d : Dk} {a x y : Int} (hd : DiskAt w B M g d) (ha : d.arm = some (a, x, y)) (h0 : 0 < a) (h1 : a ≤ 9223372036854775807) :
    Calls Try.prog 41 #[.pointer (some ⟨g, 0, none⟩)] w fun e w' => e = .returned (.int .i64 0) ∧ Post w B M g ⟨d.st, d.q, d.off, some (a - 1, x, y)⟩ w' := by
  obtain ⟨gs, qv, av, h⟩ := hd
  have e := h.arm
  rw [ha] at e
  obtain ⟨ga, rfl, hb, hm⟩ := e
  obtain ⟨ckd, fkd, zkd⟩ := h.blk.facts
  obtain ⟨cka, fka, zka⟩ := hb.facts
  have HH := Lib.hid h
  have Ha := Lib.hid ha
  have Hm := Lib.hid hm
  clear h hb ha hm
  go_enter Try.func41, Try.ntmps41
  go_wp2
  go_ret
  exact ⟨rfl, M, ⟨gs, _, _, HH.out.tick Ha.out (a - 1)⟩, Moved.set _ ⟨ga, 0, none⟩ _ Hm.out⟩

set_option maxHeartbeats 1000000 in
theorem count_fail (w : World) {B g n : Nat} {M : Nat → Prop} {d : Dk} {a x y : Int} (hd : DiskAt w B M g d) (hf : Fit n d) (ha : d.arm = some (a, x, y)) (h0 : a ≤ 0) :
    Calls Try.prog 41 #[.pointer (some ⟨g, 0, none⟩)] w fun e w' => e = .returned (.int .i64 21) ∧ Post w B M g (fail d x y) w' := by
  obtain ⟨gs, qv, av, h⟩ := hd
  have e := h.arm
  rw [ha] at e
  obtain ⟨ga, rfl, hb, hm⟩ := e
  obtain ⟨ckd, fkd, zkd⟩ := h.blk.facts
  obtain ⟨cka, fka, zka⟩ := hb.facts
  have HH := Lib.hid h
  clear h hb ha hm
  go_enter Try.func41, Try.ntmps41
  go_wp2_with fail
  refine Reg.wp_region_seq (by kernel_rfl) (by kernel_rfl) ?_
  simp only
  iterate 15
    apply Reg.SeqOK.val
    · intro γ W hW K hK
      obtain ⟨hc, hf, _⟩ := bcell hW
      simp only [Act.put, List.setIfInBounds_toArray, List.set_cons_zero, List.set_cons_succ] at hK
      unfold Reg.Does
      go_simp
      try simp only [IntWalk.i64_left]
      first
        | exact hK _ (Below.refl _ _)
    simp only [Act.put, List.setIfInBounds_toArray, List.set_cons_zero, List.set_cons_succ, List.nil_append, List.cons_append, Nat.reduceAdd, Nat.zero_add]
  refine Reg.SeqOK.last (by kernel_rfl) (by kernel_rfl) (fun γ W hW _ _ _ => ?_)
  have hS := Lib.hid (fail_any x y W ⟨gs, _, _, HH.out.below hW⟩ hf)
  unfold Reg.Does
  go_simp
  go_wp2_with fail
  (with_reducible refine hS.out.mono ?_); rintro e w3 ⟨rfl, hp⟩
  go_wp2
  go_ret
  exact ⟨rfl, hp.trans (Moved.below hW)⟩

end D
end Go.Proofs.Ytopjekdhecikdaa
