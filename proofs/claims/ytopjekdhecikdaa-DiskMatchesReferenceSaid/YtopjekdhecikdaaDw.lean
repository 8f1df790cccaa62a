/- Disk: 'Write'. -/
import Derived.Test.YtopjekdhecikdaaDr
import Derived.Deep.RegionLaw
set_option linter.unusedSimpArgs false
set_option linter.unusedVariables false
set_option maxRecDepth 100000
namespace Go.Proofs.Ytopjekdhecikdaa
open Go.RowKit
namespace D

/-- A write waits. -/
theorem IsD.more {w w' : World} {B : Nat} {M : Nat → Prop} {g : Nat} {d : Dk} {gs : Nat} {qv av : Value} (h : IsD w B M g d gs qv av) (hg : w.grownBy w' qv.ownBlock) {gg cap : Nat} {s : Nat} {t : Tx} (hB : B ≤ w.heap.size)
    (ho : w'.ownsRow B 70 3 (.slice (some ⟨gg, 0, none⟩) (d.q.length + 1) cap) (d.q.length + 1) (pnd d.q ++ [.int .i64 ((s : Int) * 64), .int .i64 (((s : Int) + 1) * 64), .string (str t)]))
    (hat : qv.ownBlock = some gg ∨ w.heap.size ≤ gg) (hlt : gg < w'.heap.size) :
    IsD (w'.setCell ⟨g, 1, none⟩ (.slice (some ⟨gg, 0, none⟩) (d.q.length + 1) cap)) B (fun k => M k ∨ k = gg) g { d with q := d.q ++ [(s, t)] } gs (.slice (some ⟨gg, 0, none⟩) (d.q.length + 1) cap) av ∧
    Moved M (fun k => M k ∨ k = gg) w (w'.setCell ⟨g, 1, none⟩ (.slice (some ⟨gg, 0, none⟩) (d.q.length + 1) cap)) := by
  have hne : ∀ k (C : Array Value) (T : TypeId), Reg.Blk k C T w → T ≠ 70 → Reg.Blk k C T w' := fun k C T hk hT => by
    refine (hg.block k hk.lt (fun e => ?_)).trans hk
    rcases h.que.2 with ⟨e1, _⟩ | ⟨g', cap, cur, e1, _, hh, _⟩
    · rw [e1] at e; simp [Value.ownBlock] at e
    · rw [e1] at e
      simp only [Value.ownBlock, Option.some.injEq] at e
      subst e
      have := hk.symm.trans hh
      injection this with this
      injection this with _ e2
      exact hT e2
  have hgg : M gg ∨ w.heap.size ≤ gg := by
    rcases hat with e | e
    · exact .inl (h.mq gg e)
    · exact .inr e
  have h2 : IsD w' B (fun k => M k ∨ k = gg) g { d with q := d.q ++ [(s, t)] } gs (.slice (some ⟨gg, 0, none⟩) (d.q.length + 1) cap) av ∨ True := .inr trivial
  have hb' : Reg.Blk g #[.slice (some ⟨gs, 0, none⟩) d.st.length d.st.length, qv, .bool d.off, av] 60 w' := hne _ _ _ h.blk (by decide)
  have hu := (Reg.Upd.refl hb').set 1 (.slice (some ⟨gg, 0, none⟩) (d.q.length + 1) cap)
  have hfar : ∀ k (C : Array Value) (T : TypeId), Reg.Blk k C T w' → T ≠ 60 → Reg.Blk k C T (w'.setCell ⟨g, 1, none⟩ (.slice (some ⟨gg, 0, none⟩) (d.q.length + 1) cap)) := fun k C T hk hT => by
    refine (hu.far k (fun e => ?_)).trans hk
    subst e
    have := hk.symm.trans hb'
    injection this with this
    injection this with _ e2
    exact hT e2
  refine ⟨⟨hu.at_, hfar _ _ _ (hne _ _ _ h.stb (by decide)) (by decide), ?_, ?_, .inl h.mg, .inl h.ms, fun k hk => ?_, fun k hk => ?_⟩, ⟨⟨hg.os, hg.tape, hg.output, by simpa using hg.size, fun k hk hm => ?_⟩, fun k hk => ?_⟩⟩
  · rw [pnd_snoc]
    refine ⟨by have := ho.1; simpa using this, ?_⟩
    rcases ho.2 with ⟨e, _⟩ | ⟨g', cap', cur, e, hb, hgb, r1, r2, r3, r4⟩
    · cases e
    · exact .inr ⟨g', cap', cur, by simpa using e, hb, hfar _ _ _ hgb (by decide), by simpa using r1, r2, r3, by simpa using r4⟩
  · have ha := h.arm
    revert ha
    show ArmAt w M d.arm av → ArmAt _ _ d.arm av
    cases d.arm with
    | none => exact id
    | some x =>
      obtain ⟨a, x, y⟩ := x
      rintro ⟨ga, e, hb, hm⟩
      exact ⟨ga, e, hfar _ _ _ (hne _ _ _ hb (by decide)) (by decide), .inl hm⟩
  · simp only [Value.ownBlock, Option.some.injEq] at hk; exact .inr hk.symm
  · have hs : w.heap.size ≤ (w'.setCell ⟨g, 1, none⟩ (.slice (some ⟨gg, 0, none⟩) (d.q.length + 1) cap)).heap.size := by simpa using hg.size
    rcases hk with m | rfl
    · have := h.bb k m; omega
    · refine ⟨?_, by simpa using hlt⟩
      rcases hgg with m | m
      · exact (h.bb _ m).1
      · omega
  · rw [Below.heap_setCell _ _ _ _ (fun e => hm (by rw [e]; exact h.mg))]
    refine hg.block k hk (fun e => hm ?_)
    exact h.mq k e.symm
  · rcases hk with m | rfl
    · exact .inl m
    · exact hgg

theorem IsD.drew {w : World} {B : Nat} {M : Nat → Prop} {g : Nat} {d : Dk} {gs : Nat} {qv av : Value} (h : IsD w B M g d gs qv av) : IsD w.drew B M g d gs qv av := h.same (Nat.le_refl _) fun _ _ => rfl
theorem IsD.own_ne {w : World} {B : Nat} {M : Nat → Prop} {g : Nat} {d : Dk} {gs : Nat} {qv av : Value} (h : IsD w B M g d gs qv av) {k : Nat} {C : Array Value} {T : TypeId} (hk : Reg.Blk k C T w) (hT : T ≠ 70) : qv.ownBlock ≠ some k := by
  rcases h.que.2 with ⟨e1, _⟩ | ⟨g', cap, cur, e1, _, hh, _⟩
  · rw [e1]; simp [Value.ownBlock]
  · rw [e1]
    simp only [Value.ownBlock, ne_eq, Option.some.injEq]
    rintro rfl
    have := hk.symm.trans hh
    injection this with this
    injection this with _ e2
    exact hT e2

theorem write_off (s : Int) (t : Tx) (w : World) {B g : Nat} {M : Nat → Prop} {d : Dk} (hd : DiskAt w B M g d) (ho : d.off = true) :
    Calls Try.prog 23 #[.pointer (some ⟨g, 0, none⟩), .int .i64 s, .string (str t)] w fun e w' => e = .returned (.int .i64 21) ∧ Below w.heap.size w w' := by
  have hp := Lib.hid (at_off s w hd ho)
  go_enter Try.func23, Try.ntmps23
  go_wp2_with fail
  (with_reducible refine hp.out.mono ?_); rintro e w1 ⟨rfl, hb⟩
  go_wp2
  go_ret
  exact ⟨rfl, hb.alloc hb.size _⟩
theorem write_no (s : Int) (t : Tx) (w : World) {B g n : Nat} {M : Nat → Prop} {d : Dk} (hd : DiskAt w B M g d) (hf : Fit n d) (ho : d.off = false) (hs : isAt d s = false) :
    Calls Try.prog 23 #[.pointer (some ⟨g, 0, none⟩), .int .i64 s, .string (str t)] w fun e w' => e = .returned (.int .i64 1) ∧ Below w.heap.size w w' := by
  have hp := Lib.hid (at_no s w hd hf ho hs)
  go_enter Try.func23, Try.ntmps23
  go_wp2_with fail
  (with_reducible refine hp.out.mono ?_); rintro e w1 ⟨rfl, hb⟩
  go_wp2
  go_ret
  exact ⟨rfl, hb.alloc hb.size _⟩
theorem write_odd (s : Int) (t : Tx) (w : World) {B g n : Nat} {M : Nat → Prop} {d : Dk} (hd : DiskAt w B M g d) (hf : Fit n d) (ho : d.off = false) (hs : isAt d s = true) (ht : t.length ≠ 64) :
    Calls Try.prog 23 #[.pointer (some ⟨g, 0, none⟩), .int .i64 s, .string (str t)] w fun e w' => e = .returned (.int .i64 1) ∧ Below w.heap.size w w' := by
  have hp := Lib.hid (at_yes s w hd hf ho hs)
  have h1 : ¬ (str t).size = 64 := by rw [str_size]; exact ht
  have h2 : (((str t).size : Int) != 64) = true := by simp; omega
  go_enter Try.func23, Try.ntmps23
  go_wp2_with fail
  (with_reducible refine hp.out.mono ?_); rintro e w1 ⟨rfl, hb⟩
  go_wp2
  go_ret
  exact ⟨rfl, hb.alloc hb.size _⟩

theorem info_pend : (Try.prog.info? 70).map (fun i => (i.zero, i.size, i.bytes)) = some (some (.agg #[.int .i64 0, .int .i64 0, .string ByteArray.empty]), 3, 32) := by kernel_rfl

set_option maxRecDepth 100000 in
set_option maxHeartbeats 4000000 in
theorem write_yes (s : Nat) (t : Tx) (w : World) {B g n : Nat} {M : Nat → Prop} {d : Dk} (hd : DiskAt w B M g d) (hf : Fit n d) (hB : B ≤ w.heap.size) (ho : d.off = false) (hs : isAt d s = true) (ht : t.length = 64) (hq1 : d.q.length + 1 ≤ 100000) :
    Calls Try.prog 23 #[.pointer (some ⟨g, 0, none⟩), .int .i64 s, .string (str t)] w fun e w' =>
      e = .returned (.int .i64 (count { d with q := d.q ++ [(s, t)] }).1) ∧ Post w B M g (count { d with q := d.q ++ [(s, t)] }).2 w' := by
  have hp := Lib.hid (at_yes s w hd hf ho hs)
  have h1 : (str t).size = 64 := by rw [str_size]; exact ht
  obtain ⟨s1, s2⟩ := isAt_true hf.good hs
  have hf2 : Hid (Fit n { d with q := d.q ++ [(s, t)] }) := ⟨⟨hf.good.len, fun p hp => by
    rcases List.mem_append.1 hp with h | h
    · exact hf.good.q p h
    · simp at h; subst h; exact ⟨by omega, ht⟩⟩, hf.n, by simpa using hq1, hf.arm⟩
  obtain ⟨gs, qv, av, h⟩ := hd
  obtain ⟨A, c, rfl, hcap⟩ := h.qform
  have hz := h.blk.lt
  obtain ⟨i0, hi0, hz0, hz1, hz2⟩ := info_parts info_pend
  have hql := hf.ql
  have H := Lib.hid h
  clear h hf s1 s2 hs ho
  go_enter Try.func23, Try.ntmps23
  go_wp2_with fail
  (with_reducible refine hp.out.mono ?_); rintro e w1 ⟨rfl, hb⟩
  have ks := Reg.Blk.new w1 #[.int .i64 ((s : Int) * 64), .int .i64 (((s : Int) + 1) * 64)] 66
  have hb2 : Below w.heap.size w (w1.alloc (.cells #[.int .i64 ((s : Int) * 64), .int .i64 (((s : Int) + 1) * 64)] 66)) := hb.alloc hb.size _
  have HB := Lib.hid hb2
  clear hb
  go_wp2_with fail
  generalize hw2 : w1.alloc (.cells #[.int .i64 ((s : Int) * 64), .int .i64 (((s : Int) + 1) * 64)] 66) = w2 at *
  have zz : w1.heap.size < w2.heap.size := by rw [← hw2]; simp
  clear hw2
  have H2 := Lib.hid (H.out.below hb2)
  obtain ⟨ckd, fkd, zkd⟩ := H2.out.blk.facts
  obtain ⟨cks, fks, zks⟩ := ks.facts
  have k1 : w2.cell? ⟨g, 1, none⟩ = some (.slice A d.q.length c) := ckd 1
  have k2 : w2.cell? ⟨w1.heap.size, 0, none⟩ = some (.int .i64 ((s : Int) * 64)) := cks 0
  have k3 : w2.cell? ⟨w1.heap.size, 1, none⟩ = some (.int .i64 (((s : Int) + 1) * 64)) := cks 1
  have ag : (Value.slice A d.q.length c).ownBlock ≠ some g := H2.out.own_ne H2.out.blk (by decide)
  have as' : (Value.slice A d.q.length c).ownBlock ≠ some w1.heap.size := H2.out.own_ne ks (by decide)
  have k4 := fkd 1
  have K1 := Lib.hid (fun o => (World.cell?_alloc_lt w2 o ⟨g, 1, none⟩ zkd).trans k1)
  have K4 := Lib.hid (fun o => (World.frozen?_alloc_old w2 o ⟨g, 1, none⟩ (Nat.ne_of_lt zkd)).trans k4)
  clear hb2 ckd cks ks
  go_region_law
    ((refine step_append_lies _ (by rfl) _ _ _ (by rfl) B 70 i0 _ 3 32 Try.underlying57 hi0 hz0 hz1 hz2 rfl (by omega) (.slice A d.q.length c) d.q.length (pnd d.q) (by rfl) ((H2.out.que.alloc _).drew)
        ⟨w2.heap.size, 0, none⟩ 1 1 [.int .i64 ((s : Int) * 64), .int .i64 (((s : Int) + 1) * 64), .string (str t)] (by rfl) (by rfl) (World.news_of_block (cs := #[.int .i64 ((s : Int) * 64), .int .i64 (((s : Int) + 1) * 64), .string (str t)]) (t := 70) (fr := (0, 0)) (heap_alloc_new w2 _)) (by simp [Value.oneCell'])
        (by omega) (by unfold maxLen; omega) (by omega) (by simp; have := HB.out.size; omega) (w2.heap.size + 1) (by simp) ?_; intro gg cap w3 hown1 hgrow hat hlt; have k5 : w3.cell? ⟨g, 1, none⟩ = some (.slice A d.q.length c) := (hgrow.cell_far _ (by simp; omega) (Ne.symm ag)).trans (K1.out _); have k6 : w3.frozen? ⟨g, 1, none⟩ = false := (hgrow.frozen_far _ (by simp; omega) (Ne.symm ag)).trans (K4.out _)))
  all_goals
    have hBw : B ≤ w2.heap.size := Nat.le_trans hB HB.out.size
    obtain ⟨h4, hM4⟩ := (H2.out.alloc (.cells #[.int .i64 ((s : Int) * 64), .int .i64 (((s : Int) + 1) * 64), .string (str t)] 70)).drew.more hgrow (by show B ≤ (World.alloc _ _).heap.size; simp; omega) hown1 (by rcases hat with e | e; exact .inl e; (right; show (World.alloc _ _).heap.size ≤ gg; simp; omega)) hlt
    have hM5 := Lib.hid (((Moved.below HB.out).trans (Moved.alloc _ _)).trans ((Moved.draw _).trans hM4))
    have hC := Lib.hid (count_any _ ⟨_, _, _, h4⟩ hf2.out)
    clear h4 hM4 k1 k2 k3 k4 k5 k6 hown1 hgrow hat ag as'
    go_wp2_with fail
    (with_reducible refine hC.out.mono ?_); rintro e w5 ⟨rfl, hp5⟩
    go_wp2
    go_ret
    exact ⟨rfl, hp5.trans hM5.out⟩

theorem write_any (s : Int) (t : Tx) (w : World) {B g n : Nat} {M : Nat → Prop} {d : Dk} (hd : DiskAt w B M g d) (hf : Fit n d) (hB : B ≤ w.heap.size) (hq1 : d.q.length + 1 ≤ 100000) :
    Calls Try.prog 23 #[.pointer (some ⟨g, 0, none⟩), .int .i64 s, .string (str t)] w fun e w' => e = .returned (.int .i64 (write d s t).1) ∧ Post w B M g (write d s t).2 w' := by
  have hd0 := hd
  obtain ⟨gs, qv, av, h⟩ := hd0
  have quiet : ∀ {c : Int} {e : Ending} {w' : World}, e = .returned (.int .i64 c) ∧ Below w.heap.size w w' → e = .returned (.int .i64 c) ∧ Post w B M g d w' :=
    fun ⟨he, hb⟩ => ⟨he, M, ⟨gs, qv, av, h.below hb⟩, Moved.below hb⟩
  unfold write
  cases ho : d.off
  · rw [if_neg (by simp)]
    cases hs : isAt d s
    · rw [if_pos rfl]
      exact (write_no s t w hd hf ho hs).mono fun e w' q => quiet q
    · rw [if_neg (by simp)]
      by_cases ht : t.length = 64
      · rw [if_neg (by simp [ht])]
        obtain ⟨s1, s2⟩ := isAt_true hf.good hs
        obtain ⟨k, rfl⟩ := Int.eq_ofNat_of_zero_le s1
        have q := write_yes k t w hd hf hB ho hs ht hq1
        rw [ho] at q
        exact q
      · rw [if_pos ht]
        exact (write_odd s t w hd hf ho hs ht).mono fun e w' q => quiet q
  · rw [if_pos rfl]
    exact (write_off s t w hd ho).mono fun e w' q => quiet q

end D
end Go.Proofs.Ytopjekdhecikdaa
