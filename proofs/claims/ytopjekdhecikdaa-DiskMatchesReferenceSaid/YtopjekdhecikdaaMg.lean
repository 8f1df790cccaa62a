/- The reference disk: 'Write', 'Read'. -/
import Derived.Test.YtopjekdhecikdaaMf
import Derived.Deep.RegionLaw
set_option linter.unusedSimpArgs false
set_option linter.unusedVariables false
set_option maxRecDepth 100000
namespace Go.Proofs.Ytopjekdhecikdaa
open Go.RowKit
namespace D

theorem IsR.more {w w' : World} {B n : Nat} {M : Nat → Prop} {g : Nat} {d : Dk} {sb qv : Value} {am : Bool} {a x y : Int} (h : IsR w B n M g d sb qv am a x y) (hg : w.grownBy w' qv.ownBlock) {gg cap : Nat} {s : Nat} {t : Tx} (hB : B ≤ w.heap.size)
    (ho : w'.ownsRow B 72 2 (.slice (some ⟨gg, 0, none⟩) (d.q.length + 1) cap) (d.q.length + 1) (pr d.q ++ [.int .i64 (s : Int), .string (str t)]))
    (hat : qv.ownBlock = some gg ∨ w.heap.size ≤ gg) (hlt : gg < w'.heap.size) :
    IsR (w'.setCell ⟨g, 1, none⟩ (.slice (some ⟨gg, 0, none⟩) (d.q.length + 1) cap)) B n (fun k => M k ∨ k = gg) g { d with q := d.q ++ [(s, t)] } sb (.slice (some ⟨gg, 0, none⟩) (d.q.length + 1) cap) am a x y ∧
    Moved M (fun k => M k ∨ k = gg) w (w'.setCell ⟨g, 1, none⟩ (.slice (some ⟨gg, 0, none⟩) (d.q.length + 1) cap)) := by
  have hne : ∀ k (C : Array Value) (T : TypeId), Reg.Blk k C T w → T ≠ 72 → Reg.Blk k C T w' := fun k C T hk hT =>
    (hg.block k hk.lt (fun e => own_type h.que hk hT e.symm)).trans hk
  have hgg : M gg ∨ w.heap.size ≤ gg := by
    rcases hat with e | e
    · exact .inl (h.mq gg e)
    · exact .inr e
  have hb' := hne _ _ _ h.blk (by decide)
  have hu := (Reg.Upd.refl hb').set 1 (.slice (some ⟨gg, 0, none⟩) (d.q.length + 1) cap)
  have hst' : w'.ownsRow B 9 1 sb n (sv (secs n d.st)) := own_of h.stb fun k e => hg.block k (h.stb.lt k e).2 (fun e2 => own_apart h.stb h.que (by decide) e e2.symm)
  have hsz : w'.heap.size = (w'.setCell ⟨g, 1, none⟩ (.slice (some ⟨gg, 0, none⟩) (d.q.length + 1) cap)).heap.size := by simp
  refine ⟨⟨hu.at_, own_of hst' fun k e => hu.far k fun e2 => ?_, ?_, h.arm, h.pos, .inl h.mg, fun k hk => .inl (h.ms k hk), fun k hk => ?_, fun k hk => ?_⟩, ⟨⟨hg.os, hg.tape, hg.output, by simpa using hg.size, fun k hk hm => ?_⟩, fun k hk => ?_⟩⟩
  · subst e2; exact own_type hst' hb' (by decide) e
  · rw [pr_snoc]
    have := own_of (w' := w'.setCell ⟨g, 1, none⟩ (.slice (some ⟨gg, 0, none⟩) (d.q.length + 1) cap)) ho fun k e => hu.far k fun e2 => by subst e2; exact own_type ho hb' (by decide) e
    simpa using this
  · simp only [Value.ownBlock, Option.some.injEq] at hk; exact .inr hk.symm
  · rcases hk with m | rfl
    · have := h.bb k m; have := hg.size; rw [← hsz]; omega
    · refine ⟨?_, by rw [← hsz]; exact hlt⟩
      rcases hgg with m | m
      · exact (h.bb _ m).1
      · omega
  · rw [Below.heap_setCell _ _ _ _ (fun e => hm (by rw [e]; exact h.mg))]
    refine hg.block k hk (fun e => hm ?_)
    exact h.mq k e.symm
  · rcases hk with m | rfl
    · exact .inl m
    · exact hgg

theorem info_rpend : (Try.prog.info? 72).map (fun i => (i.zero, i.size, i.bytes)) = some (some (.agg #[.int .i64 0, .string ByteArray.empty]), 2, 24) := by kernel_rfl

theorem rwrite_off (s : Int) (t : Tx) (w : World) {B g n : Nat} {M : Nat → Prop} {d : Dk} (hd : RefAt w B n M g d) (ho : d.off = true) :
    Calls Try.prog 33 #[.pointer (some ⟨g, 0, none⟩), .int .i64 s, .string (str t)] w fun e w' => e = .returned (.int .i64 21) ∧ w = w' := by
  obtain ⟨sb, qv, am, a, x, y, h⟩ := hd
  obtain ⟨ckd, fkd, zkd⟩ := h.blk.facts
  rw [ho] at ckd
  clear h
  go_enter Try.func33, Try.ntmps33
  go_wp2
  go_ret
  exact ⟨rfl, rfl⟩
theorem rwrite_no (s : Int) (t : Tx) (w : World) {B g n : Nat} {M : Nat → Prop} {d : Dk} (hd : RefAt w B n M g d) (hn : 1 ≤ n) (hn2 : n ≤ 4000) (ho : d.off = false) (hs : s < 0 ∨ (n : Int) ≤ s ∨ t.length ≠ 64) :
    Calls Try.prog 33 #[.pointer (some ⟨g, 0, none⟩), .int .i64 s, .string (str t)] w fun e w' => e = .returned (.int .i64 1) ∧ w = w' := by
  obtain ⟨sb, qv, am, a, x, y, h⟩ := hd
  obtain ⟨gs, c, rfl, hm, hlt, hne⟩ := h.sform hn
  obtain ⟨ckd, fkd, zkd⟩ := h.blk.facts
  rw [ho] at ckd
  clear h
  have hsz : (str t).size = t.length := str_size t
  by_cases h0 : s < 0
  · go_enter Try.func33, Try.ntmps33
    go_wp2
    go_ret
    exact ⟨rfl, rfl⟩
  have h0' : ¬ s < 0 := h0
  by_cases h1 : (n : Int) ≤ s
  · go_enter Try.func33, Try.ntmps33
    go_wp2
    go_ret
    exact ⟨rfl, rfl⟩
  have h1' : ¬ (n : Int) ≤ s := h1
  have h2 : t.length ≠ 64 := by rcases hs with h | h | h; omega; omega; exact h
  have h3 : ((t.length : Int) != 64) = true := by simp; omega
  go_enter Try.func33, Try.ntmps33
  go_wp2
  go_ret
  exact ⟨rfl, rfl⟩

set_option maxRecDepth 100000 in
set_option maxHeartbeats 4000000 in
theorem rwrite_yes (s : Nat) (t : Tx) (w : World) {B g n : Nat} {M : Nat → Prop} {d : Dk} (hd : RefAt w B n M g d) (hf : Fit n d) (hB : B ≤ w.heap.size) (ho : d.off = false) (hs : s < n) (ht : t.length = 64) (hq1 : d.q.length + 1 ≤ 100000) :
    Calls Try.prog 33 #[.pointer (some ⟨g, 0, none⟩), .int .i64 s, .string (str t)] w fun e w' =>
      e = .returned (.int .i64 (count { d with q := d.q ++ [(s, t)] }).1) ∧ RPost w B n M g (count { d with q := d.q ++ [(s, t)] }).2 w' := by
  have h1 : (str t).size = 64 := by rw [str_size]; exact ht
  have hf2 : Hid (Fit n { d with q := d.q ++ [(s, t)] }) := ⟨⟨hf.good.len, fun p hp => by
    rcases List.mem_append.1 hp with h | h
    · exact hf.good.q p h
    · simp at h; subst h; exact ⟨hs, ht⟩⟩, hf.n, by simpa using hq1, hf.arm⟩
  obtain ⟨sb, qv, am, a, x, y, h⟩ := hd
  obtain ⟨gs, cs, rfl, hm, hltg, hne⟩ := h.sform (by omega)
  obtain ⟨A, c, rfl, hcap⟩ := h.qform
  obtain ⟨i0, hi0, hz0, hz1, hz2⟩ := info_parts info_rpend
  have hn := hf.n
  obtain ⟨ckd, fkd, zkd⟩ := h.blk.facts
  rw [ho] at ckd
  have hsn : ¬ (n : Int) ≤ (s : Int) := by omega
  have hs0 : ¬ (s : Int) < 0 := by omega
  have k1 : w.cell? ⟨g, 1, none⟩ = some (.slice A d.q.length c) := ckd 1
  have k4 := fkd 1
  have ag : (Value.slice A d.q.length c).ownBlock ≠ some g := own_type h.que h.blk (by decide)
  have K1 := Lib.hid (fun o => (World.cell?_alloc_lt w o ⟨g, 1, none⟩ zkd).trans k1)
  have K4 := Lib.hid (fun o => (World.frozen?_alloc_old w o ⟨g, 1, none⟩ (Nat.ne_of_lt zkd)).trans k4)
  have H := Lib.hid h
  clear h hf ho
  go_enter Try.func33, Try.ntmps33
  go_wp2_with (at_builtin; refine wpList_append_lies _ (by rfl) _ _ _ (by rfl) B 72 i0 _ 2 24 Try.underlying61 hi0 hz0 hz1 hz2 rfl (by omega) (.slice A d.q.length c) d.q.length (pr d.q) (by rfl) (H.out.que.alloc _) ⟨w.heap.size, 0, none⟩ 1 1 [.int .i64 (s : Int), .string (str t)] (by rfl) (by rfl) (World.news_of_block (cs := #[.int .i64 (s : Int), .string (str t)]) (t := 72) (fr := (0, 0)) (heap_alloc_new w _)) (by simp [Value.oneCell']) (by omega) (by unfold maxLen; omega) (by omega) (by simp; omega) (w.heap.size + 1) (by simp) ?_; intro gg cap w3 hown1 hgrow hat hlt; have k5 : w3.cell? ⟨g, 1, none⟩ = some (.slice A d.q.length c) := (hgrow.cell_far _ (by simp; omega) (Ne.symm ag)).trans (K1.out _); have k6 : w3.frozen? ⟨g, 1, none⟩ = false := (hgrow.frozen_far _ (by simp; omega) (Ne.symm ag)).trans (K4.out _); clear ckd fkd)
  obtain ⟨h4, hM4⟩ := (H.out.alloc (.cells #[.int .i64 (s : Int), .string (str t)] 72)).more hgrow (by simp; omega) hown1 (by rcases hat with e | e; exact .inl e; (right; simp; omega)) hlt
  have hM5 := Lib.hid ((Moved.alloc w _).trans hM4)
  have hC := Lib.hid (rcount_any _ ⟨_, _, _, _, _, _, h4⟩ hf2.out)
  clear h4 hM4 k1 k4 k5 k6 hown1 hgrow hat ag
  go_wp2_with fail
  (with_reducible refine hC.out.mono ?_); rintro e w5 ⟨rfl, hp5⟩
  go_wp2
  go_ret
  exact ⟨rfl, hp5.trans hM5.out⟩

theorem rwrite_any (s : Int) (t : Tx) (w : World) {B g n : Nat} {M : Nat → Prop} {d : Dk} (hd : RefAt w B n M g d) (hf : Fit n d) (hn : 1 ≤ n) (hB : B ≤ w.heap.size) (hq1 : d.q.length + 1 ≤ 100000) :
    Calls Try.prog 33 #[.pointer (some ⟨g, 0, none⟩), .int .i64 s, .string (str t)] w fun e w' => e = .returned (.int .i64 (write d s t).1) ∧ RPost w B n M g (write d s t).2 w' := by
  have quiet : ∀ {c : Int} {e : Ending} {w' : World}, e = .returned (.int .i64 c) ∧ w = w' → e = .returned (.int .i64 c) ∧ RPost w B n M g d w' := by
    rintro c e w' ⟨rfl, rfl⟩
    exact ⟨rfl, M, hd, Moved.refl _ _⟩
  unfold write
  cases ho : d.off
  · rw [if_neg (by simp)]
    rw [isAt_of hf.good]
    by_cases hs : 0 ≤ s ∧ s < n
    · rw [if_neg (by simp; omega)]
      by_cases ht : t.length = 64
      · rw [if_neg (by simp [ht])]
        obtain ⟨k, rfl⟩ := Int.eq_ofNat_of_zero_le hs.1
        have q := rwrite_yes k t w hd hf hB ho (by omega) ht hq1
        rw [ho] at q
        exact q
      · rw [if_pos ht]
        exact (rwrite_no s t w hd hn hf.n ho (.inr (.inr ht))).mono fun e w' q => quiet q
    · rw [if_pos (by simp; omega)]
      exact (rwrite_no s t w hd hn hf.n ho (by omega)).mono fun e w' q => quiet q
  · rw [if_pos rfl]
    exact (rwrite_off s t w hd ho).mono fun e w' q => quiet q

/-! ### Read -/
theorem look_take {q : List (Nat × Tx)} {k : Nat} (h : k < q.length) (s : Nat) (z : Tx) : look (q.take (k + 1)) s z = if q[k].1 = s then q[k].2 else look (q.take k) s z := by
  unfold look
  rw [List.take_succ_eq_append_getElem h, List.foldl_append]; rfl
set_option maxHeartbeats 1000000 in
theorem rread_yes (s : Nat) (w : World) {B g n : Nat} {M : Nat → Prop} {d : Dk} (hd : RefAt w B n M g d) (hql : d.q.length ≤ 100000) (hn2 : n ≤ 4000) (ho : d.off = false) (hs : s < n) :
    Calls Try.prog 19 #[.pointer (some ⟨g, 0, none⟩), .int .i64 s] w fun e w' => e = .returned (.tuple #[.string (str (look d.q s (sec d.st s))), .int .i64 0]) ∧ Below w.heap.size w w' := by
  obtain ⟨sb, qv, am, a, x, y, h⟩ := hd
  obtain ⟨gs, cs, rfl, hm, hltg, hne⟩ := h.sform (by omega)
  obtain ⟨A, c, rfl, hcap⟩ := h.qform
  obtain ⟨ckd, fkd, zkd⟩ := h.blk.facts
  obtain ⟨t1, t2⟩ := h.cell hs
  rw [ho] at ckd
  have hsn : ¬ (n : Int) ≤ (s : Int) := by omega
  have hsn2 : (s : Int) < (n : Int) := by omega
  have hs0 : ¬ (s : Int) < 0 := by omega
  have H := Lib.hid h
  clear h ho hm
  go_enter Try.func19, Try.ntmps19
  go_wp2_with fail
  go_loopw [6, 7] (fun o i wr => ∃ k : Nat, k ≤ d.q.length ∧ i = .int .i64 k ∧ o = .string (str (look (d.q.take k) s (sec d.st s))) ∧ Below w.heap.size w wr) (fun _ i _ => d.q.length - (intOf i).toNat)
  case atStart => exact ⟨0, Nat.zero_le _, rfl, rfl, Below.refl _ _⟩
  case round =>
    obtain ⟨k, hk, rfl, rfl, hW⟩ := hrel
    have h2 := H.out.below hW
    have HW := Lib.hid hW
    clear ckd fkd zkd t1 t2
    obtain ⟨ckd, fkd, zkd⟩ := h2.blk.facts
    by_cases hlt : k < d.q.length
    · obtain ⟨gq, hA, zq, q1, q2⟩ := h2.cells hlt
      subst hA
      have hkq : (k : Int) < (d.q.length : Int) := by omega
      have hlk := look_take hlt s (sec d.st s)
      clear h2 hW
      by_cases hx : d.q[k].1 = s
      · rw [if_pos hx] at hlk
        have Hlk := Lib.hid hlk
        rw [hx] at q1
        clear hlk hx
        go_wp2_with fail
        refine ⟨⟨k + 1, by omega, by go_num, by rw [Hlk.out], HW.out⟩, by simp [intOf]; omega⟩
      · rw [if_neg hx] at hlk
        have Hlk := Lib.hid hlk
        have hxb : (((d.q[k].1 : Nat) : Int) == (s : Int)) = false := by simp; omega
        clear hlk hx
        go_wp2_with fail
        refine ⟨⟨k + 1, by omega, by go_num, by rw [Hlk.out], HW.out⟩, by simp [intOf]; omega⟩
    · obtain rfl : k = d.q.length := by omega
      clear h2 hW
      go_wp2
      go_ret2
      exact ⟨by rw [List.take_length]; rfl, HW.out⟩

theorem rread_any (s : Int) (w : World) {B g n : Nat} {M : Nat → Prop} {d : Dk} (hd : RefAt w B n M g d) (hf : Fit n d) (hn : 1 ≤ n) :
    Calls Try.prog 19 #[.pointer (some ⟨g, 0, none⟩), .int .i64 s] w fun e w' => e = .returned (.tuple #[.string (str (read d s).1), .int .i64 (read d s).2]) ∧ Below w.heap.size w w' := by
  have hn2 := hf.n
  unfold read
  cases ho : d.off
  · rw [if_neg (by simp), isAt_of hf.good]
    by_cases hs : 0 ≤ s ∧ s < n
    · rw [if_neg (by simp; omega)]
      obtain ⟨k, rfl⟩ := Int.eq_ofNat_of_zero_le hs.1
      exact rread_yes k w hd hf.ql hf.n ho (by omega)
    · rw [if_pos (by simp; omega)]
      obtain ⟨sb, qv, am, a, x, y, h⟩ := hd
      obtain ⟨gs, c, rfl, hm, hlt, hne⟩ := h.sform hn
      obtain ⟨ckd, fkd, zkd⟩ := h.blk.facts
      rw [ho] at ckd
      clear h hf
      by_cases h0 : s < 0
      · go_enter Try.func19, Try.ntmps19
        go_wp2
        go_ret2
        exact ⟨rfl, Below.refl _ _⟩
      have h0' : ¬ s < 0 := h0
      have h1' : (n : Int) ≤ s := by omega
      go_enter Try.func19, Try.ntmps19
      go_wp2
      go_ret2
      exact ⟨rfl, Below.refl _ _⟩
  · rw [if_pos rfl]
    obtain ⟨sb, qv, am, a, x, y, h⟩ := hd
    obtain ⟨ckd, fkd, zkd⟩ := h.blk.facts
    rw [ho] at ckd
    clear h hf
    go_enter Try.func19, Try.ntmps19
    go_wp2
    go_ret2
    exact ⟨rfl, Below.refl _ _⟩

end D
end Go.Proofs.Ytopjekdhecikdaa
