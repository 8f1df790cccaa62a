/- The reference network: Send; the rows stored. -/
import Derived.Test.YtklcpopnggiepaaRz
set_option linter.unusedSimpArgs false
set_option linter.unusedVariables false
set_option maxRecDepth 100000
namespace Go.Proofs.Ytklcpopnggiepaa
open Go.RowKit
namespace N

theorem info_msg : (Try.prog.info? 69).map (fun i => (i.zero, i.size, i.bytes)) = some (some (.agg #[.int .i64 0, .int .i64 0, .string ByteArray.empty]), 3, 32) := by kernel_rfl
theorem info_pr : (Try.prog.info? 58).map (fun i => (i.zero, i.size, i.bytes)) = some (some (.agg #[.int .i64 0, .int .i64 0]), 2, 16) := by kernel_rfl
section
variable {w W4 : World} {B : Nat} {M : Nat → Prop} {g : Nat} {R : Rf} {lv gv : Value}
theorem keep_grownM {row : Option Nat} (hg : w.grownBy W4 row) (hr : ∀ k, row = some k → M k) : Reg.Keep M w W4 := ⟨hg.os, hg.tape, hg.output, hg.size, fun k hk hn => hg.block k hk fun e => hn (hr k e.symm)⟩
theorem IsRef.setl {lv' : Value} {ms' : List Mg} (h : IsRef w B M g R lv gv) (hk : Reg.Keep M w W4) (hs : ∀ k, M k → lv.ownBlock ≠ some k → W4.heap[k]? = w.heap[k]?) (ho : W4.ownsRow B 69 3 lv' ms'.length (mc ms')) (hat : ∀ k, lv'.ownBlock = some k → lv.ownBlock = some k ∨ w.heap.size ≤ k) :
    IsRef (W4.setCell ⟨g, 1, none⟩ lv') B (fun k => M k ∨ lv'.ownBlock = some k) g { R with ms := ms' } lv' gv ∧ Moved M (fun k => M k ∨ lv'.ownBlock = some k) w (W4.setCell ⟨g, 1, none⟩ lv') := by
  have hgl : lv.ownBlock ≠ some g := own_type h.row h.blk (by decide)
  have b4 : Reg.Blk g #[.int .i64 R.n, lv, gv] 66 W4 := (hs g h.mg hgl).trans h.blk
  have hu := (Reg.Upd.refl b4).set 1 lv'
  have hgv : ∀ k, gv.ownBlock = some k → lv.ownBlock ≠ some k := fun k e => own_apart h.cut h.row (by decide) e
  have hc4 : W4.ownsRow B 58 2 gv R.gone.length (gc R.gone) := own_of h.cut fun k e => hs k (h.mv k e) (hgv k e)
  refine ⟨⟨hu.at_, own_of ho fun k e => hu.far k (fun e2 => ?_), own_of hc4 fun k e => hu.far k (fun e2 => ?_), .inl h.mg, fun k e => .inr e, fun k e => .inl (h.mv k e), fun k m => ?_⟩, ⟨⟨hk.os, hk.tape, hk.output, by rw [hu.size]; exact hk.size, fun k hk' hn => (hu.far k (fun e => hn (e ▸ h.mg))).trans (hk.block k hk' hn)⟩, fun k m => ?_⟩⟩
  · subst e2; exact own_type ho b4 (by decide) e
  · subst e2; exact own_type hc4 b4 (by decide) e
  · rw [hu.size]
    rcases m with m | m
    · exact ⟨(h.bb k m).1, Nat.lt_of_lt_of_le (h.bb k m).2 hk.size⟩
    · exact ho.lt k m
  · rcases m with m | m
    · exact .inl m
    · rcases hat k m with e | e
      · exact .inl (h.ml k e)
      · exact .inr e
theorem IsRef.setg {gv' : Value} {gn' : List (Int × Int)} (h : IsRef w B M g R lv gv) (hk : Reg.Keep M w W4) (hs : ∀ k, M k → gv.ownBlock ≠ some k → W4.heap[k]? = w.heap[k]?) (ho : W4.ownsRow B 58 2 gv' gn'.length (gc gn')) (hat : ∀ k, gv'.ownBlock = some k → gv.ownBlock = some k ∨ w.heap.size ≤ k) :
    IsRef (W4.setCell ⟨g, 2, none⟩ gv') B (fun k => M k ∨ gv'.ownBlock = some k) g { R with gone := gn' } lv gv' ∧ Moved M (fun k => M k ∨ gv'.ownBlock = some k) w (W4.setCell ⟨g, 2, none⟩ gv') := by
  have hgl : gv.ownBlock ≠ some g := own_type h.cut h.blk (by decide)
  have b4 : Reg.Blk g #[.int .i64 R.n, lv, gv] 66 W4 := (hs g h.mg hgl).trans h.blk
  have hu := (Reg.Upd.refl b4).set 2 gv'
  have hlv : ∀ k, lv.ownBlock = some k → gv.ownBlock ≠ some k := fun k e => own_apart h.row h.cut (by decide) e
  have hc4 : W4.ownsRow B 69 3 lv R.ms.length (mc R.ms) := own_of h.row fun k e => hs k (h.ml k e) (hlv k e)
  refine ⟨⟨hu.at_, own_of hc4 fun k e => hu.far k (fun e2 => ?_), own_of ho fun k e => hu.far k (fun e2 => ?_), .inl h.mg, fun k e => .inl (h.ml k e), fun k e => .inr e, fun k m => ?_⟩, ⟨⟨hk.os, hk.tape, hk.output, by rw [hu.size]; exact hk.size, fun k hk' hn => (hu.far k (fun e => hn (e ▸ h.mg))).trans (hk.block k hk' hn)⟩, fun k m => ?_⟩⟩
  · subst e2; exact own_type hc4 b4 (by decide) e
  · subst e2; exact own_type ho b4 (by decide) e
  · rw [hu.size]
    rcases m with m | m
    · exact ⟨(h.bb k m).1, Nat.lt_of_lt_of_le (h.bb k m).2 hk.size⟩
    · exact ho.lt k m
  · rcases m with m | m
    · exact .inl m
    · rcases hat k m with e | e
      · exact .inl (h.mv k e)
      · exact .inr e
theorem IsRef.appl {o : Obj} {gg cap n : Nat} {m : Mg} (h : IsRef w B M g R lv gv) (hg : (w.alloc o).grownBy W4 lv.ownBlock) (ho : W4.ownsRow B 69 3 (.slice (some ⟨gg, 0, none⟩) n cap) n (mc R.ms ++ [.int .i64 m.1, .int .i64 m.2.1, .string (str m.2.2)])) (hn : n = R.ms.length + 1) (hat : lv.ownBlock = some gg ∨ gg = w.heap.size + 1) :
    RPost w B M g { R with ms := R.ms ++ [m] } (W4.setCell ⟨g, 1, none⟩ (.slice (some ⟨gg, 0, none⟩) n cap)) := by
  have hk0 : Reg.Keep M w W4 := by
    have k1 := keep_grownM (M := M) hg h.ml
    refine ⟨k1.os, k1.tape, k1.output, by have := k1.size; simp at this; omega, fun k hk hn => (k1.block k (by simp; omega) hn).trans (Below.heap_alloc w o k hk)⟩
  rw [← mc_snoc] at ho
  have hl : (R.ms ++ [m]).length = n := by simp [hn]
  have q := h.setl (lv' := .slice (some ⟨gg, 0, none⟩) n cap) (ms' := R.ms ++ [m]) hk0 (fun k mk hne => (hg.block k (by have := (h.bb k mk).2; simp; omega) (fun e => hne e.symm)).trans (Below.heap_alloc w o k (h.bb k mk).2)) (by rw [hl]; exact ho) (fun k e => by
    have e2 : gg = k := by simpa [Value.ownBlock] using e
    subst e2
    rcases hat with hat | hat
    · exact .inl hat
    · exact .inr (by omega))
  exact ⟨_, ⟨_, _, q.1⟩, q.2⟩
end
theorem RPost.stay {w w' : World} {B g : Nat} {M : Nat → Prop} {R : Rf} (h : RefAt w B M g R) (hb : Below w.heap.size w w') : RPost w B M g R w' := by
  obtain ⟨lv, gv, h⟩ := h
  exact ⟨M, ⟨lv, gv, h.below hb⟩, Moved.below hb⟩
theorem RPost.from {w w1 w' : World} {B g : Nat} {M : Nat → Prop} {R : Rf} (hb : Below w.heap.size w w1) (h : RPost w1 B M g R w') : RPost w B M g R w' := by
  obtain ⟨M', hd, hm⟩ := h
  exact ⟨M', hd, (Moved.below hb).trans hm⟩

set_option maxHeartbeats 4000000 in
theorem rsend_any (a b : Int) (t : Tx) (w : World) {B g : Nat} {M : Nat → Prop} {d : Nt} {R : Rf} (h : RefAt w B M g R) (hB : B ≤ w.heap.size) (ha : Agree d R) (hn : R.ms.length ≤ 50000) (hg : R.gone.length ≤ 50000) :
    Calls Try.prog 28 #[.pointer (some ⟨g, 0, none⟩), .int .i64 a, .int .i64 b, .string (str t)] w fun e w' =>
      e = .returned (.int .i64 (send d a b t).1) ∧ ∃ R', Agree (send d a b t).2 R' ∧ R'.ms.length ≤ R.ms.length + 1 ∧ R'.gone.length ≤ R.gone.length + 1 ∧ RPost w B M g R' w' := by
  have hr := h
  obtain ⟨lv, gv, h⟩ := h
  obtain ⟨ck, fk, zk⟩ := h.blk.facts
  have qp := pair_any a b R.n g w (ck 0)
  rw [← ha.n] at qp
  have HA := Lib.hid ha
  have HR := Lib.hid hr
  have H := Lib.hid h
  have hsz := str_size t
  cases hok : okP d.n a b
  · have e : send d a b t = (1, d) := by unfold send; rw [if_pos hok]
    rw [e]
    rw [hok] at qp
    have QP := Lib.hid qp
    clear ck fk zk qp h hr ha hok e hsz
    go_enter Try.func28, Try.ntmps28
    go_wp2_with fail
    (with_reducible refine QP.out.mono ?_); rintro e w1 ⟨rfl, rfl⟩
    go_wp2_with fail
    go_ret
    exact ⟨rfl, R, HA.out, by omega, by omega, RPost.stay HR.out (Below.refl _ _)⟩
  · have hcs := ha.c a b hok
    have hqs := ha.q a b hok
    have hwr : waitR R a b = d.q a b := by unfold waitR; rw [← ha.n, hok, if_pos rfl, hqs]
    rw [hok] at qp
    have QP := Lib.hid qp
    have HOK := Lib.hid hok
    have HWR := Lib.hid hwr
    by_cases hl : 20000 < t.length
    · have e : send d a b t = (1, d) := by unfold send; rw [if_neg (by simp [hok]), if_pos hl]
      rw [e]
      have d1 : 20000 < (str t).size := by omega
      have d2 : (20000 : Int) < ((str t).size : Int) := by omega
      clear ck fk zk qp h hr ha hok e hsz hl hcs hqs hwr
      go_enter Try.func28, Try.ntmps28
      go_wp2_with fail
      (with_reducible refine QP.out.mono ?_); rintro e w1 ⟨rfl, rfl⟩
      go_wp2_with fail
      go_ret
      exact ⟨rfl, R, HA.out, by omega, by omega, RPost.stay HR.out (Below.refl _ _)⟩
    · have d1 : ¬ 20000 < (str t).size := by omega
      have d2 : ¬ (20000 : Int) < ((str t).size : Int) := by omega
      have QC := Lib.hid (rcut_any a b w hr (by omega))
      have HCS := Lib.hid hcs
      have HL := Lib.hid hl
      clear ck fk zk qp h hr ha hok hsz hl hcs hqs hwr
      go_enter Try.func28, Try.ntmps28
      go_wp2_with fail
      (with_reducible refine QP.out.mono ?_); rintro e w1 ⟨rfl, rfl⟩
      go_wp2_with fail
      refine QC.out.mono ?_
      rintro e w2 ⟨v, rfl, hv, hb2⟩
      by_cases hv0 : v < 0
      · have hv1 : ¬ 0 ≤ v := by omega
        have hsh := hv.neg hv0
        have HSH := Lib.hid hsh
        have HB2 := Lib.hid hb2
        have hw2 := rwait_any a b w2 (by obtain ⟨lv, gv, h⟩ := HR.out; exact ⟨lv, gv, h.below hb2⟩) (by omega : R.ms.length ≤ 100000)
        rw [HWR.out] at hw2
        have QW := Lib.hid hw2
        clear hv hsh hb2 hw2 QC QP
        go_wp2_with fail
        refine QW.out.mono ?_
        rintro e w3 ⟨A3, c3, rfl, _, hb3⟩
        have HB3 := Lib.hid (HB2.out.trans (hb3.mono HB2.out.size))
        by_cases h100 : 100 ≤ (d.q a b).length
        · have e : send d a b t = (22, d) := by
            unfold send
            rw [if_neg (by simp [HOK.out]), if_neg HL.out, HCS.out, HSH.out, if_neg (by simp), if_pos h100]
          have HE := Lib.hid e
          have d3 : (100 : Int) ≤ ((d.q a b).length : Int) := by omega
          clear hb3 QW e
          go_wp2_with fail
          go_ret
          rw [HE.out]; exact ⟨rfl, R, HA.out, by omega, by omega, RPost.stay HR.out HB3.out⟩
        · have e : send d a b t = (0, { d with q := at2 d.q a b (d.q a b ++ [t]) }) := by
            unfold send
            rw [if_neg (by simp [HOK.out]), if_neg HL.out, HCS.out, HSH.out, if_neg (by simp), if_neg h100]
          have HE := Lib.hid e
          have d3 : ¬ (100 : Int) ≤ ((d.q a b).length : Int) := by omega
          have AG := Lib.hid (HA.out.send a b t HOK.out HSH.out)
          have h3 := H.out.below HB3.out
          obtain ⟨A, c, rfl, hc⟩ := h3.lform
          obtain ⟨ck, fk, zk⟩ := h3.blk.facts
          have H3 := Lib.hid h3
          have ag : (Value.slice A R.ms.length c).ownBlock ≠ some g := own_type h3.row h3.blk (by decide)
          have k1 : w3.cell? ⟨g, 1, none⟩ = some (.slice A R.ms.length c) := ck 1
          have k4 := fk 1
          have K1 := Lib.hid (fun o => (World.cell?_alloc_lt w3 o ⟨g, 1, none⟩ zk).trans k1)
          have K4 := Lib.hid (fun o => (World.frozen?_alloc_old w3 o ⟨g, 1, none⟩ (Nat.ne_of_lt zk)).trans k4)
          obtain ⟨i0, hi0, hz0, hz1, hz2⟩ := info_parts info_msg
          have hB3 : B ≤ w3.heap.size := Nat.le_trans hB HB3.out.size
          clear hb3 QW e h3 H
          go_wp2_with (
            at_builtin; refine wpList_append_lies _ (by rfl) _ _ _ (by rfl) B 69 i0 _ 3 32 Try.underlying63 hi0 hz0 hz1 hz2 rfl (by omega) (.slice A R.ms.length c) R.ms.length (mc R.ms) (by rfl) (H3.out.row.alloc _) ⟨w3.heap.size, 0, none⟩ 1 1 [.int .i64 a, .int .i64 b, .string (str t)] (by rfl) (by rfl) (World.news_of_block (cs := #[.int .i64 a, .int .i64 b, .string (str t)]) (t := 69) (fr := (0, 0)) (heap_alloc_new w3 _)) (by simp [Value.oneCell']) (by omega) (by unfold maxLen; omega) (by omega) (by simp; omega) (w3.heap.size + 1) (by simp) ?_
            intro gg cap w4 hown1 hgrow hat hlt
            have k5 : w4.cell? ⟨g, 1, none⟩ = some (.slice A R.ms.length c) := (hgrow.cell_far _ (by simp; omega) (Ne.symm ag)).trans (K1.out _)
            have k6 : w4.frozen? ⟨g, 1, none⟩ = false := (hgrow.frozen_far _ (by simp; omega) (Ne.symm ag)).trans (K4.out _)
            clear ck fk)
          go_ret
          rw [HE.out]; exact ⟨rfl, _, AG.out, by simp, by simp, RPost.from HB3.out (H3.out.appl (m := (a, b, t)) hgrow hown1 rfl hat)⟩
      · have hv1 : 0 ≤ v := by omega
        have hsh := (hv.pos hv0).1
        have e : send d a b t = (23, d) := by
          unfold send
          rw [if_neg (by simp [HOK.out]), if_neg HL.out, HCS.out, hsh, if_pos rfl]
        have HE := Lib.hid e
        have HB2 := Lib.hid hb2
        clear hv hsh hb2 e QC QP
        go_wp2_with fail
        go_ret
        rw [HE.out]; exact ⟨rfl, R, HA.out, by omega, by omega, RPost.stay HR.out HB2.out⟩

end N
end Go.Proofs.Ytklcpopnggiepaa
