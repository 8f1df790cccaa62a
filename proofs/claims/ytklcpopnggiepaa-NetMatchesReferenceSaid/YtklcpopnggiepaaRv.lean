/- The reference network: Cut. -/
import Derived.Test.YtklcpopnggiepaaRx
import Derived.Test.YtklcpopnggiepaaReh
set_option linter.unusedSimpArgs false
set_option linter.unusedVariables false
set_option maxRecDepth 100000
namespace Go.Proofs.Ytklcpopnggiepaa
open Go.RowKit
namespace N

theorem IsRef.appg {w W4 : World} {B : Nat} {M : Nat → Prop} {g : Nat} {R : Rf} {lv gv : Value} {o : Obj} {gg cap n : Nat} {m : Int × Int} (h : IsRef w B M g R lv gv) (hg : (w.alloc o).grownBy W4 gv.ownBlock) (ho : W4.ownsRow B 58 2 (.slice (some ⟨gg, 0, none⟩) n cap) n (gc R.gone ++ [.int .i64 m.1, .int .i64 m.2])) (hn : n = R.gone.length + 1) (hat : gv.ownBlock = some gg ∨ gg = w.heap.size + 1) :
    ∃ M', IsRef (W4.setCell ⟨g, 2, none⟩ (.slice (some ⟨gg, 0, none⟩) n cap)) B M' g { R with gone := R.gone ++ [m] } lv (.slice (some ⟨gg, 0, none⟩) n cap) ∧ Moved M M' w (W4.setCell ⟨g, 2, none⟩ (.slice (some ⟨gg, 0, none⟩) n cap)) := by
  have hk0 : Reg.Keep M w W4 := by
    have k1 := keep_grownM (M := M) hg h.mv
    refine ⟨k1.os, k1.tape, k1.output, by have := k1.size; simp at this; omega, fun k hk hn => (k1.block k (by simp; omega) hn).trans (Below.heap_alloc w o k hk)⟩
  rw [← gc_snoc] at ho
  have hl : (R.gone ++ [m]).length = n := by simp [hn]
  have q := h.setg (gv' := .slice (some ⟨gg, 0, none⟩) n cap) (gn' := R.gone ++ [m]) hk0 (fun k mk hne => (hg.block k (by have := (h.bb k mk).2; simp; omega) (fun e => hne e.symm)).trans (Below.heap_alloc w o k (h.bb k mk).2)) (by rw [hl]; exact ho) (fun k e => by
    have e2 : gg = k := by simpa [Value.ownBlock] using e
    subst e2
    rcases hat with hat | hat
    · exact .inl hat
    · exact .inr (by omega))
  exact ⟨_, q.1, q.2⟩
def cutF (gone : List (Int × Int)) (a b : Int) : Nat → Value → World → Prop
  | 17, v, _ => ∃ i, v = .int .i64 i ∧ CutRes gone a b i
  | _, _, _ => True
theorem cutF_stays (gone : List (Int × Int)) (a b : Int) (d : Nat) (v : Value) (w w' : World) (h : cutF gone a b d v w) : cutF gone a b d v w' := by
  unfold cutF at h ⊢
  split
  · simpa using h
  · trivial
theorem RefAt.below {w w' : World} {B g : Nat} {M : Nat → Prop} {R : Rf} (h : RefAt w B M g R) (hb : Below w.heap.size w w') : RefAt w' B M g R := by
  obtain ⟨lv, gv, h⟩ := h
  exact ⟨lv, gv, h.below hb⟩
def noM (_ : Nat) : Prop := False
theorem keep_no {w w' : World} (h : Reg.Keep noM w w') : Below w.heap.size w w' := h.below fun k hk => ⟨hk, fun h => h⟩
def isNeg (v : Value) : Bool := match v with | .int _ i => decide (i < 0) | _ => false

set_option maxHeartbeats 8000000 in
theorem rcutline_any (a b : Int) (w : World) {B g : Nat} {M : Nat → Prop} {d : Nt} {R : Rf} (h : RefAt w B M g R) (hB : B ≤ w.heap.size) (ha : Agree d R) (hn : R.ms.length ≤ 50000) (hg : R.gone.length ≤ 50000) :
    Calls Try.prog 30 #[.pointer (some ⟨g, 0, none⟩), .int .i64 a, .int .i64 b] w fun e w' =>
      e = .returned (.int .i64 (turn d a b true).1) ∧ ∃ R', Agree (turn d a b true).2 R' ∧ R'.ms.length ≤ R.ms.length + 1 ∧ R'.gone.length ≤ R.gone.length + 1 ∧ RPost w B M g R' w' := by
  have hr := h
  obtain ⟨lv, gv, h⟩ := h
  obtain ⟨ck, fk, zk⟩ := h.blk.facts
  have qp := pair_any a b R.n g w (ck 0)
  rw [← ha.n] at qp
  have HA := Lib.hid ha
  have HR := Lib.hid hr
  have H := Lib.hid h
  cases hok : okP d.n a b
  · have e : turn d a b true = (1, d) := by unfold turn; rw [if_pos hok]
    have HE := Lib.hid e
    rw [hok] at qp
    have QP := Lib.hid qp
    clear ck fk zk qp h hr ha hok e
    go_enter Try.func30, Try.ntmps30
    go_wp2_with fail
    (with_reducible refine QP.out.mono ?_); rintro e w1 ⟨rfl, rfl⟩
    go_wp2_with fail
    go_ret
    rw [HE.out]; exact ⟨rfl, R, HA.out, by omega, by omega, RPost.stay HR.out (Below.refl _ _)⟩
  · have hcs := ha.c a b hok
    rw [hok] at qp
    have QP := Lib.hid qp
    have HOK := Lib.hid hok
    have QC := Lib.hid (rcut_any a b w hr (by omega))
    have HCS := Lib.hid hcs
    clear ck fk zk qp h hr ha hok hcs
    go_enter Try.func30, Try.ntmps30
    go_wp2_with fail
    (with_reducible refine QP.out.mono ?_); rintro e w1 ⟨rfl, rfl⟩
    go_wp2_with fail
    refine QC.out.mono ?_
    rintro e w3 ⟨v, rfl, hv, hb3⟩
    by_cases hv0 : v < 0
    · have hv1 : ¬ 0 ≤ v := by omega
      have hsh := hv.neg hv0
      have HSH := Lib.hid hsh
      have HB3 := Lib.hid hb3
      have e : turn d a b true = (0, { d with c := both d.c a b true, q := both d.q a b [] }) := by
        unfold turn
        rw [if_neg (by simp [HOK.out]), HCS.out, hsh, if_neg (by simp)]
        rfl
      have HE := Lib.hid e
      have AG := Lib.hid (HA.out.cut HOK.out hsh)
      have h3 := H.out.below hb3
      obtain ⟨A, c, rfl, hc⟩ := h3.gform
      obtain ⟨ck, fk, zk⟩ := h3.blk.facts
      have H3 := Lib.hid h3
      have ag : (Value.slice A R.gone.length c).ownBlock ≠ some g := own_type h3.cut h3.blk (by decide)
      have k1 : w3.cell? ⟨g, 2, none⟩ = some (.slice A R.gone.length c) := ck 2
      have k4 := fk 2
      have K1 := Lib.hid (fun o => (World.cell?_alloc_lt w3 o ⟨g, 2, none⟩ zk).trans k1)
      have K4 := Lib.hid (fun o => (World.frozen?_alloc_old w3 o ⟨g, 2, none⟩ (Nat.ne_of_lt zk)).trans k4)
      obtain ⟨i0, hi0, hz0, hz1, hz2⟩ := info_parts info_pr
      have hB3 : B ≤ w3.heap.size := Nat.le_trans hB hb3.size
      clear hv hsh hb3 e h3 H QC QP
      go_wp2_with (
        at_builtin; refine wpList_append_lies _ (by rfl) _ _ _ (by rfl) B 58 i0 _ 2 16 Try.underlying64 hi0 hz0 hz1 hz2 rfl (by omega) (.slice A R.gone.length c) R.gone.length (gc R.gone) (by rfl) (H3.out.cut.alloc _) ⟨w3.heap.size, 0, none⟩ 1 1 [.int .i64 a, .int .i64 b] (by rfl) (by rfl) (World.news_of_block (cs := #[.int .i64 a, .int .i64 b]) (t := 58) (fr := (0, 0)) (heap_alloc_new w3 _)) (by simp [Value.oneCell']) (by omega) (by unfold maxLen; omega) (by omega) (by simp; omega) (w3.heap.size + 1) (by simp) ?_
        intro gg cap w4 hown1 hgrow hat hlt
        have k5 : w4.cell? ⟨g, 2, none⟩ = some (.slice A R.gone.length c) := (hgrow.cell_far _ (by simp; omega) (Ne.symm ag)).trans (K1.out _)
        have k6 : w4.frozen? ⟨g, 2, none⟩ = false := (hgrow.frozen_far _ (by simp; omega) (Ne.symm ag)).trans (K4.out _)
        clear ck fk)
      obtain ⟨M5, h5, hm5⟩ := H3.out.appg (m := (a, b)) hgrow hown1 rfl hat
      obtain ⟨w5, hw5⟩ : ∃ w5, w5 = w4.setCell ⟨g, 2, none⟩ (.slice (some ⟨gg, 0, none⟩) (R.gone.length + 1) cap) := ⟨_, rfl⟩
      rw [← hw5] at h5 hm5
      have H5 := Lib.hid h5
      have HM5 := Lib.hid ((Moved.below HB3.out).trans hm5)
      have hz5 : B ≤ w5.heap.size := Nat.le_trans hB3 hm5.keep.size
      have HW5 := Lib.hid hw5
      clear hown1 hgrow hat hlt k5 k6 k1 k4 ag h5 hm5 hw5 H3 hi0 hz0 hz1 hz2 zk
      rw [← HW5.out]
      go_loopw [7, 8] (fun v i wr => ∃ (k : Nat) (ls : List Mg), k ≤ R.ms.length ∧ i = .int .i64 k ∧ ls = (R.ms.take k).filter (fun m => !shut (R.gone ++ [(a, b)]) m.1 m.2.1) ∧ ls.length ≤ k ∧ (∃ A c, v = .slice A ls.length c) ∧ wr.ownsRow w5.heap.size 69 3 v ls.length (mc ls) ∧ Below w5.heap.size w5 wr) (fun _ i _ => R.ms.length - (intOf i).toNat)
      case atStart => exact ⟨0, [], Nat.zero_le _, rfl, rfl, Nat.le_refl _, ⟨none, 0, rfl⟩, World.ownsRow_nil _ _ _ _, Below.refl _ _⟩
      case round =>
        obtain ⟨k, ls, hk, rfl, hls, hll, ⟨A3, c3, rfl⟩, hrow, hW⟩ := hrel
        have hR := H5.out.below hW
        obtain ⟨A1, c1, hlv, hc1⟩ := hR.lform
        subst hlv
        obtain ⟨ck, fk, zk⟩ := hR.blk.facts
        have HW := Lib.hid hW
        have HRow := Lib.hid hrow
        have HLS := Lib.hid hls
        have hz : w5.heap.size ≤ wr.heap.size := hW.size
        clear hW hrow hls
        simp only at hc1
        by_cases hlt : k < R.ms.length
        · obtain ⟨gq, hA, hlt1, c0, c1', c2⟩ := hR.msg (R := { R with gone := R.gone ++ [(a, b)] }) hlt
          have hki : (k : Int) < (R.ms.length : Int) := by omega
          have hk0 : (0 : Int) ≤ (k : Int) := by omega
          have e1 : R.ms.take k ++ [R.ms[k]] = R.ms.take (k + 1) := List.take_append_getElem hlt
          simp only at c0 c1' c2
          obtain ⟨m, hm⟩ : ∃ m, m = R.ms[k] := ⟨_, rfl⟩
          rw [← hm] at e1 c0 c1' c2
          have hfl : (R.ms.take (k + 1)).filter (fun m => !shut (R.gone ++ [(a, b)]) m.1 m.2.1) = ls ++ if shut (R.gone ++ [(a, b)]) m.1 m.2.1 = true then [] else [m] := by
            rw [← e1, List.filter_append, HLS.out]
            congr 1
            cases hq : shut (R.gone ++ [(a, b)]) m.1 m.2.1 <;> simp [hq]
          obtain ⟨m1, m2, mt⟩ := m
          simp only at c0 c1' c2 hfl
          have HF := Lib.hid hfl
          have HR5 := Lib.hid (show RefAt wr B M5 g { R with gone := R.gone ++ [(a, b)] } from ⟨_, _, hR⟩)
          clear hfl e1 hm hR
          subst hA
          go_wp2_with fail
          refine Reg.wp_region_eff noM (cutF (R.gone ++ [(a, b)]) m1 m2) (fun _ _ => True) (by kernel_rfl) (by kernel_rfl) (fun _ _ _ _ h _ => cutF_stays _ _ _ _ _ _ _ h) (fun _ _ _ _ _ => trivial) trivial ?_
          simp only
          have hnm : ∀ b, ¬ noM b := fun _ h => h
          iterate 17
            apply Reg.SeqE.val
            rotate_left 2
            · intro δ W hW hkn K hK
              obtain ⟨hc, hf, _⟩ := Reg.kcell hW
              simp only [Act.put, List.setIfInBounds_toArray, List.set_cons_zero, List.set_cons_succ] at hK
              unfold Reg.Does
              go_simp
              try simp only [IntWalk.i64_left]
              first
                | exact hK _ (Below.refl _ _)
                | (trace_state; fail)
            rotate_left 1
            · intro δ δ' hd; first | rfl | (simp only [hd _ (show Reg.reach _ 12 _ _ = true by kernel_rfl)])
            · intro x w; exact trivial
            simp only [Act.put, List.setIfInBounds_toArray, List.set_cons_zero, List.set_cons_succ, List.nil_append, List.cons_append, Nat.reduceAdd, Nat.zero_add]
          refine Reg.SeqE.new (fun δ W6 hW6 hkn K hK => ?_) ?_
          · have qc := rcut_any m1 m2 W6 (HR5.out.below (keep_no hW6)) (by simp; omega)
            have QC := Lib.hid qc
            simp only [Act.put, List.setIfInBounds_toArray, List.set_cons_zero, List.set_cons_succ] at hK
            clear qc
            unfold Reg.Does
            go_simp
            refine QC.out.mono ?_
            rintro e w6 ⟨i, rfl, hi, hb6⟩
            exact hK _ _ hb6 ⟨i, rfl, hi⟩
          simp only [Act.put, List.setIfInBounds_toArray, List.set_cons_zero, List.set_cons_succ, List.nil_append, List.cons_append, Nat.reduceAdd, Nat.zero_add]
          refine Reg.SeqE.val (fun δ => .bool (isNeg (δ 17))) (fun δ δ' hd => congrArg (fun v => Value.bool (isNeg v)) (hd 17 (by kernel_rfl))) (fun _ _ => trivial) (fun δ W6 hW6 hkn K hK => ?_) ?_
          · obtain ⟨i, hi, hci⟩ : ∃ i, δ 17 = .int .i64 i ∧ CutRes (R.gone ++ [(a, b)]) m1 m2 i := hkn 17 (by kernel_rfl)
            simp only [Act.put, List.setIfInBounds_toArray, List.set_cons_zero, List.set_cons_succ, hi, isNeg] at hK
            unfold Reg.Does
            rw [hi]
            go_simp
            exact hK _ (Below.refl _ _)
          simp only [Act.put, List.setIfInBounds_toArray, List.set_cons_zero, List.set_cons_succ, List.nil_append, List.cons_append, Nat.reduceAdd, Nat.zero_add]
          refine Reg.SeqE.nil (fun δ W6 hW6 hF _ => ?_)
          obtain ⟨i, hi, hci⟩ : ∃ i, δ 17 = .int .i64 i ∧ CutRes (R.gone ++ [(a, b)]) m1 m2 i := hF 17 (by omega)
          rw [hi]
          simp only [isNeg]
          have hb6 := keep_no hW6
          have HW6 := Lib.hid (HW.out.trans (hb6.mono HW.out.size))
          have HRow6 := Lib.hid (own_below HRow.out hb6)
          have hR6 := H5.out.below HW6.out
          obtain ⟨ck6, fk6, zk6⟩ := hR6.blk.facts
          have d0 := (hb6.cell (p := ⟨gq, k * 3, none⟩) hlt1).trans c0
          have d1 := (hb6.cell (p := ⟨gq, k * 3 + 1, none⟩) hlt1).trans c1'
          have d2 := (hb6.cell (p := ⟨gq, k * 3 + 2, none⟩) hlt1).trans c2
          have hlt6 := Nat.lt_of_lt_of_le hlt1 hb6.size
          have hz6 : w5.heap.size ≤ W6.heap.size := HW6.out.size
          clear ck fk zk c0 c1' c2 hF hW6 hb6 hi HRow HW hR6 hlt1
          by_cases hneg : i < 0
          · have hsh := hci.neg hneg
            have E3 := HF.out
            rw [hsh] at E3
            have E4 := Lib.hid E3
            obtain ⟨i0, hi0, hz0, hz1, hz2⟩ := info_parts info_msg
            clear hci hsh E3 HF
            go_wp2_with (
              at_builtin; refine wpList_append_lies _ (by rfl) _ _ _ (by rfl) w5.heap.size 69 i0 _ 3 32 Try.underlying63 hi0 hz0 hz1 hz2 rfl (by omega) (.slice A3 ls.length c3) ls.length (mc ls) (by rfl) (HRow6.out.alloc _) ⟨W6.heap.size, 0, none⟩ 1 1 [.int .i64 m1, .int .i64 m2, .string (str mt)] (by rfl) (by rfl) (World.news_of_block (cs := #[.int .i64 m1, .int .i64 m2, .string (str mt)]) (t := 69) (fr := (0, 0)) (heap_alloc_new W6 _)) (by simp [Value.oneCell']) (by omega) (by unfold maxLen; omega) (by omega) (by simp; omega) (W6.heap.size + 1) (by simp) ?_
              intro gg6 cap6 w7 hown7 hgrow7 hat7 hlt7)
            refine ⟨⟨k + 1, ls ++ [(m1, m2, mt)], by omega, by go_num, E4.out.symm, by simp; omega, ⟨some ⟨gg6, 0, none⟩, cap6, by simp⟩, by rw [mc_snoc]; simpa using hown7, (HW6.out.alloc hz6 _).grown hgrow7 (by simp; omega) (fun q hq => (HRow6.out.lt q hq).1)⟩, by simp [intOf]; omega⟩
          · have hsh := (hci.pos hneg).1
            have E3 := HF.out
            rw [hsh] at E3
            have E4 := Lib.hid E3
            clear hci hsh E3 HF
            go_wp2_with fail
            exact ⟨⟨k + 1, ls, by omega, by go_num, by rw [E4.out]; simp, by omega, ⟨A3, c3, rfl⟩, HRow6.out, HW6.out⟩, by simp [intOf]; omega⟩
        · obtain rfl : k = R.ms.length := by omega
          have e1 : ls = R.ms.filter (fun m => !shut (R.gone ++ [(a, b)]) m.1 m.2.1) := by rw [HLS.out, List.take_of_length_le (Nat.le_refl _)]
          have E1 := Lib.hid e1
          have HR5 := Lib.hid hR
          clear hR e1
          go_wp2_with fail
          go_ret
          have hB5 : B ≤ w5.heap.size := hz5
          have q := H5.out.setl (W4 := wr) (lv' := .slice A3 ls.length c3) (ms' := ls) ⟨HW.out.os, HW.out.tape, HW.out.output, HW.out.size, fun k hk _ => HW.out.block k hk⟩ (fun k mk _ => HW.out.block k (H5.out.bb k mk).2) (own_base HRow.out hB5) (fun k e => .inr (HRow.out.lt k e).1)
          rw [HE.out]
          refine ⟨rfl, _, AG.out, Nat.le_succ_of_le (List.length_filter_le _ _), by simp, ?_⟩
          rw [← E1.out]
          exact ⟨_, ⟨_, _, q.1⟩, HM5.out.trans q.2⟩
    · have hv1 : 0 ≤ v := by omega
      have hsh := (hv.pos hv0).1
      have e : turn d a b true = (11, d) := by
        unfold turn
        rw [if_neg (by simp [HOK.out]), HCS.out, hsh, if_pos rfl]
      have HE := Lib.hid e
      have HB2 := Lib.hid hb3
      clear hv hsh hb3 e QC QP
      go_wp2_with fail
      go_ret
      rw [HE.out]; exact ⟨rfl, R, HA.out, by omega, by omega, RPost.stay HR.out HB2.out⟩

end N
end Go.Proofs.Ytklcpopnggiepaa
