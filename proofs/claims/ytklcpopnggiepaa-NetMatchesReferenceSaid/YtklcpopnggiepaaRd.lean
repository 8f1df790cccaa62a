/- The reference network: Deliver. -/
import Derived.Test.YtklcpopnggiepaaRh
set_option linter.unusedSimpArgs false
set_option linter.unusedVariables false
set_option maxRecDepth 100000
namespace Go.Proofs.Ytklcpopnggiepaa
open Go.RowKit
namespace N

theorem mc_take (q : List Mg) : ∀ k, (mc q).take (k * 3) = mc (q.take k) := by
  induction q with
  | nil => intro k; simp [mc]
  | cons p q ih =>
    intro k
    cases k with
    | zero => simp [mc]
    | succ k =>
      have e : mc (p :: q) = .int .i64 p.1 :: .int .i64 p.2.1 :: .string (str p.2.2) :: mc q := by simp [mc]
      have e2 : mc (p :: q.take k) = .int .i64 p.1 :: .int .i64 p.2.1 :: .string (str p.2.2) :: mc (q.take k) := by simp [mc]
      rw [e, List.take_succ_cons, e2, ← ih k, show (k + 1) * 3 = k * 3 + 1 + 1 + 1 from by omega, List.take_succ_cons, List.take_succ_cons, List.take_succ_cons]
theorem mc_drop (q : List Mg) : ∀ k, (mc q).drop (k * 3) = mc (q.drop k) := by
  induction q with
  | nil => intro k; simp [mc]
  | cons p q ih =>
    intro k
    cases k with
    | zero => simp
    | succ k =>
      have e : mc (p :: q) = .int .i64 p.1 :: .int .i64 p.2.1 :: .string (str p.2.2) :: mc q := by simp [mc]
      rw [e, List.drop_succ_cons, ← ih k, show (k + 1) * 3 = k * 3 + 1 + 1 + 1 from by omega, List.drop_succ_cons, List.drop_succ_cons, List.drop_succ_cons]
theorem msg_elem : Try.prog.underlying 63 = some (.slice (Try.prog.elem 63)) := by kernel_rfl
theorem msg_size (w : World) : (sizeOf (Try.prog.elem 63)).run Try.prog w = .ok 3 w := by
  have e : Try.prog.elem 63 = 69 := by kernel_rfl
  rw [e]; exact Try.sizeOf69 w
theorem delT_val (d : Nt) (a b k : Int) (lost again : Bool) : deliver d a b k lost again = (delT d a b k lost, delD d a b k lost again) := rfl

set_option maxHeartbeats 8000000 in
theorem rdeliver_any (a b which : Int) (lost again : Bool) (w : World) {B g : Nat} {M : Nat → Prop} {d : Nt} {R : Rf} (h : RefAt w B M g R) (hB : B ≤ w.heap.size) (ha : Agree d R) (hn : R.ms.length ≤ 50000) (hg : R.gone.length ≤ 50000) :
    Calls Try.prog 29 #[.pointer (some ⟨g, 0, none⟩), .int .i64 a, .int .i64 b, .int .i64 which, .bool lost, .bool again] w fun e w' =>
      e = .returned (.tuple #[.string (str (deliver d a b which lost again).1.1), .bool (deliver d a b which lost again).1.2]) ∧ ∃ R', Agree (deliver d a b which lost again).2 R' ∧ R'.ms.length ≤ R.ms.length + 1 ∧ R'.gone.length ≤ R.gone.length + 1 ∧ RPost w B M g R' w' := by
  have hr := h
  obtain ⟨lv, gv, h⟩ := h
  obtain ⟨ck, fk, zk⟩ := h.blk.facts
  have qp := pair_any a b R.n g w (ck 0)
  rw [← ha.n] at qp
  have HA := Lib.hid ha
  have HR := Lib.hid hr
  have H := Lib.hid h
  have hmiss : inQ d a b which = false → deliver d a b which lost again = (([], false), d) := fun e => by unfold deliver delT delD; rw [if_pos e, if_pos e]
  have HMI := Lib.hid hmiss
  cases hok : okP d.n a b
  · have e : deliver d a b which lost again = (([], false), d) := hmiss (by unfold inQ; rw [hok]; rfl)
    have HE := Lib.hid e
    rw [hok] at qp
    have QP := Lib.hid qp
    clear ck fk zk qp h hr ha hok e hmiss
    go_enter Try.func29, Try.ntmps29
    go_wp2_with fail
    (with_reducible refine QP.out.mono ?_); rintro e w1 ⟨rfl, rfl⟩
    go_wp2_with fail
    go_ret2
    rw [HE.out]; exact ⟨rfl, R, HA.out, by omega, by omega, RPost.stay HR.out (Below.refl _ _)⟩
  · rw [hok] at qp
    have QP := Lib.hid qp
    have HOK := Lib.hid hok
    obtain ⟨A, c, rfl, hc⟩ := h.lform
    clear ck fk zk qp h hr ha hok hmiss
    go_enter Try.func29, Try.ntmps29
    go_wp2_with fail
    (with_reducible refine QP.out.mono ?_); rintro e w1 ⟨rfl, rfl⟩
    go_wp2_with fail
    go_loopw [14, 15] (fun kv i wr => ∃ k : Nat, k ≤ R.ms.length ∧ i = .int .i64 k ∧ kv = .int .i64 ((R.ms.take k).countP (isM a b) : Nat) ∧ ¬ (0 ≤ which ∧ which < ((R.ms.take k).countP (isM a b) : Nat)) ∧ Below w.heap.size w wr) (fun _ i _ => R.ms.length - (intOf i).toNat)
    case atStart => exact ⟨0, Nat.zero_le _, rfl, rfl, by simp, Below.refl _ _⟩
    case round =>
      obtain ⟨k, hk, rfl, rfl, hwh, hW⟩ := hrel
      have hR := H.out.below hW
      obtain ⟨ck, fk, zk⟩ := hR.blk.facts
      have HW := Lib.hid hW
      have HWH := Lib.hid hwh
      have H3 := Lib.hid hR
      clear hW hwh
      by_cases hlt : k < R.ms.length
      · obtain ⟨gq, hA, hlt1, c0, c1, c2⟩ := hR.msg hlt
        have hki : (k : Int) < (R.ms.length : Int) := by omega
        have hk0 : (0 : Int) ≤ (k : Int) := by omega
        obtain ⟨m1, hm1⟩ : ∃ x, R.ms[k].1 = x := ⟨_, rfl⟩
        obtain ⟨m2, hm2⟩ : ∃ x, R.ms[k].2.1 = x := ⟨_, rfl⟩
        obtain ⟨mt, hmt⟩ : ∃ x, R.ms[k].2.2 = x := ⟨_, rfl⟩
        rw [hm1] at c0
        rw [hm2] at c1
        rw [hmt] at c2
        have hM : isM a b R.ms[k] = (m1 == a && m2 == b) := by unfold isM; rw [hm1, hm2]
        have hcn : (R.ms.take (k + 1)).countP (isM a b) = (R.ms.take k).countP (isM a b) + if isM a b R.ms[k] = true then 1 else 0 := by
          rw [← List.take_append_getElem hlt, List.countP_append]; simp [List.countP_cons]
        have HMT := Lib.hid hmt
        have HHit := Lib.hid (HA.out.hit HOK.out k hlt)
        have HM := Lib.hid hM
        have HCN := Lib.hid hcn
        have hcl : (R.ms.take k).countP (isM a b) ≤ k := Nat.le_trans List.countP_le_length (by simp; omega)
        clear hm1 hm2 hmt hM hcn hR
        obtain ⟨cn, hcn⟩ : ∃ cn, (R.ms.take k).countP (isM a b) = cn := ⟨_, rfl⟩
        rw [hcn] at HCN HWH HHit hcl ⊢
        clear hcn
        subst hA
        go_upto_region 8 with fail
        obtain ⟨WX, hWX⟩ : ∃ WX, WX = wr.alloc (.cells #[.int .i64 m1, .int .i64 m2, .string (str mt)] 69) := ⟨_, rfl⟩
        have blk : Reg.Blk wr.heap.size #[.int .i64 m1, .int .i64 m2, .string (str mt)] 69 WX := hWX ▸ Reg.Blk.new _ _ _
        have hbx : Below wr.heap.size wr WX := hWX ▸ ((Below.refl _ _).alloc (Nat.le_refl _) _)
        have hBk := Lib.hid blk
        have h3 := H3.out.below hbx
        have HWX := Lib.hid (HW.out.trans (hbx.mono HW.out.size))
        rw [← hWX]
        obtain ⟨d0, f0, zd⟩ := blk.facts
        have hgw : ¬ wr.heap.size = g := by omega
        have hgw' : ¬ g = wr.heap.size := by omega
        have hno2 : ¬ fromM WX.heap.size wr.heap.size := by unfold fromM; have := blk.lt; omega
        clear ck fk zk c0 c1 c2 hWX hbx blk hlt1 H3 HW
        have H3 := Lib.hid h3
        obtain ⟨ck, fk, zk⟩ := h3.blk.facts
        clear h3
        cases q1 : (m1 == a)
        · have q1' : (m1 != a) = true := by unfold bne; rw [q1]; rfl
          have hno : isM a b R.ms[k] = false := by rw [HM.out, q1]; rfl
          have hcn := HCN.out
          rw [hno] at hcn
          have HC := Lib.hid hcn
          clear hno hcn
          go_wp2_with fail
          exact ⟨⟨k + 1, by omega, by go_num, by rw [HC.out]; rfl, by rw [HC.out]; exact HWH.out, HWX.out⟩, by simp [intOf]; omega⟩
        · have q1' : (m1 != a) = false := by unfold bne; rw [q1]; rfl
          cases q2 : (m2 == b)
          · have q2' : (m2 != b) = true := by unfold bne; rw [q2]; rfl
            have hno : isM a b R.ms[k] = false := by rw [HM.out, q1, q2]; rfl
            have hcn := HCN.out
            rw [hno] at hcn
            have HC := Lib.hid hcn
            clear hno hcn
            go_wp2_with fail
            exact ⟨⟨k + 1, by omega, by go_num, by rw [HC.out]; rfl, by rw [HC.out]; exact HWH.out, HWX.out⟩, by simp [intOf]; omega⟩
          · have q2' : (m2 != b) = false := by unfold bne; rw [q2]; rfl
            have hyes : isM a b R.ms[k] = true := by rw [HM.out, q1, q2]; rfl
            by_cases hw : (cn : Int) = which
            · have hwb : ((cn : Int) != which) = false := by simp [hw]
              obtain rfl : which = cn := hw.symm
              cases lost
              · cases again
                · obtain ⟨hin, hget, hag⟩ := HHit.out hyes
                  rw [HMT.out] at hget
                  have e : deliver d a b cn false false = ((mt, true), cutD d a b cn) := by
                    unfold deliver delT delD
                    simp only [hin, Bool.true_eq_false, if_false, Bool.false_eq_true, Bool.or_false, Bool.not_false, Bool.not_true, Bool.true_or, Bool.false_or, if_true, Int.toNat_natCast, hget]
                  have HE := Lib.hid e
                  have AG := Lib.hid hag
                  obtain ⟨A1, hA1, E1, S1⟩ := run_toG (k := k) (ys := mc R.ms) msg_elem msg_size (A := some ⟨gq, 0, none⟩) (n := R.ms.length) (c := c) (fun e => by cases e) (by omega) hc
                  obtain ⟨A2, hA2, E2, S2⟩ := run_fromG (k := k + 1) (ys := mc R.ms) msg_elem msg_size (A := some ⟨gq, 0, none⟩) (n := R.ms.length) (c := c) (fun e => by cases e) (by omega) hc
                  have hsrc := SrcAt.own H3.out.row (mc_one _)
                  have HS1 := Lib.hid (S1 WX hsrc)
                  have HS2 := Lib.hid (S2 WX hsrc)
                  rw [mc_take] at HS1
                  rw [mc_drop] at HS2
                  have HA1 := Lib.hid hA1
                  have HA2 := Lib.hid hA2
                  have hno : ¬ fromM WX.heap.size g := by unfold fromM; omega
                  have hwr : IntKind.i64.wrap ((k : Int) + 1) = (k : Int) + 1 := IntWalk.i64_in _ (by omega)
                  rw [show ((k + 1 : Nat) : Int) = (k : Int) + 1 from rfl] at E2
                  have hB3 : B ≤ WX.heap.size := Nat.le_trans hB HWX.out.size
                  obtain ⟨i0, hi0, hz0, hz1, hz2⟩ := info_parts info_msg
                  have HI0 := Lib.hid hi0
                  clear hin hget e hag S1 S2 hA1 hA2 hsrc hi0 hyes
                  go_wp2_with fail
                  refine Reg.wp_region_last (fromM WX.heap.size) (fun _ _ _ => True) (TwoT WX.heap.size 3 69 k (R.ms.length - (k + 1)) (mc (R.ms.take k)) (mc (R.ms.drop (k + 1)))) (by kernel_rfl) (by kernel_rfl) (fun _ _ _ _ _ _ => trivial) twoT_stays trivial ?_
                  simp only
                  iterate 1
                    apply Reg.SeqL.val
                    rotate_left 2
                    · intro δ W hW hkn K hK
                      obtain ⟨hc, hf, _⟩ := Reg.kcell hW
                      simp only [Act.put, List.setIfInBounds_toArray, List.set_cons_zero, List.set_cons_succ] at hK
                      unfold Reg.Does
                      go_simp
                      try simp only [IntWalk.i64_left]
                      first
                        | exact hK _ (Below.refl _ _)
                    rotate_left 1
                    · intro δ δ' hd; first | rfl | (simp only [hd _ (show Reg.reach _ 12 _ _ = true by kernel_rfl)])
                    · intro x w; exact trivial
                    simp only [Act.put, List.setIfInBounds_toArray, List.set_cons_zero, List.set_cons_succ, List.nil_append, List.cons_append, Nat.reduceAdd, Nat.zero_add]
                  refine Reg.SeqL.eff (fun e h => by simp at h) (fun δ W5 hW5 hkn hT5 K hK => ?_) ?_
                  · simp only [Act.put, List.setIfInBounds_toArray, List.set_cons_zero, List.set_cons_succ] at hK
                    unfold Reg.Does
                    go_simp
                    refine hK _ _ (Reg.Keep.ofBelow ((Below.refl _ _).alloc (Nat.le_refl _) _)) trivial ⟨_, 0, rfl, rfl, .inr ⟨W5.heap.size, 0, _, rfl, hW5.size, Reg.heap_new _ _, Nat.le_refl _, by unfold maxLen; omega, rfl, rfl⟩⟩
                  simp only [Act.put, List.setIfInBounds_toArray, List.set_cons_zero, List.set_cons_succ, List.nil_append, List.cons_append, Nat.reduceAdd, Nat.zero_add]
                  iterate 6
                    apply Reg.SeqL.val
                    rotate_left 2
                    · intro δ W hW hkn K hK
                      obtain ⟨hc, hf, _⟩ := Reg.kcell hW
                      simp only [Act.put, List.setIfInBounds_toArray, List.set_cons_zero, List.set_cons_succ] at hK
                      unfold Reg.Does
                      go_simp
                      try simp only [IntWalk.i64_left]
                      first
                        | exact hK _ (Below.refl _ _)
                        | (trace_state; fail)
                    rotate_left 1
                    · intro δ δ' hd; first | rfl | (simp only [hd _ (show Reg.reach _ 12 _ _ = true by kernel_rfl)])
                    · intro x w; exact trivial
                    simp only [Act.put, List.setIfInBounds_toArray, List.set_cons_zero, List.set_cons_succ, List.nil_append, List.cons_append, Nat.reduceAdd, Nat.zero_add]
                  refine Reg.SeqL.eff (fun e h => ?_) (fun δ W5 hW5 hkn hT5 K hK => ?_) ?_
                  · simp only [List.getLast?_singleton, Option.some.injEq] at h
                    subst h
                    kernel_rfl
                  · obtain ⟨Ax, cx, e14, ho⟩ := hT5
                    unfold Reg.Does
                    rw [if_pos (by rfl)]
                    refine wp_appG Try.underlying63 HI0.out hz0 hz1 hz2 rfl (by omega) (by omega) _ _ rfl rfl rfl ho (HS1.out.below (keepF hW5)) HA1.out (by omega) hW5.size ?_
                    intro A' c' w6 ho6 hg6 hat6
                    rw [List.nil_append] at ho6
                    simp only [Nat.zero_add] at ho6 ⊢
                    exact hK _ _ (keep_grownF hg6 (fun q hq => (ho.lt q hq).1)) trivial ⟨A', c', rfl, ho6⟩
                  simp only [Act.put, List.setIfInBounds_toArray, List.set_cons_zero, List.set_cons_succ, List.nil_append, List.cons_append, Nat.reduceAdd, Nat.zero_add]
                  iterate 7
                    apply Reg.SeqL.val
                    rotate_left 2
                    · intro δ W hW hkn K hK
                      obtain ⟨hc, hf, _⟩ := Reg.kcell hW
                      simp only [Act.put, List.setIfInBounds_toArray, List.set_cons_zero, List.set_cons_succ] at hK
                      unfold Reg.Does
                      go_simp
                      try simp only [IntWalk.i64_left]
                      first
                        | exact hK _ (Below.refl _ _)
                        | (trace_state; fail)
                    rotate_left 1
                    · intro δ δ' hd; first | rfl | (simp only [hd _ (show Reg.reach _ 12 _ _ = true by kernel_rfl)])
                    · intro x w; exact trivial
                    simp only [Act.put, List.setIfInBounds_toArray, List.set_cons_zero, List.set_cons_succ, List.nil_append, List.cons_append, Nat.reduceAdd, Nat.zero_add]
                  refine Reg.SeqL.eff (fun e h => ?_) (fun δ W5 hW5 hkn hT5 K hK => ?_) ?_
                  · simp only [List.getLast?_cons_cons, List.getLast?_singleton, Option.some.injEq] at h
                    subst h
                    kernel_rfl
                  · obtain ⟨Ax, cx, e18, ho⟩ := hT5
                    unfold Reg.Does
                    rw [if_pos (by rfl)]
                    refine wp_appG Try.underlying63 HI0.out hz0 hz1 hz2 rfl (by omega) (by omega) _ _ rfl rfl rfl ho (HS2.out.below (keepF hW5)) HA2.out (by omega) hW5.size ?_
                    intro A' c' w6 ho6 hg6 hat6
                    exact hK _ _ (keep_grownF hg6 (fun q hq => (ho.lt q hq).1)) trivial ⟨A', c', rfl, ho6⟩
                  simp only [Act.put, List.setIfInBounds_toArray, List.set_cons_zero, List.set_cons_succ, List.nil_append, List.cons_append, Nat.reduceAdd, Nat.zero_add]
                  iterate 2
                    apply Reg.SeqL.val
                    rotate_left 2
                    · intro δ W hW hkn K hK
                      obtain ⟨hc, hf, _⟩ := Reg.kcell hW
                      simp only [Act.put, List.setIfInBounds_toArray, List.set_cons_zero, List.set_cons_succ] at hK
                      unfold Reg.Does
                      go_simp
                      try simp only [IntWalk.i64_left]
                      first
                        | exact hK _ (Below.refl _ _)
                        | (trace_state; fail)
                    rotate_left 1
                    · intro δ δ' hd; first | rfl | (simp only [hd _ (show Reg.reach _ 12 _ _ = true by kernel_rfl)])
                    · intro x w; exact trivial
                    simp only [Act.put, List.setIfInBounds_toArray, List.set_cons_zero, List.set_cons_succ, List.nil_append, List.cons_append, Nat.reduceAdd, Nat.zero_add]
                  refine Reg.SeqL.fin (by kernel_rfl) (fun δ W5 hW5 hF hT5 K hK => ?_)
                  simp only [Act.put, List.setIfInBounds_toArray, List.set_cons_zero, List.set_cons_succ] at hK
                  obtain ⟨Ax, cx, e16, ho⟩ : ∃ Ax cx, δ 16 = .slice Ax (k + (R.ms.length - (k + 1))) cx ∧ W5.ownsRow WX.heap.size 69 3 (δ 16) (k + (R.ms.length - (k + 1))) (mc (R.ms.take k) ++ mc (R.ms.drop (k + 1))) := hT5
                  obtain ⟨kc, kf, _⟩ := Reg.kcell hW5
                  have k2 := (kc g 1 zk hno).trans (ck 1)
                  have kf2 := (kf g 1 zk hno).trans (fk 1)
                  have hb5 := keepF hW5
                  have HB5 := Lib.hid hb5
                  have zk5 := Nat.lt_of_lt_of_le zk hb5.size
                  rw [e16] at ho hK
                  have HO := Lib.hid ho
                  rw [e16]
                  have t2 := (kc wr.heap.size 2 zd hno2).trans (d0 2)
                  clear kc kf hF hW5 hb5 ho
                  unfold Reg.Does
                  go_simp
                  refine hK (.bool false) _ ?_
                  go_wp2_with fail
                  go_ret2
                  have q := H3.out.setl (W4 := W5) (lv' := .slice Ax (k + (R.ms.length - (k + 1))) cx) (ms' := R.ms.take k ++ R.ms.drop (k + 1)) ⟨HB5.out.os, HB5.out.tape, HB5.out.output, HB5.out.size, fun k hk _ => HB5.out.block k hk⟩ (fun k mk _ => HB5.out.block k (H3.out.bb k mk).2) (by
                    have hl : (R.ms.take k ++ R.ms.drop (k + 1)).length = k + (R.ms.length - (k + 1)) := by simp; omega
                    rw [hl, mc_app]
                    exact own_base HO.out hB3) (fun k e => .inr (HO.out.lt k e).1)
                  rw [HE.out]
                  exact ⟨rfl, _, AG.out, by simp; omega, by simp, _, ⟨_, _, q.1⟩, (Moved.below HWX.out).trans q.2⟩

                · obtain ⟨hin, hget, hag⟩ := HHit.out hyes
                  rw [HMT.out] at hget
                  have e : deliver d a b cn false true = ((mt, true), d) := by
                    unfold deliver delT delD
                    simp only [hin, Bool.true_eq_false, if_false, Bool.false_eq_true, Bool.or_false, Bool.not_false, Bool.not_true, Bool.true_or, Bool.false_or, if_true, Int.toNat_natCast, hget]
                  have HE := Lib.hid e
                  have AG := Lib.hid hag
                  clear hin hget e hag hyes
                  go_wp2_with fail
                  go_ret2
                  rw [HE.out]
                  exact ⟨rfl, R, HA.out, by omega, by omega, RPost.stay HR.out HWX.out⟩

              · obtain ⟨hin, hget, hag⟩ := HHit.out hyes
                rw [HMT.out] at hget
                have e : deliver d a b cn true again = (([], false), cutD d a b cn) := by
                  unfold deliver delT delD
                  simp only [hin, Bool.true_eq_false, if_false, Bool.false_eq_true, Bool.or_false, Bool.not_false, Bool.not_true, Bool.true_or, Bool.false_or, if_true, Int.toNat_natCast, hget]
                have HE := Lib.hid e
                have AG := Lib.hid hag
                obtain ⟨A1, hA1, E1, S1⟩ := run_toG (k := k) (ys := mc R.ms) msg_elem msg_size (A := some ⟨gq, 0, none⟩) (n := R.ms.length) (c := c) (fun e => by cases e) (by omega) hc
                obtain ⟨A2, hA2, E2, S2⟩ := run_fromG (k := k + 1) (ys := mc R.ms) msg_elem msg_size (A := some ⟨gq, 0, none⟩) (n := R.ms.length) (c := c) (fun e => by cases e) (by omega) hc
                have hsrc := SrcAt.own H3.out.row (mc_one _)
                have HS1 := Lib.hid (S1 WX hsrc)
                have HS2 := Lib.hid (S2 WX hsrc)
                rw [mc_take] at HS1
                rw [mc_drop] at HS2
                have HA1 := Lib.hid hA1
                have HA2 := Lib.hid hA2
                have hno : ¬ fromM WX.heap.size g := by unfold fromM; omega
                have hwr : IntKind.i64.wrap ((k : Int) + 1) = (k : Int) + 1 := IntWalk.i64_in _ (by omega)
                rw [show ((k + 1 : Nat) : Int) = (k : Int) + 1 from rfl] at E2
                have hB3 : B ≤ WX.heap.size := Nat.le_trans hB HWX.out.size
                obtain ⟨i0, hi0, hz0, hz1, hz2⟩ := info_parts info_msg
                have HI0 := Lib.hid hi0
                clear hin hget e hag S1 S2 hA1 hA2 hsrc hi0 hyes
                go_wp2_with fail
                refine Reg.wp_region_last (fromM WX.heap.size) (fun _ _ _ => True) (TwoT WX.heap.size 3 69 k (R.ms.length - (k + 1)) (mc (R.ms.take k)) (mc (R.ms.drop (k + 1)))) (by kernel_rfl) (by kernel_rfl) (fun _ _ _ _ _ _ => trivial) twoT_stays trivial ?_
                simp only
                iterate 1
                  apply Reg.SeqL.val
                  rotate_left 2
                  · intro δ W hW hkn K hK
                    obtain ⟨hc, hf, _⟩ := Reg.kcell hW
                    simp only [Act.put, List.setIfInBounds_toArray, List.set_cons_zero, List.set_cons_succ] at hK
                    unfold Reg.Does
                    go_simp
                    try simp only [IntWalk.i64_left]
                    first
                      | exact hK _ (Below.refl _ _)
                  rotate_left 1
                  · intro δ δ' hd; first | rfl | (simp only [hd _ (show Reg.reach _ 12 _ _ = true by kernel_rfl)])
                  · intro x w; exact trivial
                  simp only [Act.put, List.setIfInBounds_toArray, List.set_cons_zero, List.set_cons_succ, List.nil_append, List.cons_append, Nat.reduceAdd, Nat.zero_add]
                refine Reg.SeqL.eff (fun e h => by simp at h) (fun δ W5 hW5 hkn hT5 K hK => ?_) ?_
                · simp only [Act.put, List.setIfInBounds_toArray, List.set_cons_zero, List.set_cons_succ] at hK
                  unfold Reg.Does
                  go_simp
                  refine hK _ _ (Reg.Keep.ofBelow ((Below.refl _ _).alloc (Nat.le_refl _) _)) trivial ⟨_, 0, rfl, rfl, .inr ⟨W5.heap.size, 0, _, rfl, hW5.size, Reg.heap_new _ _, Nat.le_refl _, by unfold maxLen; omega, rfl, rfl⟩⟩
                simp only [Act.put, List.setIfInBounds_toArray, List.set_cons_zero, List.set_cons_succ, List.nil_append, List.cons_append, Nat.reduceAdd, Nat.zero_add]
                iterate 6
                  apply Reg.SeqL.val
                  rotate_left 2
                  · intro δ W hW hkn K hK
                    obtain ⟨hc, hf, _⟩ := Reg.kcell hW
                    simp only [Act.put, List.setIfInBounds_toArray, List.set_cons_zero, List.set_cons_succ] at hK
                    unfold Reg.Does
                    go_simp
                    try simp only [IntWalk.i64_left]
                    first
                      | exact hK _ (Below.refl _ _)
                      | (trace_state; fail)
                  rotate_left 1
                  · intro δ δ' hd; first | rfl | (simp only [hd _ (show Reg.reach _ 12 _ _ = true by kernel_rfl)])
                  · intro x w; exact trivial
                  simp only [Act.put, List.setIfInBounds_toArray, List.set_cons_zero, List.set_cons_succ, List.nil_append, List.cons_append, Nat.reduceAdd, Nat.zero_add]
                refine Reg.SeqL.eff (fun e h => ?_) (fun δ W5 hW5 hkn hT5 K hK => ?_) ?_
                · simp only [List.getLast?_singleton, Option.some.injEq] at h
                  subst h
                  kernel_rfl
                · obtain ⟨Ax, cx, e14, ho⟩ := hT5
                  unfold Reg.Does
                  rw [if_pos (by rfl)]
                  refine wp_appG Try.underlying63 HI0.out hz0 hz1 hz2 rfl (by omega) (by omega) _ _ rfl rfl rfl ho (HS1.out.below (keepF hW5)) HA1.out (by omega) hW5.size ?_
                  intro A' c' w6 ho6 hg6 hat6
                  rw [List.nil_append] at ho6
                  simp only [Nat.zero_add] at ho6 ⊢
                  exact hK _ _ (keep_grownF hg6 (fun q hq => (ho.lt q hq).1)) trivial ⟨A', c', rfl, ho6⟩
                simp only [Act.put, List.setIfInBounds_toArray, List.set_cons_zero, List.set_cons_succ, List.nil_append, List.cons_append, Nat.reduceAdd, Nat.zero_add]
                iterate 7
                  apply Reg.SeqL.val
                  rotate_left 2
                  · intro δ W hW hkn K hK
                    obtain ⟨hc, hf, _⟩ := Reg.kcell hW
                    simp only [Act.put, List.setIfInBounds_toArray, List.set_cons_zero, List.set_cons_succ] at hK
                    unfold Reg.Does
                    go_simp
                    try simp only [IntWalk.i64_left]
                    first
                      | exact hK _ (Below.refl _ _)
                      | (trace_state; fail)
                  rotate_left 1
                  · intro δ δ' hd; first | rfl | (simp only [hd _ (show Reg.reach _ 12 _ _ = true by kernel_rfl)])
                  · intro x w; exact trivial
                  simp only [Act.put, List.setIfInBounds_toArray, List.set_cons_zero, List.set_cons_succ, List.nil_append, List.cons_append, Nat.reduceAdd, Nat.zero_add]
                refine Reg.SeqL.eff (fun e h => ?_) (fun δ W5 hW5 hkn hT5 K hK => ?_) ?_
                · simp only [List.getLast?_cons_cons, List.getLast?_singleton, Option.some.injEq] at h
                  subst h
                  kernel_rfl
                · obtain ⟨Ax, cx, e18, ho⟩ := hT5
                  unfold Reg.Does
                  rw [if_pos (by rfl)]
                  refine wp_appG Try.underlying63 HI0.out hz0 hz1 hz2 rfl (by omega) (by omega) _ _ rfl rfl rfl ho (HS2.out.below (keepF hW5)) HA2.out (by omega) hW5.size ?_
                  intro A' c' w6 ho6 hg6 hat6
                  exact hK _ _ (keep_grownF hg6 (fun q hq => (ho.lt q hq).1)) trivial ⟨A', c', rfl, ho6⟩
                simp only [Act.put, List.setIfInBounds_toArray, List.set_cons_zero, List.set_cons_succ, List.nil_append, List.cons_append, Nat.reduceAdd, Nat.zero_add]
                iterate 2
                  apply Reg.SeqL.val
                  rotate_left 2
                  · intro δ W hW hkn K hK
                    obtain ⟨hc, hf, _⟩ := Reg.kcell hW
                    simp only [Act.put, List.setIfInBounds_toArray, List.set_cons_zero, List.set_cons_succ] at hK
                    unfold Reg.Does
                    go_simp
                    try simp only [IntWalk.i64_left]
                    first
                      | exact hK _ (Below.refl _ _)
                      | (trace_state; fail)
                  rotate_left 1
                  · intro δ δ' hd; first | rfl | (simp only [hd _ (show Reg.reach _ 12 _ _ = true by kernel_rfl)])
                  · intro x w; exact trivial
                  simp only [Act.put, List.setIfInBounds_toArray, List.set_cons_zero, List.set_cons_succ, List.nil_append, List.cons_append, Nat.reduceAdd, Nat.zero_add]
                refine Reg.SeqL.fin (by kernel_rfl) (fun δ W5 hW5 hF hT5 K hK => ?_)
                simp only [Act.put, List.setIfInBounds_toArray, List.set_cons_zero, List.set_cons_succ] at hK
                obtain ⟨Ax, cx, e16, ho⟩ : ∃ Ax cx, δ 16 = .slice Ax (k + (R.ms.length - (k + 1))) cx ∧ W5.ownsRow WX.heap.size 69 3 (δ 16) (k + (R.ms.length - (k + 1))) (mc (R.ms.take k) ++ mc (R.ms.drop (k + 1))) := hT5
                obtain ⟨kc, kf, _⟩ := Reg.kcell hW5
                have k2 := (kc g 1 zk hno).trans (ck 1)
                have kf2 := (kf g 1 zk hno).trans (fk 1)
                have hb5 := keepF hW5
                have HB5 := Lib.hid hb5
                have zk5 := Nat.lt_of_lt_of_le zk hb5.size
                rw [e16] at ho hK
                have HO := Lib.hid ho
                rw [e16]
                have t2 := (kc wr.heap.size 2 zd hno2).trans (d0 2)
                clear kc kf hF hW5 hb5 ho
                unfold Reg.Does
                go_simp
                refine hK (.bool false) _ ?_
                go_wp2_with fail
                go_ret2
                have q := H3.out.setl (W4 := W5) (lv' := .slice Ax (k + (R.ms.length - (k + 1))) cx) (ms' := R.ms.take k ++ R.ms.drop (k + 1)) ⟨HB5.out.os, HB5.out.tape, HB5.out.output, HB5.out.size, fun k hk _ => HB5.out.block k hk⟩ (fun k mk _ => HB5.out.block k (H3.out.bb k mk).2) (by
                  have hl : (R.ms.take k ++ R.ms.drop (k + 1)).length = k + (R.ms.length - (k + 1)) := by simp; omega
                  rw [hl, mc_app]
                  exact own_base HO.out hB3) (fun k e => .inr (HO.out.lt k e).1)
                rw [HE.out]
                exact ⟨rfl, _, AG.out, by simp; omega, by simp, _, ⟨_, _, q.1⟩, (Moved.below HWX.out).trans q.2⟩
            · have hwb : ((cn : Int) != which) = true := by simpa using hw
              have hcn := HCN.out
              rw [hyes] at hcn
              have HC := Lib.hid hcn
              have HWw := Lib.hid hw
              clear hyes hcn hw
              go_wp2_with fail
              exact ⟨⟨k + 1, by omega, by go_num, by rw [HC.out]; first | rfl | go_num, by rw [HC.out]; have := HWH.out; have := HWw.out; simp; omega, HWX.out⟩, by simp [intOf]; omega⟩

      · obtain rfl : k = R.ms.length := by omega
        have hm : inQ d a b which = false := HA.out.miss HOK.out (by have := HWH.out; rwa [List.take_of_length_le (Nat.le_refl _)] at this)
        have HE := Lib.hid (HMI.out hm)
        clear hR hm
        go_wp2_with fail
        go_ret2
        rw [HE.out]; exact ⟨rfl, R, HA.out, by omega, by omega, RPost.stay HR.out HW.out⟩

end N
end Go.Proofs.Ytklcpopnggiepaa
