/- Law 'NetLines': the walk. Printed by mkL51.py. -/
import Derived.Test.YtklcpopnggiepaaNp
import Derived.Test.YtklcpopnggiepaaNu
import Derived.Test.YtklcpopnggiepaaOv
import Derived.Deep.DeepCutAuto
set_option linter.unusedSimpArgs false
set_option linter.unusedVariables false
set_option maxRecDepth 100000
namespace Go.Proofs.Ytklcpopnggiepaa
open Go.RowKit
namespace N

def lineF (r : Value) : Nat → Value → World → Prop
  | 5, v, _ => v = r
  | _, _, _ => True
theorem lineF_stays (r : Value) (M : Nat → Prop) (d : Nat) (v : Value) (w w' : World) (h : lineF r d v w) (_ : Reg.Keep M w w') : lineF r d v w' := by
  unfold lineF at h ⊢
  split
  · simpa using h
  · trivial
/-- The second network, ahead of the call and behind it. -/
def lineT (w0 : World) (g : Nat) (d e : Nt) (M : Nat → Prop) (WX : World) : List Value → World → Prop
  | [], w => Tr w0 g d M w
  | _, w => ∃ M', Tr w0 g e M' w ∧ Moved M M' WX w
theorem lineT_stays (w0 : World) (g : Nat) (d e : Nt) (M : Nat → Prop) (WX : World) (vs : List Value) (w w' : World) (h : lineT w0 g d e M WX vs w) (hb : Below w.heap.size w w') : lineT w0 g d e M WX vs w' := by
  match vs, h with
  | [], h => exact Tr.below h hb
  | _ :: _, ⟨M', h, hm⟩ => exact ⟨M', h.below hb, hm.trans (Moved.below hb)⟩
theorem run_neq_same (e : Int) (t : Tx) (o : Bool) (w : World) : (binOp .neq 43 (.agg #[.int .i64 e, .string (str t), .bool o]) (.agg #[.int .i64 e, .string (str t), .bool o])).run Try.prog w = .ok (.bool false) w := by
  go_simp
theorem Few_wait {d : Nt} (h : Few d) (a b : Int) : (waiting d a b).length ≤ 100 := h.waiting a b
theorem Tr.to {w0 W W' : World} {g : Nat} {d : Nt} {M : Nat → Prop} (h : Tr w0 g d M W) (hb : Below W.heap.size W W') : Tr w0 g d M W' := h.below hb

set_option maxHeartbeats 16000000 in
theorem lines_walk (nodes : Int) (A : Option Addr) (c : Nat) (l : List SV) (a b : Int) (w : World) (hnd : -9223372036854775808 ≤ nodes ∧ nodes ≤ 9223372036854775807) (hs : StepsAt w A l) (hl : l.length ≤ 9223372036854775807) (hab64 : ∀ x ∈ l, B64 x.a ∧ B64 x.b)
    (h1 : -9223372036854775808 ≤ a ∧ a ≤ 9223372036854775807) (h2 : -9223372036854775808 ≤ b ∧ b ≤ 9223372036854775807) :
    Calls Try.prog 9 #[.int .i64 nodes, .slice A l.length c, .int .i64 a, .int .i64 b] w fun e w' => e = .returned (.bool true) ∧ Below w.heap.size w w' := by
  have HH := Lib.hid (head_any w)
  have HS := Lib.hid hs
  have HL := Lib.hid hl
  have HX := Lib.hid hab64
  have B1 : Hid (B64 a) := h1
  have B2 : Hid (B64 b) := h2
  clear hs hab64 h1 h2 hnd
  by_cases hn : 1 ≤ nodes ∧ nodes ≤ 8
  · obtain ⟨n1, n8⟩ := hn
    go_enter Try.func9, Try.ntmps9
    go_wp2_with fail
    (with_reducible refine HH.out.mono ?_); rintro e w1 ⟨rfl, hb1⟩
    have hnew := Lib.hid (tr_new (w0 := w) (W := w1) nodes n1 n8 hb1)
    clear hb1 HH
    go_wp2_with fail
    refine hnew.out.mono ?_
    rintro e W0 ⟨g, M0, rfl, ht0, hM0, _⟩
    have hnew2 := Lib.hid (tr_new (w0 := w) (W := W0) nodes n1 n8 ht0.low)
    have HT0 := Lib.hid ht0
    clear hnew ht0 hM0 n1 n8
    go_wp2_with fail
    refine hnew2.out.mono ?_
    rintro e W1 ⟨g2, M1, rfl, ht1, hM1, hb1⟩
    have hdis : ∀ j, M0 j → ¬ M1 j := fun j m m1 => by have := (HT0.out.lt j m).2; have := hM1 j m1; omega
    have HD0 := Lib.hid hdis
    have HT1 := Lib.hid ht1
    have HTa := Lib.hid (HT0.out.below hb1)
    have hf := Lib.hid (few_any A c l W1 (HS.out.below ht1.low) HL.out)
    clear hnew2 ht1 hM1 hb1 hdis HT0
    go_wp2_with fail
    (with_reducible refine hf.out.mono ?_); rintro e W2 ⟨rfl, hb2⟩
    have HTm := Lib.hid (HT1.out.below hb2)
    have HTn := Lib.hid (HTa.out.below hb2)
    clear hb2 HT1 HTa hf
    cases hfw : fewS l
    · have low := Lib.hid HTn.out.low
      clear HTn HTm
      go_wp2_with fail
      go_ret
      exact ⟨rfl, low.out⟩
    · by_cases hab : a = b
      · subst hab
        have low := Lib.hid HTn.out.low
        clear HTn HTm
        go_wp2_with fail
        go_ret
        exact ⟨rfl, low.out⟩
      · have hab' : (a == b) = false := by simpa using hab
        have Hab := Lib.hid hab
        clear hab hfw
        go_wp2_with fail
        go_loopw [14, 15] (fun cu i wr => ∃ (k : Nat) (M M2 : Nat → Prop) (d d' : Nt) (cut : Bool), k ≤ l.length ∧ i = .int .i64 k ∧ cu = .bool cut ∧ Tr w g d M wr ∧ Tr w g2 d' M2 wr ∧ (∀ j, M j → ¬ M2 j) ∧ Pair a b d d' ∧ (cut = true → Shut a b d)) (fun _ i _ => l.length - (intOf i).toNat)
        case atStart => exact ⟨0, M0, M1, _, _, false, Nat.zero_le _, rfl, rfl, HTn.out, HTm.out, HD0.out, Pair.refl _ _ _, fun h => by cases h⟩
        case round =>
          obtain ⟨k, M, M2, d, d', cut, hk, rfl, rfl, htn, htm, hdj, hpr, hsh⟩ := hrel
          clear HTn HTm HD0
          by_cases hlt : k < l.length
          · obtain ⟨bs, off, hA, hbs, c0, c1, c2, c3, c4, c5, c6⟩ := (HS.out.below htn.low).get k hlt
            have hki : (k : Int) < (l.length : Int) := by omega
            have hk0 : (0 : Int) ≤ (k : Int) := by omega
            have hx64 := HX.out l[k] (List.getElem_mem hlt)
            have hbw : bs < w.heap.size := by
              obtain ⟨bs', off', e, h, _⟩ := HS.out k hlt
              rw [hA] at e
              injection e with e
              injection e with e
              omega
            have Q := tr_do l[k] hx64.1 hx64.2 htn
            have hb1 : ∀ j, M j → j ≠ bs := fun j m e => by have := (htn.lt j m).1; omega
            have hst := HS.out
            obtain ⟨X, hX⟩ : ∃ X, X = l[k] := ⟨_, rfl⟩
            rw [← hX] at Q hx64
            obtain ⟨kind, xa, xb, xn, xt, xl, xg⟩ := X
            simp only at hx64
            have HX' := Lib.hid hX
            rw [← hX] at c0 c1 c2 c3 c4 c5 c6
            simp only at c0 c1 c2 c3 c4 c5 c6
            unfold stepV at Q
            simp only at Q
            have HQ := Lib.hid Q
            have HTn := Lib.hid htn
            have HTm := Lib.hid htm
            have HP := Lib.hid hpr
            have HDJ := Lib.hid hdj
            have HSH := Lib.hid hsh
            have HB1 := Lib.hid hb1
            clear htn htm hdj hpr hsh hX Q hst hb1
            subst hA
            go_wp2_with fail
            refine HQ.out.mono ?_
            rintro e W3 ⟨rfl, M3, ht3, hm3⟩
            obtain ⟨r, hr⟩ : ∃ r, r = (doN d ⟨kind, xa, xb, xn, xt, xl, xg⟩).1 := ⟨_, rfl⟩
            rw [← hr]
            obtain ⟨re, rt, ro⟩ := r
            unfold resV
            simp only
            have HR := Lib.hid hr
            clear hr
            go_upto_region 11 with fail
            obtain ⟨WX, hWX⟩ : ∃ WX, WX = W3.alloc (.cells #[.int .i64 re, .string (str rt), .bool ro] 43) := ⟨_, rfl⟩
            have blk : Reg.Blk W3.heap.size #[.int .i64 re, .string (str rt), .bool ro] 43 WX := hWX ▸ Reg.Blk.new _ _ _
            have hbx : Below W3.heap.size W3 WX := hWX ▸ ((Below.refl _ _).alloc (Nat.le_refl _) _)
            have hby := HTn.out.beside HTm.out HDJ.out hm3 ht3.low
            have htx := ht3.below hbx
            have hty := hby.1.below hbx
            obtain ⟨bs', off', hA', hbs', e0, e1, e2, e3, e4, e5, e6⟩ := (HS.out.below htx.low).get k hlt
            injection hA' with hA'
            injection hA' with hA1 hA2
            subst hA1 hA2
            rw [← HX'.out] at e0 e1 e2 e3 e4 e5 e6
            simp only at e0 e1 e2 e3 e4 e5 e6
            have gn1 : ¬ M2 bs := fun m => by have := (HTm.out.lt _ m).1; omega
            have gn2 : ¬ M2 W3.heap.size := fun m => by have := (hby.1.lt _ m).2; omega
            obtain ⟨r0, rf, rlt⟩ := blk.facts
            rw [← hWX]
            have HTX := Lib.hid htx
            have HTY := Lib.hid hty
            have HDX := Lib.hid hby.2
            have HBK := Lib.hid blk
            have G1 := Lib.hid gn1
            have G2 := Lib.hid gn2
            have HRow := Lib.hid (show ∃ q, q = W3.heap.size from ⟨_, rfl⟩)
            generalize W3.heap.size = gx at *
            clear ht3 hm3 hWX blk hbx hby htx hty HQ HTn HTm HDJ c0 c1 c2 c3 c4 c5 c6 hbs HRow HB1 gn1 gn2
            obtain ⟨V, hV⟩ : ∃ V, onS a b ⟨kind, xa, xb, xn, xt, xl, xg⟩ = V := ⟨_, rfl⟩
            have HV := Lib.hid hV
            go_cut [90] (fun v wx => v = .bool V ∧ wx = WX)
            case first =>
              have hV' : V = ((xa == a && xb == b) || (xa == b && xb == a)) := hV.symm
              clear hV
              cases hp1 : (xa == a)
              · cases hp3 : (xa == b)
                · rw [hp1, hp3] at hV'
                  subst hV'
                  go_wp2_with fail
                  go_meet
                  exact ⟨rfl, rfl⟩
                · cases hp4 : (xb == a)
                  · rw [hp1, hp3, hp4] at hV'
                    subst hV'
                    go_wp2_with fail
                    go_meet
                    exact ⟨rfl, rfl⟩
                  · rw [hp1, hp3, hp4] at hV'
                    subst hV'
                    go_wp2_with fail
                    go_meet
                    exact ⟨rfl, rfl⟩
              · have hp3 : (xa == b) = false := by
                  rw [beq_eq_false_iff_ne]
                  have := Hab.out
                  rw [beq_iff_eq] at hp1
                  omega
                cases hp2 : (xb == b)
                · rw [hp1, hp2, hp3] at hV'
                  subst hV'
                  go_wp2_with fail
                  go_meet
                  exact ⟨rfl, rfl⟩
                · rw [hp1, hp2, hp3] at hV'
                  subst hV'
                  go_wp2_with fail
                  go_meet
                  exact ⟨rfl, rfl⟩
            case rest =>
              obtain ⟨rfl, rfl⟩ := hcut
              clear hV
              go_upto_if 90 with fail
              go_cut [14] (fun v wx => ∃ (N1 N2 : Nat → Prop) (d2 : Nt) (cut2 : Bool), v = .bool cut2 ∧ Tr w g (doN d ⟨kind, xa, xb, xn, xt, xl, xg⟩).2 N1 wx ∧ Tr w g2 d2 N2 wx ∧ (∀ j, N1 j → ¬ N2 j) ∧ Pair a b (doN d ⟨kind, xa, xb, xn, xt, xl, xg⟩).2 d2 ∧ (cut2 = true → Shut a b (doN d ⟨kind, xa, xb, xn, xt, xl, xg⟩).2))
              case first =>
                cases V
                · go_wp2_with fail
                  go_meet
                  exact ⟨M3, M2, d', cut, rfl, HTX.out, HTY.out, HDX.out, HP.out.off HV.out, shut_off HSH.out HV.out⟩
                · go_upto_region 12 with fail
                  refine Reg.wp_region_eff M2 (lineF (.agg #[.int .i64 re, .string (str rt), .bool ro])) (lineT w g2 d' (doN d' ⟨kind, xa, xb, xn, xt, xl, xg⟩).2 M2 wc) (by kernel_rfl) (by kernel_rfl) (fun _ _ _ _ h k => lineF_stays _ _ _ _ _ _ h k) (fun _ _ _ h k => lineT_stays _ _ _ _ _ _ _ _ _ h k) (HTY.out.below (Below.refl _ _).drew) ?_
                  simp only
                  have n1 := G1.out
                  have n2 := G2.out
                  iterate 5
                    apply Reg.SeqE.val
                    rotate_left 2
                    · intro δ W hW hkn K hK
                      obtain ⟨hc, hf, _⟩ := Reg.kcell hW
                      simp only [Act.put, List.setIfInBounds_toArray, List.set_cons_zero, List.set_cons_succ] at hK
                      unfold Reg.Does
                      go_simp
                      try simp only [IntWalk.i64_left]
                      first
                        | exact hK _ (Below.refl _ _)
                    rotate_left 1
                    · intro δ δ' hd; first | rfl | (simp only [hd _ (show Reg.reach _ 12 _ _ = true by kernel_rfl)])
                    · intro x w; exact trivial
                    simp only [Act.put, List.setIfInBounds_toArray, List.set_cons_zero, List.set_cons_succ, List.nil_append, List.cons_append, Nat.reduceAdd, Nat.zero_add]
                  refine Reg.SeqE.eff (fun e h => by simp at h) (fun δ W5 hW5 hkn hT5 K hK => ?_) ?_
                  · have q2 := tr_do (w0 := w) ⟨kind, xa, xb, xn, xt, xl, xg⟩ hx64.1 hx64.2 (show Tr w g2 d' M2 W5 from hT5)
                    rw [← (HP.out.on HV.out).1, ← HR.out] at q2
                    unfold stepV resV at q2
                    simp only at q2
                    have Q2 := Lib.hid q2
                    have hlt5 := (HTY.out).lt
                    have HLT := Lib.hid hlt5
                    clear q2 hT5 hlt5
                    simp only [Act.put, List.setIfInBounds_toArray, List.set_cons_zero, List.set_cons_succ] at hK
                    unfold Reg.Does
                    go_simp
                    refine Q2.out.mono ?_
                    rintro e w6 ⟨rfl, M6, ht6, hm6⟩
                    exact hK _ _ hm6.keep rfl ⟨M6, ht6, ⟨⟨hm6.keep.os.trans hW5.os, hm6.keep.tape.trans hW5.tape, hm6.keep.output.trans hW5.output, Nat.le_trans hW5.size hm6.keep.size, fun q hq hn => (hm6.keep.block q (Nat.lt_of_lt_of_le hq hW5.size) hn).trans (hW5.block q hq hn)⟩, fun q hq => (hm6.sub q hq).imp id fun h => Nat.le_trans hW5.size h⟩⟩
                  simp only [Act.put, List.setIfInBounds_toArray, List.set_cons_zero, List.set_cons_succ, List.nil_append, List.cons_append, Nat.reduceAdd, Nat.zero_add]
                  iterate 1
                    apply Reg.SeqE.val
                    rotate_left 2
                    · intro δ W hW hkn K hK
                      obtain ⟨hc, hf, _⟩ := Reg.kcell hW
                      simp only [Act.put, List.setIfInBounds_toArray, List.set_cons_zero, List.set_cons_succ] at hK
                      unfold Reg.Does
                      go_simp
                      try simp only [IntWalk.i64_left]
                      first
                        | exact hK _ (Below.refl _ _)
                    rotate_left 1
                    · intro δ δ' hd; first | rfl | (simp only [hd _ (show Reg.reach _ 12 _ _ = true by kernel_rfl)])
                    · intro x w; exact trivial
                    simp only [Act.put, List.setIfInBounds_toArray, List.set_cons_zero, List.set_cons_succ, List.nil_append, List.cons_append, Nat.reduceAdd, Nat.zero_add]
                  refine Reg.SeqE.val (fun δ => .bool false) (fun δ δ' hd => rfl) (fun _ _ => trivial) (fun δ W5 hW5 hkn K hK => ?_) ?_
                  · have e5 : δ 5 = .agg #[.int .i64 re, .string (str rt), .bool ro] := hkn 5 (by kernel_rfl)
                    have hne := run_neq_same re rt ro
                    simp only [Act.put, List.setIfInBounds_toArray, List.set_cons_zero, List.set_cons_succ] at hK
                    rw [e5] at hK
                    unfold Reg.Does
                    rw [e5]
                    go_simp
                    exact hK _ (Below.refl _ _)
                  simp only [Act.put, List.setIfInBounds_toArray, List.set_cons_zero, List.set_cons_succ, List.nil_append, List.cons_append, Nat.reduceAdd, Nat.zero_add]
                  refine Reg.SeqE.nil (fun δ W5 hW5 hF hT5 => ?_)
                  obtain ⟨M6, ht6, hm6⟩ : ∃ M', Tr w g2 (doN d' ⟨kind, xa, xb, xn, xt, xl, xg⟩).2 M' W5 ∧ Moved M2 M' wc W5 := hT5
                  obtain ⟨kc, kf, _⟩ := Reg.kcell hW5
                  have kb := hm6.blk HBK.out n2
                  obtain ⟨s0, sf, slt⟩ := kb.facts
                  have t0 := (kc bs (off + k * 7) hbs' n1).trans e0
                  have hbs5 := Nat.lt_of_lt_of_le hbs' hW5.size
                  have hby := HTY.out.beside HTX.out (fun q m m2 => HDX.out q m2 m) hm6 ht6.low
                  have HT6 := Lib.hid ht6
                  have HT7 := Lib.hid hby.1
                  have HD7 := Lib.hid hby.2
                  have HP7 := Lib.hid (HP.out.on HV.out).2
                  have hsq := shut_on HSH.out HV.out
                  rw [← HR.out] at hsq
                  have HSQ := Lib.hid hsq
                  clear hm6 ht6 hby hsq kc kf kb hF hW5 e0 e1 e2 e3 e4 e5 e6 r0 rf rlt n1 n2 hbs'
                  cases cut
                  · cases k2 : (kind == 2)
                    · go_wp2_with fail
                      go_meet
                      refine ⟨M3, M6, _, _, rfl, HT7.out, HT6.out, fun q m m2 => HD7.out q m2 m, HP7.out, fun hh => HSQ.out ?_⟩
                      first
                        | exact absurd hh Bool.false_ne_true
                        | (unfold cutS; simp_all)
                    · obtain rfl : kind = 2 := by simpa using k2
                      cases ke : (re == 0)
                      · have hne : (re != 0) = true := by unfold bne; rw [ke]; rfl
                        go_wp2_with fail
                        go_meet
                        refine ⟨M3, M6, _, _, rfl, HT7.out, HT6.out, fun q m m2 => HD7.out q m2 m, HP7.out, fun hh => HSQ.out ?_⟩
                        first
                          | exact absurd hh Bool.false_ne_true
                          | (unfold cutS; simp_all)
                      · have hne : (re != 0) = false := by unfold bne; rw [ke]; rfl
                        go_wp2_with fail
                        go_meet
                        refine ⟨M3, M6, _, _, rfl, HT7.out, HT6.out, fun q m m2 => HD7.out q m2 m, HP7.out, fun hh => HSQ.out ?_⟩
                        first
                          | exact absurd hh Bool.false_ne_true
                          | (unfold cutS; simp_all)
                  · cases k2 : (kind == 2)
                    · cases k0 : (kind == 0)
                      · cases k1 : (kind == 1)
                        · cases ke : (re == 0)
                          · have hne : (re != 0) = true := by unfold bne; rw [ke]; rfl
                            go_wp2_with fail
                            go_meet
                            refine ⟨M3, M6, _, _, rfl, HT7.out, HT6.out, fun q m m2 => HD7.out q m2 m, HP7.out, fun hh => HSQ.out ?_⟩
                            first
                              | exact absurd hh Bool.false_ne_true
                              | (unfold cutS; simp_all)
                          · have hne : (re != 0) = false := by unfold bne; rw [ke]; rfl
                            go_wp2_with fail
                            go_meet
                            refine ⟨M3, M6, _, _, rfl, HT7.out, HT6.out, fun q m m2 => HD7.out q m2 m, HP7.out, fun hh => HSQ.out ?_⟩
                            first
                              | exact absurd hh Bool.false_ne_true
                              | (unfold cutS; simp_all)
                        · go_wp2_with fail
                          go_meet
                          refine ⟨M3, M6, _, _, rfl, HT7.out, HT6.out, fun q m m2 => HD7.out q m2 m, HP7.out, fun hh => HSQ.out ?_⟩
                          first
                            | exact absurd hh Bool.false_ne_true
                            | (unfold cutS; simp_all)
                      · go_wp2_with fail
                        go_meet
                        refine ⟨M3, M6, _, _, rfl, HT7.out, HT6.out, fun q m m2 => HD7.out q m2 m, HP7.out, fun hh => HSQ.out ?_⟩
                        first
                          | exact absurd hh Bool.false_ne_true
                          | (unfold cutS; simp_all)
                    · obtain rfl : kind = 2 := by simpa using k2
                      cases ke : (re == 0)
                      · have hne : (re != 0) = true := by unfold bne; rw [ke]; rfl
                        go_wp2_with fail
                        go_meet
                        refine ⟨M3, M6, _, _, rfl, HT7.out, HT6.out, fun q m m2 => HD7.out q m2 m, HP7.out, fun hh => HSQ.out ?_⟩
                        first
                          | exact absurd hh Bool.false_ne_true
                          | (unfold cutS; simp_all)
                      · have hne : (re != 0) = false := by unfold bne; rw [ke]; rfl
                        go_wp2_with fail
                        go_meet
                        refine ⟨M3, M6, _, _, rfl, HT7.out, HT6.out, fun q m m2 => HD7.out q m2 m, HP7.out, fun hh => HSQ.out ?_⟩
                        first
                          | exact absurd hh Bool.false_ne_true
                          | (unfold cutS; simp_all)
              case rest =>
                obtain ⟨N1, N2, d2, cut2, rfl, htn, htm, hdj, hpr, hsh⟩ := hcut
                clear e0 e1 e2 e3 e4 e5 e6 r0 rf rlt HTX HTY HDX HBK HP HSH HR
                generalize (doN d ⟨kind, xa, xb, xn, xt, xl, xg⟩).2 = d1 at *
                cases cut2
                · have HTn := Lib.hid htn
                  have HTm := Lib.hid htm
                  have HP := Lib.hid hpr
                  have HD := Lib.hid hdj
                  clear htn htm hpr hdj hsh
                  go_wp2_with fail
                  exact ⟨⟨k + 1, N1, N2, d1, d2, false, by omega, by go_num, rfl, HTn.out, HTm.out, HD.out, HP.out, fun h => by cases h⟩, by simp [intOf]; omega⟩
                · have hwt := (hsh rfl).wait
                  have qa := tr_waiting a b B1.out B2.out htn
                  rw [hwt.1] at qa
                  have QA := Lib.hid qa
                  have HWT := Lib.hid hwt.2
                  have HTn := Lib.hid htn
                  have HTm := Lib.hid htm
                  have HP := Lib.hid hpr
                  have HD := Lib.hid hdj
                  have HS2 := Lib.hid hsh
                  clear htn htm hpr hdj hsh hwt qa
                  go_wp2_with fail
                  refine QA.out.mono ?_
                  rintro e W6 ⟨A6, c6, rfl, _, hb6⟩
                  have HTn6 := Lib.hid (HTn.out.below hb6)
                  have HTm6 := Lib.hid (HTm.out.below hb6)
                  have qb := tr_waiting b a B2.out B1.out HTn6.out
                  rw [HWT.out] at qb
                  have QB := Lib.hid qb
                  clear qb hb6 QA HTn HTm
                  go_wp2_with fail
                  refine QB.out.mono ?_
                  rintro e W7 ⟨A7, c7, rfl, _, hb7⟩
                  have HTn7 := Lib.hid (HTn6.out.below hb7)
                  have HTm7 := Lib.hid (HTm6.out.below hb7)
                  clear hb7 QB HTn6 HTm6
                  go_wp2_with fail
                  exact ⟨⟨k + 1, N1, N2, d1, d2, true, by omega, by go_num, rfl, HTn7.out, HTm7.out, HD.out, HP.out, fun _ => HS2.out trivial⟩, by simp [intOf]; omega⟩
          · obtain rfl : k = l.length := by omega
            have HTn := Lib.hid htn
            have HTm := Lib.hid htm
            have HP := Lib.hid hpr.wait
            have HDJ := Lib.hid hdj
            have HL1 := Lib.hid (Nat.le_trans (Few_wait (htn.few) a b) (by omega : 100 ≤ 9223372036854775807))
            have HL2 := Lib.hid (Nat.le_trans (Few_wait (htn.few) b a) (by omega : 100 ≤ 9223372036854775807))
            have QA := Lib.hid (tr_waiting a b B1.out B2.out htn)
            clear htn htm hdj hpr hsh
            go_wp2_with fail
            refine QA.out.mono ?_
            rintro e V1 ⟨A1, c1, rfl, ro1, hb1⟩
            have HTm1 := Lib.hid (HTm.out.below hb1)
            have HTn1 := Lib.hid (HTn.out.below hb1)
            have R1 := Lib.hid ro1
            have qb := tr_waiting a b B1.out B2.out HTm1.out
            rw [← HP.out.1] at qb
            have QB := Lib.hid qb
            clear hb1 ro1 qb QA HTn HTm
            go_wp2_with fail
            refine QB.out.mono ?_
            rintro e V2 ⟨A2, c2, rfl, ro2, hb2⟩
            have hsm := same_rows (own_below R1.out hb2) ro2 rfl rfl HL1.out
            rw [show (waiting d a b == waiting d a b) = true by simp] at hsm
            have HTm2 := Lib.hid (HTm1.out.below hb2)
            have HTn2 := Lib.hid (HTn1.out.below hb2)
            have HSM := Lib.hid hsm
            clear hsm hb2 ro2 R1 QB HTm1 HTn1
            go_wp2_with fail
            (with_reducible refine HSM.out.mono ?_); rintro e V3 ⟨rfl, hb3⟩
            have HTm3 := Lib.hid (HTm2.out.below hb3)
            have HTn3 := Lib.hid (HTn2.out.below hb3)
            have QC := Lib.hid (tr_waiting b a B2.out B1.out HTn3.out)
            clear hb3 HSM HTm2 HTn2
            go_wp2_with fail
            refine QC.out.mono ?_
            rintro e V4 ⟨A4, c4, rfl, ro4, hb4⟩
            have HTm4 := Lib.hid (HTm3.out.below hb4)
            have HTn4 := Lib.hid (HTn3.out.below hb4)
            have R4 := Lib.hid ro4
            have qd := tr_waiting b a B2.out B1.out HTm4.out
            rw [← HP.out.2] at qd
            have QD := Lib.hid qd
            clear hb4 ro4 qd QC HTn3 HTm3
            go_wp2_with fail
            refine QD.out.mono ?_
            rintro e V5 ⟨A5, c5, rfl, ro5, hb5⟩
            have hsm := same_rows (own_below R4.out hb5) ro5 rfl rfl HL2.out
            rw [show (waiting d b a == waiting d b a) = true by simp] at hsm
            have HTn5 := Lib.hid (HTn4.out.below hb5)
            have HSM := Lib.hid hsm
            clear hsm hb5 ro5 R4 QD HTm4 HTn4
            go_wp2_with fail
            (with_reducible refine HSM.out.mono ?_); rintro e V6 ⟨rfl, hb6⟩
            have low := Lib.hid ((HTn5.out.below hb6).low)
            clear hb6 HSM HTn5
            go_wp2_with fail
            go_ret
            exact ⟨rfl, low.out⟩
  · have hn' : nodes < 1 ∨ 8 < nodes := by omega
    have HN := Lib.hid hn'
    clear hn hn'
    go_enter Try.func9, Try.ntmps9
    go_wp2_with fail
    (with_reducible refine HH.out.mono ?_); rintro e w1 ⟨rfl, hb1⟩
    have LB := Lib.hid hb1
    have Q1 := Lib.hid (new_no nodes HN.out w1)
    clear hb1 HH
    go_wp2_with fail
    (with_reducible refine Q1.out.mono ?_); rintro e w2 ⟨rfl, hb2⟩
    have LB2 := Lib.hid (LB.out.trans (hb2.mono LB.out.size))
    have Q2 := Lib.hid (new_no nodes HN.out w2)
    clear hb2 Q1 LB
    go_wp2_with fail
    (with_reducible refine Q2.out.mono ?_); rintro e w3 ⟨rfl, hb3⟩
    have LB3 := Lib.hid (LB2.out.trans (hb3.mono LB2.out.size))
    have hf := Lib.hid (few_any A c l w3 (HS.out.below LB3.out) HL.out)
    clear hb3 Q2 LB2
    go_wp2_with fail
    (with_reducible refine hf.out.mono ?_); rintro e w4 ⟨rfl, hb4⟩
    have LB4 := Lib.hid (LB3.out.trans (hb4.mono LB3.out.size))
    clear hb4 hf LB3
    cases hfw : fewS l
    · go_wp2_with fail
      go_ret
      exact ⟨rfl, LB4.out⟩
    · go_wp2_with fail
      go_ret
      exact ⟨rfl, LB4.out⟩


end N
end Go.Proofs.Ytklcpopnggiepaa
