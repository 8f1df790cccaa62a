/- Seals, the reference: 'Verify'. Printed by mkYd.py. -/
import Derived.Test.YthdjdlndfkemiaaGreatDoorWy
import Derived.Test.YthdjdlndfkemiaaGreatDoorWa
set_option linter.unusedSimpArgs false
set_option linter.unusedVariables false
set_option maxRecDepth 100000
namespace Go.Proofs.YthdjdlndfkemiaaGreatDoor
open Go.RowKit
namespace S

theorem does_app2y {ops : Array Oper} {o : Oper} {a : Act} {K : Act → World → Prop} {w0 w : World} (hw : Region.wanted o (yielded ops a.tmps) = true) (s x : Operand) (ho : o.op = .call { callee := .builtin .append, args := #[s, x], argTypes := #[27, 27] }) (hty : o.type = 27)
    {A0 A : Option Addr} {B c0 n c : Nat} {L M : List Tx} (hs : a.eval s = .slice A0 L.length c0) (hx : a.eval x = .slice A n c) (hown : Own B w (.slice A0 L.length c0) L) (hm : Lst w A n c M) (hn : L.length + n ≤ 1000000) (hB : Below B w0 w) (hBw : B ≤ w.heap.size)
    (hk : ∀ A' c' w', Own B w' (.slice A' (L ++ M).length c') (L ++ M) → Below B w0 w' → K (a.put o.dst (.slice A' (L ++ M).length c')) w') : Reg.Does Tryz.prog ops o a w K := by
  obtain ⟨A', c', w', hr, h2, h3⟩ := app2 hown hm hn hB hBw
  unfold Ap.appA at hr
  unfold Reg.Does
  rw [if_pos hw]
  unfold Oper.wp execOp
  simp only [ho, hty, resolve, invoke, builtin, Sem.run_bind, Sem.run_pure, Result.andThen_ok, List.map_toArray, List.map_cons, List.map_nil, hs, hx, hr]
  exact hk A' c' w' h2 h3

set_option maxHeartbeats 4000000 in
theorem rver_no1 (pub m : ByteArray) (i : Int) (A B : Option Addr) (n c k d : Nat) (w : World) (hn : n ≠ 18) :
    Calls Tryz.prog 19 #[.string pub, .string m, .agg #[.int .i64 i, .slice A n c, .slice B k d]] w fun e w' => e = .returned (.bool false) ∧ Below w.heap.size w w' := by
  have e18 : ((n : Int) == 18) = false := by rw [beq_eq_false_iff_ne]; omega
  have e19 : ((n : Int) != 18) = true := by rw [bne_iff_ne]; omega
  have e17 : ¬ (n : Int) = 18 := by omega
  have kb := Reg.Blk.new w #[.int .i64 i, .slice A n c, .slice B k d] 29
  have hal : Below w.heap.size w (w.alloc (.cells #[.int .i64 i, .slice A n c, .slice B k d] 29)) := (Below.refl _ _).alloc (Nat.le_refl _) _
  obtain ⟨kc, kf, kz⟩ := kb.facts
  go_enter Tryz.func19, Tryz.ntmps19
  go_wp2_with fail
  have HAL := Lib.hid hal
  generalize w.alloc (.cells #[.int .i64 i, .slice A n c, .slice B k d] 29) = W0 at *
  clear hal kb
  refine Reg.wp_region_seq (by kernel_rfl) (by kernel_rfl) ?_
  simp only
  iterate 24
    apply Reg.SeqOK.val
    · intro γ W hW K hK
      obtain ⟨hc, hf, _⟩ := bcell hW
      simp only [Act.put, List.setIfInBounds_toArray, List.set_cons_zero, List.set_cons_succ] at hK
      unfold Reg.Does
      go_simp
      try simp only [IntWalk.i64_left]
      first
        | exact hK _ (Below.refl _ _)
        | (trace_state; fail)
    simp only [Act.put, List.setIfInBounds_toArray, List.set_cons_zero, List.set_cons_succ, List.nil_append, List.cons_append, Nat.reduceAdd, Nat.zero_add]
  refine Reg.SeqOK.nil (by kernel_rfl) (fun γ W1 hW _ _ _ => ?_)
  have HW1 := Lib.hid (HAL.out.trans (hW.mono HAL.out.size))
  clear hW
  go_wp2_with fail
  go_ret
  exact ⟨rfl, HW1.out⟩
set_option maxHeartbeats 4000000 in
theorem rver_no2 (pub m : ByteArray) (i : Int) (A B : Option Addr) (c k d : Nat) (w : World) (hk : 8 < k) :
    Calls Tryz.prog 19 #[.string pub, .string m, .agg #[.int .i64 i, .slice A 18 c, .slice B k d]] w fun e w' => e = .returned (.bool false) ∧ Below w.heap.size w w' := by
  have e8 : decide ((8 : Int) < (k : Int)) = true := decide_eq_true (by omega)
  have kb := Reg.Blk.new w #[.int .i64 i, .slice A 18 c, .slice B k d] 29
  have hal : Below w.heap.size w (w.alloc (.cells #[.int .i64 i, .slice A 18 c, .slice B k d] 29)) := (Below.refl _ _).alloc (Nat.le_refl _) _
  obtain ⟨kc, kf, kz⟩ := kb.facts
  go_enter Tryz.func19, Tryz.ntmps19
  go_wp2_with fail
  have HAL := Lib.hid hal
  generalize w.alloc (.cells #[.int .i64 i, .slice A 18 c, .slice B k d] 29) = W0 at *
  clear hal kb
  refine Reg.wp_region_seq (by kernel_rfl) (by kernel_rfl) ?_
  simp only
  iterate 24
    apply Reg.SeqOK.val
    · intro γ W hW K hK
      obtain ⟨hc, hf, _⟩ := bcell hW
      simp only [Act.put, List.setIfInBounds_toArray, List.set_cons_zero, List.set_cons_succ] at hK
      unfold Reg.Does
      go_simp
      try simp only [IntWalk.i64_left]
      first
        | exact hK _ (Below.refl _ _)
        | (trace_state; fail)
    simp only [Act.put, List.setIfInBounds_toArray, List.set_cons_zero, List.set_cons_succ, List.nil_append, List.cons_append, Nat.reduceAdd, Nat.zero_add]
  refine Reg.SeqOK.nil (by kernel_rfl) (fun γ W1 hW _ _ _ => ?_)
  have HW1 := Lib.hid (HAL.out.trans (hW.mono HAL.out.size))
  clear hW
  go_wp2_with fail
  go_ret
  exact ⟨rfl, HW1.out⟩
set_option maxHeartbeats 4000000 in
theorem rver_no3 (pub m : ByteArray) (i : Int) (A B : Option Addr) (c k d : Nat) (w : World) (hk : k ≤ 8) (hi : i < 0) :
    Calls Tryz.prog 19 #[.string pub, .string m, .agg #[.int .i64 i, .slice A 18 c, .slice B k d]] w fun e w' => e = .returned (.bool false) ∧ Below w.heap.size w w' := by
  have e8 : decide ((8 : Int) < (k : Int)) = false := decide_eq_false (by omega)
  have ei : decide (i < 0) = true := decide_eq_true hi
  have kb := Reg.Blk.new w #[.int .i64 i, .slice A 18 c, .slice B k d] 29
  have hal : Below w.heap.size w (w.alloc (.cells #[.int .i64 i, .slice A 18 c, .slice B k d] 29)) := (Below.refl _ _).alloc (Nat.le_refl _) _
  obtain ⟨kc, kf, kz⟩ := kb.facts
  go_enter Tryz.func19, Tryz.ntmps19
  go_wp2_with fail
  have HAL := Lib.hid hal
  generalize w.alloc (.cells #[.int .i64 i, .slice A 18 c, .slice B k d] 29) = W0 at *
  clear hal kb
  refine Reg.wp_region_seq (by kernel_rfl) (by kernel_rfl) ?_
  simp only
  iterate 24
    apply Reg.SeqOK.val
    · intro γ W hW K hK
      obtain ⟨hc, hf, _⟩ := bcell hW
      simp only [Act.put, List.setIfInBounds_toArray, List.set_cons_zero, List.set_cons_succ] at hK
      unfold Reg.Does
      go_simp
      try simp only [IntWalk.i64_left]
      first
        | exact hK _ (Below.refl _ _)
        | (trace_state; fail)
    simp only [Act.put, List.setIfInBounds_toArray, List.set_cons_zero, List.set_cons_succ, List.nil_append, List.cons_append, Nat.reduceAdd, Nat.zero_add]
  refine Reg.SeqOK.nil (by kernel_rfl) (fun γ W1 hW _ _ _ => ?_)
  have HW1 := Lib.hid (HAL.out.trans (hW.mono HAL.out.size))
  clear hW
  go_wp2_with fail
  go_ret
  exact ⟨rfl, HW1.out⟩
set_option maxHeartbeats 4000000 in
theorem rver_no4 (pub m : ByteArray) (i : Int) (A B : Option Addr) (c k d : Nat) (w : World) (hk : k ≤ 8) (hi0 : 0 ≤ i) (hi : ((2 ^ k : Nat) : Int) ≤ i) :
    Calls Tryz.prog 19 #[.string pub, .string m, .agg #[.int .i64 i, .slice A 18 c, .slice B k d]] w fun e w' => e = .returned (.bool false) ∧ Below w.heap.size w w' := by
  have e8 : decide ((8 : Int) < (k : Int)) = false := decide_eq_false (by omega)
  have ei : decide (i < 0) = false := decide_eq_false (by omega)
  have HPw := Lib.hid (fun W => rpower_any k W hk)
  have hin : decide (((2 ^ k : Nat) : Int) ≤ i) = true := decide_eq_true hi
  generalize 2 ^ k = N at *
  clear hi
  have kb := Reg.Blk.new w #[.int .i64 i, .slice A 18 c, .slice B k d] 29
  have hal : Below w.heap.size w (w.alloc (.cells #[.int .i64 i, .slice A 18 c, .slice B k d] 29)) := (Below.refl _ _).alloc (Nat.le_refl _) _
  obtain ⟨kc, kf, kz⟩ := kb.facts
  go_enter Tryz.func19, Tryz.ntmps19
  go_wp2_with fail
  have HAL := Lib.hid hal
  generalize w.alloc (.cells #[.int .i64 i, .slice A 18 c, .slice B k d] 29) = W0 at *
  clear hal kb
  refine Reg.wp_region_seq (by kernel_rfl) (by kernel_rfl) ?_
  simp only
  iterate 24
    apply Reg.SeqOK.val
    · intro γ W hW K hK
      obtain ⟨hc, hf, _⟩ := bcell hW
      simp only [Act.put, List.setIfInBounds_toArray, List.set_cons_zero, List.set_cons_succ] at hK
      unfold Reg.Does
      go_simp
      try simp only [IntWalk.i64_left]
      first
        | exact hK _ (Below.refl _ _)
        | (go_at_call 35; (with_reducible refine (HPw.out _).mono ?_); rintro e w' ⟨rfl, hb⟩; exact hK _ hb)
        | (trace_state; fail)
    simp only [Act.put, List.setIfInBounds_toArray, List.set_cons_zero, List.set_cons_succ, List.nil_append, List.cons_append, Nat.reduceAdd, Nat.zero_add]
  refine Reg.SeqOK.nil (by kernel_rfl) (fun γ W1 hW _ _ _ => ?_)
  have HW1 := Lib.hid (HAL.out.trans (hW.mono HAL.out.size))
  clear hW
  go_wp2_with fail
  go_ret
  exact ⟨rfl, HW1.out⟩

/-- What is known once both lists have been looked at. -/
def verR (pub m : Tx) (i : Nat) (sig p : List Tx) : Bool := sig.all isD && (p.all isD && checkB pub (2 ^ p.length : Nat) i (leaf (listL (endsV sig m))) p)

attribute [local go_sem ↓ high] Ap.builtin_appA in
set_option maxHeartbeats 16000000 in
theorem rver_ok (pub m : Tx) (i : Nat) (A B : Option Addr) (c k d : Nat) (sig p : List Tx) (w : World) (h1 : Lst w A 18 c sig) (h2 : Lst w B k d p) (s1 : ∀ t ∈ sig, Sh t) (s2 : ∀ t ∈ p, Sh t) (hm : m.length ≤ 140737488351232) (hk : k ≤ 8) (hi : i < 2 ^ k) :
    Calls Tryz.prog 19 #[.string (str pub), .string (str m), .agg #[.int .i64 i, .slice A 18 c, .slice B k d]] w fun e w' => e = .returned (.bool (verR pub m i sig p)) ∧ Below w.heap.size w w' := by
  have e8 : decide ((8 : Int) < (k : Int)) = false := decide_eq_false (by omega)
  have ei : decide ((i : Int) < 0) = false := decide_eq_false (by omega)
  have HPw := Lib.hid (fun W => rpower_any k W hk)
  have hin : decide (2 ^ k ≤ i) = false := decide_eq_false (by omega)
  have hin2 : decide (((2 ^ k : Nat) : Int) ≤ (i : Int)) = false := decide_eq_false (by omega)
  have hp8 := pow_le hk
  have HDi := Lib.hid (fun W => rdigits_any m W hm)
  have HL := Lib.hid (And.intro h1 h2)
  have HS := Lib.hid (And.intro s1 s2)
  have HK := Lib.hid hk
  have HRe : Hid (∃ R, R = verR pub m i sig p) := ⟨_, rfl⟩
  obtain ⟨R, hR⟩ := HRe.out
  rw [← hR]
  have hRe : R = (sig.all isD && (p.all isD && checkB pub (2 ^ k : Nat) i (leaf (listL (endsV sig m))) p)) := by rw [hR, ← h2.len]; rfl
  have HR := Lib.hid hRe
  generalize hNN : 2 ^ k = N at *
  have kb := Reg.Blk.new w #[.int .i64 i, .slice A 18 c, .slice B k d] 29
  have hal : Below w.heap.size w (w.alloc (.cells #[.int .i64 i, .slice A 18 c, .slice B k d] 29)) := (Below.refl _ _).alloc (Nat.le_refl _) _
  clear h1 h2 s1 s2 hi hm hNN hR hRe HRe
  obtain ⟨kc, kf, kz⟩ := kb.facts
  go_enter Tryz.func19, Tryz.ntmps19
  go_wp2_with fail
  have HB := Lib.hid hal
  have KB := Lib.hid kb
  generalize w.alloc (.cells #[.int .i64 i, .slice A 18 c, .slice B k d] 29) = W0 at *
  clear hal kb
  refine Reg.wp_region_seq (by kernel_rfl) (by kernel_rfl) ?_
  simp only
  iterate 24
    apply Reg.SeqOK.val
    · intro γ W hW K hK
      obtain ⟨hc, hf, _⟩ := bcell hW
      simp only [Act.put, List.setIfInBounds_toArray, List.set_cons_zero, List.set_cons_succ] at hK
      unfold Reg.Does
      go_simp
      try simp only [IntWalk.i64_left]
      first
        | exact hK _ (Below.refl _ _)
        | (go_at_call 35; (with_reducible refine (HPw.out _).mono ?_); rintro e w' ⟨rfl, hb⟩; exact hK _ hb)
        | (trace_state; fail)
    simp only [Act.put, List.setIfInBounds_toArray, List.set_cons_zero, List.set_cons_succ, List.nil_append, List.cons_append, Nat.reduceAdd, Nat.zero_add]
  refine Reg.SeqOK.nil (by kernel_rfl) (fun γ W1 hW _ _ _ => ?_)
  replace HB := Lib.hid (HB.out.trans (hW.mono HB.out.size))
  replace KB := Lib.hid (KB.out.keep hW)
  clear hW kc kf kz e8 ei hin hin2
  go_wp2_with fail
  (with_reducible refine (HDi.out _).mono ?_); rintro e w1 ⟨⟨A5, c5, rfl, hd⟩, hb⟩
  have HI := Lib.hid hd.ints
  replace HB := Lib.hid (HB.out.trans (hb.mono HB.out.size))
  replace KB := Lib.hid (KB.out.keep hb)
  have hls := HL.out.1.len
  have hlp := HL.out.2.len
  have HLn := Lib.hid (And.intro hls hlp)
  clear hd hb HDi hls hlp
  go_wp2_with fail
  go_loopw [8, 9] (fun v x wr => ∃ (q : Nat) (L : List Tx) (A8 : Option Addr) (c8 : Nat), q ≤ 18 ∧ (sig.take q).all isD = true ∧ L = enK m sig q ∧ v = .slice A8 L.length c8 ∧ x = .int .i64 q ∧ Own w1.heap.size wr (.slice A8 L.length c8) L ∧ Below w1.heap.size w1 wr) (fun _ x _ => 18 - (intOf x).toNat)
  case atStart => exact ⟨0, [], none, 0, by omega, by simp, rfl, rfl, rfl, Own.nil _ _, Below.refl _ _⟩
  case round =>
    obtain ⟨q, L, A8, c8, hq, ha, hL, rfl, rfl, ho, hbw⟩ := hrel
    have HO := Lib.hid ho
    have HBw := Lib.hid hbw
    have HQ := Lib.hid (And.intro ha hL)
    have hlb : L.length ≤ 18 := by rw [hL, enK_len]; exact hq
    clear ho hbw ha hL
    obtain ⟨kc, kf, kz⟩ := (KB.out.keep HBw.out).facts
    by_cases hlt : q < 18
    · have hji : decide ((q : Int) < 18) = true := decide_eq_true (by omega)
      have hq0 : (0 : Int) ≤ (q : Int) := by omega
      have hq18 : (q : Int) < 18 := by omega
      obtain ⟨b, off, eA, hlb8, c0⟩ := (HL.out.1.below (HB.out.trans (HBw.out.mono HB.out.size))).at_ q (by rw [HLn.out.1]; exact hlt)
      obtain ⟨b5, off5, eA5, hlb5, c1⟩ := (HI.out.below HBw.out) q (by rw [ds_len]; exact hlt)
      have hqs : q < sig.length := by rw [HLn.out.1]; exact hlt
      have es : sig[q]? = some (sig[q]'hqs) := List.getElem?_eq_getElem _
      have hsh := HS.out.1 _ (List.getElem_mem hqs)
      have htk : sig.take (q + 1) = sig.take q ++ [sig[q]'hqs] := (List.take_append_getElem hqs).symm
      have hin : sig[q]'hqs ∈ sig := List.getElem_mem hqs
      generalize sig[q]'hqs = t at *
      subst eA
      subst eA5
      have c1' : wr.cell? ⟨b5, off5 + q, none⟩ = some (.int .i64 (dk m q : Nat)) := c1
      clear c1
      have hdk := dk_le m q
      obtain ⟨u, hu⟩ : ∃ u, u = 15 - dk m q := ⟨_, rfl⟩
      have HE : Hid (enK m sig (q + 1) = L ++ [chn t u]) := by unfold Hid; rw [enK_succ, HQ.out.2, es, hu]; rfl
      have HIs := Lib.hid (fun W => ris_str t W hsh)
      have HCh : Hid (∀ W, Calls Tryz.prog 43 #[.string (str t), .int .i64 u] W fun e w' => e = .returned (.string (str (chn t u))) ∧ Below W.heap.size W w') := fun W => (rchainT t u W (by unfold Sh at hsh; omega) (by omega)).mono fun e w' ⟨h1, h2⟩ => ⟨h1, by rw [h2]; exact Below.refl _ _⟩
      have hwu : IntKind.i64.wrap ((15 : Int) - (dk m q : Int)) = (u : Int) := by rw [IntWalk.i64_left, IntWalk.wrap64_in _ (by omega)]; omega
      have HTk := Lib.hid (And.intro htk hin)
      generalize chn t u = E at *
      generalize dk m q = D at *
      clear hu es hsh htk hin
      go_wp2_with fail
      (with_reducible refine (HIs.out _).mono ?_); rintro e w2 ⟨rfl, rfl⟩
      cases hv : isD t with
      | false =>
        have hR : R = false := by
          rw [HR.out, Bool.and_eq_false_iff]; left
          rw [List.all_eq_false]
          exact ⟨t, HTk.out.2, by rw [hv]; simp⟩
        have HRf := Lib.hid hR
        clear hR hv
        go_wp2_with fail
        go_ret
        exact ⟨by rw [HRf.out]; rfl, HB.out.trans (HBw.out.mono HB.out.size)⟩
      | true =>
        have hnx : (sig.take (q + 1)).all isD = true := by rw [HTk.out.1, List.all_append, HQ.out.1]; simp [hv]
        have HNx := Lib.hid hnx
        clear hnx hv
        go_wp2_with fail
        refine Reg.wp_region_tail (fun _ => False) (bxF E 12) (fun _ _ => True) (by kernel_rfl) (by kernel_rfl) bxF_s (fun _ _ _ _ _ => trivial) trivial ?_
        simp only
        iterate 12
          apply Reg.SeqT.val
          rotate_left 2
          · intro δ W hW hkn K hK
            obtain ⟨hc, hf, _⟩ := Reg.kcell hW
            simp only [Act.put, List.setIfInBounds_toArray, List.set_cons_zero, List.set_cons_succ] at hK
            unfold Reg.Does
            go_simp
            try simp only [IntWalk.i64_left]
            first
              | exact hK _ (Below.refl _ _)
              | (go_at_call 43; (with_reducible refine (HCh.out _).mono ?_); rintro e w' ⟨rfl, hb⟩; exact hK _ hb)
              | (trace_state; fail)
          rotate_left 1
          · intro δ δ' hd; first | rfl | (simp only [hd _ (show Reg.reach _ 12 _ _ = true by kernel_rfl)])
          · intro x w; first | exact trivial | (intro e; exact absurd e (by decide)) | exact ⟨fun e => absurd e (by decide), fun e => absurd e (by decide)⟩
          simp only [Act.put, List.setIfInBounds_toArray, List.set_cons_zero, List.set_cons_succ, List.nil_append, List.cons_append, Nat.reduceAdd, Nat.zero_add]
        refine Reg.SeqT.new (fun δ W2 hW hkn K hK => ?_) ?_
        · simp only [Act.put, List.setIfInBounds_toArray, List.set_cons_zero, List.set_cons_succ] at hK
          unfold Reg.Does
          go_simp
          exact hK _ _ ((Below.refl _ _).alloc (Nat.le_refl _) _) (fun _ => ⟨W2.heap.size, rfl, Reg.Blk.new _ _ _⟩)
        simp only [Act.put, List.setIfInBounds_toArray, List.set_cons_zero, List.set_cons_succ, List.nil_append, List.cons_append, Nat.reduceAdd, Nat.zero_add]
        refine Reg.SeqT.tail (by kernel_rfl) (fun δ W2 hW hkn _ => ?_)
        obtain ⟨gx, ex, hx⟩ := hkn 12 (by omega) rfl
        rw [ex]
        refine Reg.tail_cons ?_
        refine does_app2y (by rfl) _ _ rfl rfl rfl rfl (HO.out.below (below_no hW)) (Lst.lit [E] (n := 1) rfl (by omega) hx) (by omega) (HBw.out.trans ((below_no hW).mono HBw.out.size)) (Nat.le_trans HBw.out.size hW.size) ?_
        intro A9 c9 w9 o9 hb9
        have HO9 := Lib.hid o9
        have HB9 := Lib.hid hb9
        clear o9 hb9 hx ex hkn hW kc kf kz c0 c1' hlb8 hlb5
        simp only [Act.put, List.setIfInBounds_toArray, List.set_cons_zero, List.set_cons_succ, List.nil_append, List.cons_append, Nat.reduceAdd, Nat.zero_add]
        refine Reg.tail_cons ?_
        unfold Reg.Does
        go_simp
        refine Reg.tail_nil ?_
        go_wp2_with fail
        have e1 : (L ++ [E]).length = L.length + 1 := by rw [List.length_append]; rfl
        have q3 : 18 - (intOf (Value.int IntKind.i64 ((q : Int) + 1))).toNat < 18 - (intOf (Value.int IntKind.i64 (q : Int))).toNat := by simp [intOf]; omega
        exact ⟨⟨q + 1, L ++ [E], A9, c9, hlt, HNx.out, HE.out.symm, by rw [e1], rfl, HO9.out, HB9.out⟩, q3⟩
    · obtain rfl : q = 18 := by omega
      have hji : decide (((18 : Nat) : Int) < 18) = false := decide_eq_false (by omega)
      have hall : sig.all isD = true := by have h := HQ.out.1; rwa [List.take_of_length_le (by rw [HLn.out.1]; exact Nat.le_refl _)] at h
      have hRn : R = (p.all isD && checkB pub N i (leaf (listL L)) p) := by rw [HR.out, hall, Bool.true_and, endsV_eq, HQ.out.2]
      have HL8 := Lib.hid (HO.out.lst' rfl)
      have hf : fewB L 200 = true := by rw [HQ.out.2]; exact few_dg (fun t ht => endsV_dig HLn.out.1 hall t ht) (by rw [enK_len]; omega)
      have hE18 : L.length = 18 := by rw [HQ.out.2, enK_len]
      have HRn := Lib.hid hRn
      have HFw := Lib.hid (And.intro hf hE18)
      have HBq := Lib.hid (HB.out.trans (HBw.out.mono HB.out.size))
      have HKq := Lib.hid (KB.out.keep HBw.out)
      clear hall hRn hf hE18 HO HBw HQ HI HR HB KB
      go_wp2_with fail
      clear kc kf kz
      generalize wr = wq at *
      simp only [Int.cast_ofNat_Int]
      go_loopw [10] (fun x wr => ∃ j : Nat, j ≤ k ∧ x = .int .i64 j ∧ (p.take j).all isD = true ∧ Below wq.heap.size wq wr) (fun x _ => k - (intOf x).toNat)
      case atStart => exact ⟨0, Nat.zero_le _, rfl, by simp, Below.refl _ _⟩
      case round =>
        obtain ⟨j, hj, rfl, ha, hbw⟩ := hrel
        have HA := Lib.hid ha
        have HBw := Lib.hid hbw
        clear ha hbw
        obtain ⟨kc, kf, kz⟩ := (HKq.out.keep HBw.out).facts
        by_cases hlt : j < k
        · have hji2 : decide ((j : Int) < (k : Int)) = true := decide_eq_true (by omega)
          have hj0 : (0 : Int) ≤ (j : Int) := by omega
          have hjk : (j : Int) < (k : Int) := by omega
          obtain ⟨b, off, eA, hlb8, c0⟩ := (HL.out.2.below (HBq.out.trans (HBw.out.mono HBq.out.size))).at_ j (by rw [HLn.out.2]; exact hlt)
          have hqs : j < p.length := by rw [HLn.out.2]; exact hlt
          have hsh := HS.out.2 _ (List.getElem_mem hqs)
          have htk : p.take (j + 1) = p.take j ++ [p[j]'hqs] := (List.take_append_getElem hqs).symm
          have hin : p[j]'hqs ∈ p := List.getElem_mem hqs
          generalize p[j]'hqs = t at *
          subst eA
          have HIs := Lib.hid (fun W => ris_str t W hsh)
          have HTk := Lib.hid (And.intro htk hin)
          clear hsh htk hin
          go_wp2_with fail
          (with_reducible refine (HIs.out _).mono ?_); rintro e w2 ⟨rfl, rfl⟩
          cases hv : isD t with
          | false =>
            have hR : R = false := by
              rw [HRn.out, Bool.and_eq_false_iff]; left
              rw [List.all_eq_false]
              exact ⟨t, HTk.out.2, by rw [hv]; simp⟩
            have HRf := Lib.hid hR
            clear hR hv
            go_wp2_with fail
            go_ret
            exact ⟨by rw [HRf.out]; rfl, HBq.out.trans (HBw.out.mono HBq.out.size)⟩
          | true =>
            have hnx : (p.take (j + 1)).all isD = true := by rw [HTk.out.1, List.all_append, HA.out]; simp [hv]
            have HNx := Lib.hid hnx
            clear hnx hv
            go_wp2_with fail
            have q3 : k - (intOf (Value.int IntKind.i64 ((j : Int) + 1))).toNat < k - (intOf (Value.int IntKind.i64 (j : Int))).toNat := by simp [intOf]; omega
            exact ⟨⟨j + 1, hlt, rfl, HNx.out, HBw.out⟩, q3⟩
        · obtain rfl : j = k := by omega
          have hji2 : decide ((j : Int) < (j : Int)) = false := decide_eq_false (by omega)
          have hall : p.all isD = true := by have h := HA.out; rwa [List.take_of_length_le (by rw [HLn.out.2]; exact Nat.le_refl _)] at h
          have hR2 : R = checkB pub N i (leaf (listL L)) p := by rw [HRn.out, hall, Bool.true_and]
          have HR2 := Lib.hid hR2
          have HLi : Hid (∀ W, Below wr.heap.size wr W → Calls Tryz.prog 50 #[.slice A8 L.length c8] W fun e w' => e = .returned (.string (str (listL L))) ∧ Below W.heap.size W w') := fun W h => rlist_any A8 c8 L W (HL8.out.below (HBw.out.trans (h.mono HBw.out.size))).at_ HFw.out.1
          have HLf : Hid (∀ W, Calls Tryz.prog 49 #[.string (str (listL L))] W fun e w' => e = .returned (.string (str (leaf (listL L)))) ∧ Below W.heap.size W w') := fun W => rleaf_any _ W (isD_sh (isD_list _))
          have HCk : Hid (∀ W, Below wr.heap.size wr W → Calls Tryz.prog 48 #[.string (str pub), .int .i64 N, .int .i64 i, .string (str (leaf (listL L))), .slice B j d] W fun e w' => e = .returned (.bool R) ∧ Below W.heap.size W w') := fun W h => by
            have hc := rcheck_L pub N i (leaf (listL L)) (HL.out.2.below (HBq.out.trans ((HBw.out.trans (h.mono HBw.out.size)).mono HBq.out.size))) (by have := HK.out; omega) HS.out.2 (isD_sh (isD_sum _))
            rw [← HR2.out] at hc
            exact hc
          clear hall hR2
          generalize leaf (listL L) = F at *
          generalize listL L = K at *
          go_wp2_with fail
          refine Reg.wp_region_seq (by kernel_rfl) (by kernel_rfl) ?_
          simp only
          iterate 14
            apply Reg.SeqOK.val
            · intro γ W hW K hK
              obtain ⟨hc, hf, _⟩ := bcell hW
              simp only [Act.put, List.setIfInBounds_toArray, List.set_cons_zero, List.set_cons_succ] at hK
              unfold Reg.Does
              go_simp
              try simp only [IntWalk.i64_left]
              first
                | exact hK _ (Below.refl _ _)
                | (go_at_call 35; (with_reducible refine (HPw.out _).mono ?_); rintro e w' ⟨rfl, hb⟩; exact hK _ hb)
                | (go_at_call 50; (with_reducible refine (HLi.out _ hW).mono ?_); rintro e w' ⟨rfl, hb⟩; exact hK _ hb)
                | (go_at_call 49; (with_reducible refine (HLf.out _).mono ?_); rintro e w' ⟨rfl, hb⟩; exact hK _ hb)
                | (go_at_call 48; (with_reducible refine (HCk.out _ hW).mono ?_); rintro e w' ⟨rfl, hb⟩; exact hK _ hb)
                | (trace_state; fail)
            simp only [Act.put, List.setIfInBounds_toArray, List.set_cons_zero, List.set_cons_succ, List.nil_append, List.cons_append, Nat.reduceAdd, Nat.zero_add]
          refine Reg.SeqOK.nil (by kernel_rfl) (fun γ W9 hW9 _ _ _ => ?_)
          have HW9 := Lib.hid (HBq.out.trans ((HBw.out.trans (hW9.mono HBw.out.size)).mono HBq.out.size))
          clear hW9 kc kf kz
          go_wp2_with fail
          go_ret
          exact ⟨rfl, HW9.out⟩

end S
end Go.Proofs.YthdjdlndfkemiaaGreatDoor
