/- Seals: 'Verify'. -/
import Derived.Test.YthdjdlndfkemiaaDoorWg
import Derived.Test.YthdjdlndfkemiaaDoorTx
set_option linter.unusedSimpArgs false
set_option linter.unusedVariables false
set_option maxRecDepth 100000
namespace Go.Proofs.YthdjdlndfkemiaaDoor
open Go.RowKit Go.Shelf
namespace S
attribute [local go_sem] Oper.semAt_some

def verP (sig : List Tx) (pre : List SD) : List Tx := pre.map fun x => chn (sig[x.1.1]?.getD []) (15 - x.1.2)
theorem verP_snoc (sig : List Tx) (pre : List SD) (x : SD) : verP sig (pre ++ [x]) = verP sig pre ++ [chn (sig[x.1.1]?.getD []) (15 - x.1.2)] := by simp [verP]
theorem verP_all (sig : List Tx) (m : Tx) : verP sig (upT' (fD m) 18) = endsV sig m := by
  unfold verP upT' endsV
  rw [List.map_map]
  apply List.map_congr_left
  intro k hk
  have hk := List.mem_range.1 hk
  simp only [Function.comp_apply]
  rw [fD_at m k hk]
theorem endsV_len (sig : List Tx) (m : Tx) : (endsV sig m).length = 18 := by simp [endsV]

set_option maxHeartbeats 8000000 in
theorem ver_ok (pub m : Tx) (i : Nat) (A B : Option Addr) (c k d : Nat) (sig p : List Tx) (w : World) (h1 : Lst w A 18 c sig) (h2 : Lst w B k d p) (t1 : TxB sig) (t2 : TxB p) (hm : m.length ≤ 140737488351232) (ht : Tabs w)
    (hk : k ≤ 8) (ha1 : sig.all isD = true) (ha2 : p.all isD = true) (hi2 : i < 2 ^ k) :
    Calls Tryd.prog 8 #[.string (str pub), .string (str m), .agg #[.int .i64 i, .slice A 18 c, .slice B k d]] w fun e w' => e = .returned (.bool (checkB pub (2 ^ k : Nat) i (leaf (listL (endsV sig m))) p)) ∧ Below w.heap.size w w' := by
  have e8 : decide ((8 : Int) < (k : Int)) = false := decide_eq_false (by omega)
  have ei : decide ((i : Int) < 0) = false := decide_eq_false (by omega)
  have hshl := wrap_pow k hk
  have hin : decide (2 ^ k ≤ i) = false := decide_eq_false (by omega)
  have hp8 := pow_le hk
  have HD := Lib.hid (fun W => digits_any m W)
  have HT := Lib.hid ht
  have HM := Lib.hid hm
  have HL1 := Lib.hid h1
  have HL2 := Lib.hid h2
  have HA := Lib.hid (And.intro ha1 (And.intro t1 t2))
  have hE := endsV_len sig m
  have hEd := endsV_dig (m := m) h1.len ha1
  have HE := Lib.hid (And.intro hE hEd)
  generalize hNN : 2 ^ k = N at *
  have kb := Reg.Blk.new w #[.int .i64 i, .slice A 18 c, .slice B k d] 24
  have hal : Below w.heap.size w (w.alloc (.cells #[.int .i64 i, .slice A 18 c, .slice B k d] 24)) := (Below.refl _ _).alloc (Nat.le_refl _) _
  have hsz0 : (w.alloc (.cells #[.int .i64 i, .slice A 18 c, .slice B k d] 24)).heap.size = w.heap.size + 1 := by simp
  have O1 := Lib.hid (fun W (hb : Below w.heap.size w W) => odd_L (h1.below hb) t1)
  have O2 := Lib.hid (fun W (hb : Below w.heap.size w W) => odd_L (h2.below hb) t2)
  rw [ha1, Bool.not_true] at O1
  rw [ha2, Bool.not_true] at O2
  clear h1 h2 t1 t2 hE hEd ht hm ha1 ha2 hi2 hNN
  obtain ⟨kc, kf, kz⟩ := kb.facts
  refine (callsIn_wide (n := 5)).1 ?_
  refine callsIn_of_wp_marks Tryd.func8 rfl trivial ?_ rfl
  simp only [Tryd.ntmps8, List.size_toArray, List.length_cons, List.length_nil, Nat.reduceAdd, Nat.reduceSub, Array.replicate_succ, Array.replicate_zero, List.push_toArray, List.append_toArray, List.nil_append, List.cons_append]
  gi_wp2_with fail
  have HAL := Lib.hid (And.intro hal hsz0)
  have KB := Lib.hid kb
  generalize w.alloc (.cells #[.int .i64 i, .slice A 18 c, .slice B k d] 24) = W0 at *
  have hgb : Hid (∀ W, Below W0.heap.size W0 W → Below w.heap.size w W) := fun W hb => HAL.out.1.trans (hb.mono HAL.out.1.size)
  clear hal kb hsz0
  refine wpIn_wide.2 ?_
  refine Reg.wp_region_seq (by kernel_rfl) (by kernel_rfl) ?_
  simp only
  iterate 29
    apply Reg.SeqOK.val
    · intro γ W hW K hK
      obtain ⟨hc, hf, _⟩ := bcell hW
      simp only [Act.put, List.setIfInBounds_toArray, List.set_cons_zero, List.set_cons_succ] at hK
      unfold Reg.Does
      go_simp
      try simp only [IntWalk.i64_left]
      first
        | exact hK _ (Below.refl _ _)
        | (go_at_call 14; (with_reducible refine (O1.out _ (hgb.out _ hW)).mono ?_); rintro e w' ⟨rfl, hb⟩; exact hK _ hb)
        | (go_at_call 14; (with_reducible refine (O2.out _ (hgb.out _ hW)).mono ?_); rintro e w' ⟨rfl, hb⟩; exact hK _ hb)
        | (trace_state; fail)
    simp only [Act.put, List.setIfInBounds_toArray, List.set_cons_zero, List.set_cons_succ, List.nil_append, List.cons_append, Nat.reduceAdd, Nat.zero_add]
  refine Reg.SeqOK.val (.int .i64 (N : Int)) (fun γ W hW K hK => ?_) ?_
  · simp only [Act.put, List.setIfInBounds_toArray, List.set_cons_zero, List.set_cons_succ] at hK
    unfold Reg.Does
    go_simp
    try simp only [IntWalk.i64_left]
    try simp only [hshl]
    exact hK _ (Below.refl _ _)
  simp only [Act.put, List.setIfInBounds_toArray, List.set_cons_zero, List.set_cons_succ, List.nil_append, List.cons_append, Nat.reduceAdd, Nat.zero_add]
  iterate 2
    apply Reg.SeqOK.val
    · intro γ W hW K hK
      obtain ⟨hc, hf, _⟩ := bcell hW
      simp only [Act.put, List.setIfInBounds_toArray, List.set_cons_zero, List.set_cons_succ] at hK
      unfold Reg.Does
      go_simp
      try simp only [IntWalk.i64_left]
      first
        | exact hK _ (Below.refl _ _)
        | (trace_state; fail)
    simp only [Act.put, List.setIfInBounds_toArray, List.set_cons_zero, List.set_cons_succ, List.nil_append, List.cons_append, Nat.reduceAdd, Nat.zero_add]
  refine Reg.SeqOK.nil (by kernel_rfl) (fun γ W1 hW _ _ _ => ?_)
  have HW1 := Lib.hid hW
  have KB1 := Lib.hid (KB.out.keep hW)
  clear hW kc kf kz O1 O2 e8 ei hin
  gi_wp2_with fail
  refine ⟨trivial, ?_⟩
  refine (callsIn_wide.2 (HD.out _)).mono ?_
  rintro e w3 ⟨rfl, hw3⟩
  obtain ⟨n9, nm⟩ := Reg.Blk.new2 (w := W1) (C := #[.slice none 0 0]) (T := 22) (C' := #[.string (str m)]) (T' := 9) (Below.refl _ _)
  rw [← hw3] at n9 nm
  have hal : Below W1.heap.size W1 w3 := by rw [hw3]; exact ((Below.refl _ _).alloc (Nat.le_refl _) _).alloc (by simp) _
  have hsz : w3.heap.size = W1.heap.size + 2 := by rw [hw3]; simp
  have HW3 := Lib.hid (HW1.out.trans (hal.mono HW1.out.size))
  have hlo : w.heap.size + 1 ≤ W1.heap.size := by have := HW1.out.size; have := HAL.out.2; omega
  have KB3 := Lib.hid (KB1.out.keep hal)
  simp only [World.size_alloc]
  clear hal hw3
  have HZ := Lib.hid (And.intro hsz hlo)
  generalize W1.heap.size = g9 at *
  gi_wp2_with fail
  refine wpIn_rangeFunc_ownH (α := SD) rfl (by decide) (gf := 28) (lb := #[.pointer (some ⟨g9 + 1, 0, none⟩)]) rfl trivial (enters_of Tryd.func28 (by kernel_rfl) rfl)
    (encs := encD) (Kp := Reg.Keep (fun k => k = g9 ∨ w3.heap.size ≤ k)) (S := fun xs => xs = upT' (fD m) 18) (Sp := fun _ => True) (N := 18) (w0 := w3) ?seq (fun h k => keepK h k) ?kb (Below.refl _ _) (fun _ => rfl)
    (fun pre W => Reg.Keep (fun k => k = g9 ∨ w3.heap.size ≤ k) w3 W ∧ ∃ A' c', Reg.Blk g9 #[.slice A' (verP sig pre).length c'] 22 W ∧ Own w3.heap.size W (.slice A' (verP sig pre).length c') (verP sig pre)) (fun _ _ _ => False) ?hI (fun _ _ _ _ _ hs _ _ => hs) ?h0
    (fun x a' W => a' = { tmps := #[.string (str pub), .string (str m), .agg #[.int .i64 i, .slice A 18 c, .slice B k d], undef, undef, .pointer (some ⟨w.heap.size, 0, none⟩), .bool false, .int .i64 k, .func (Fn.func 14) #[] #[], .pointer (some ⟨g9, 0, none⟩), .int .i64 (x.1.1 : Int), .int .i64 (x.1.2 : Int),
        .pointer (some ⟨w.heap.size, 2, none⟩), .slice B k d, .int .i64 k, .pointer (some ⟨w.heap.size, 1, none⟩), .slice A 18 c, .int .i64 18, .bool false, .bool false, .int .i64 k, .bool false, .bool false, .bool false, .func (Fn.func 14) #[] #[], .pointer (some ⟨w.heap.size, 1, none⟩),
        .slice A 18 c, .bool false, .bool false, .bool false, .func (Fn.func 14) #[] #[], .pointer (some ⟨w.heap.size, 2, none⟩), .slice B k d, .bool false, .bool false, .bool false, .pointer (some ⟨w.heap.size, 0, none⟩), .int .i64 i, .bool false, .bool false, .bool false,
        .pointer (some ⟨w.heap.size, 0, none⟩), .int .i64 i, .int .i64 k, .int .i64 N, .bool false, .bool false, .string (str m), .func (Fn.func 28) #[] #[.pointer (some ⟨g9 + 1, 0, none⟩)], .int .i64 (x.1.1 : Int), .int .i64 (x.1.2 : Int),
        undef, undef, undef, undef, undef, undef, undef, undef, undef, undef, undef, undef, undef, undef, undef, undef, undef, undef, undef, undef, undef, undef], defers := [] }) ?hAx ?assign ?body ?done ?stop
  case seq =>
    intro l₀ J Jx W hW hJ hJx hY h0
    exact digits1_in 3 l₀ (fun k => k = g9 ∨ w3.heap.size ≤ k) (g9 + 1) m J Jx W HM.out (HT.out.below ((hgb.out _ HW3.out).trans (hW.mono (by have := HZ.out; omega)))) (nm.keep hW) (fun s v v' h hb => hJ s v v' none h (below_grown hb) (fun r e => by cases e)) hY h0
  case kb => exact fun W k o o' hk ho _ _ => ⟨rfl, rfl, rfl, by simp, fun j hj hm => World.putObj_heap_other (fun e => hm (.inr (by omega)))⟩
  case hI =>
    rintro pre W W' row ⟨hk, A', c', hb, ho⟩ hgr hr
    refine ⟨keepK hk (keep_grown hgr fun r e => .inr (hr r e).1), A', c', ?_, own_grown ho hgr fun r e => (hr r e).2⟩
    exact (hgr.block g9 hb.lt (fun e => by have := (hr g9 e.symm).1; have := HZ.out.1; omega)).trans hb
  case h0 => exact ⟨keep_refl _ _, none, 0, n9, Own.nil _ _⟩
  case hAx => exact fun _ _ _ _ _ _ h _ _ => h
  case assign =>
    intro l₀ pre x W K hi hK
    have HG := Lib.hid (hK _ _ (KeepsFrom.refl _ _) (keep_refl _ _) hi rfl)
    clear hK
    gi_wp2_with fail
    exact HG.out
  case body =>
    rintro l₀ pre x a' W hl _ ⟨hkp, A', c', hb, ho⟩ rfl hlt
    have b5 := blkK KB3.out hkp (by have := HZ.out; omega)
    obtain ⟨c5, f5, z5⟩ := b5.facts
    obtain ⟨c9, f9, z9⟩ := hb.facts
    have hbw : Below w.heap.size w W := (hgb.out _ HW3.out).trans (hkp.below fun k hk => ⟨by have := HZ.out; omega, by have := HZ.out; omega⟩)
    obtain ⟨ba, oa, eA, hba, ca⟩ := (HL1.out.below hbw).at_ x.1.1 (by have := HL1.out.len; have := x.2.1; omega)
    have hba2 : ba < w.heap.size := by
      obtain ⟨b', o', eA', hb', _⟩ := HL1.out.at_ x.1.1 (by have := HL1.out.len; have := x.2.1; omega)
      rw [eA] at eA'
      injection eA' with e1
      injection e1 with e2
      omega
    subst eA
    obtain ⟨M, hM⟩ : ∃ M, M = ownM (.slice A' (verP sig pre).length c') := ⟨_, rfl⟩
    have hMge : ∀ k, M k → w3.heap.size ≤ k ∧ k < W.heap.size := fun k hk => own_ge ho k (by rw [← hM]; exact hk)
    have m5 : ¬ M w.heap.size := fun h => by have := (hMge _ h).1; have := HZ.out; omega
    have ma : ¬ M ba := fun h => by have := (hMge _ h).1; have := HZ.out; omega
    have m9 : ¬ M g9 := fun h => by have := (hMge _ h).1; have := HZ.out; omega
    have hTab : ∀ W2, Reg.Keep M W W2 → Tabs W2 := fun W2 hk => by
      refine HT.out.below (hbw.trans (hk.below fun k hk' => ⟨by have := hbw.size; omega, fun hm => by have := (hMge k hm).1; have := HZ.out; omega⟩))
    have hlen16 : (sig[x.1.1]'(by have := HL1.out.len; have := x.2.1; omega)).length = 16 := isD_len (List.all_eq_true.1 HA.out.1 _ (List.getElem_mem _))
    have hget : sig[x.1.1]?.getD [] = sig[x.1.1]'(by have := HL1.out.len; have := x.2.1; omega) := by rw [List.getElem?_eq_getElem (by have := HL1.out.len; have := x.2.1; omega)]; rfl
    have hsn := verP_snoc sig pre x
    rw [hget] at hsn
    have HSn := Lib.hid hsn
    clear hsn hget
    generalize hge : sig[x.1.1]'(by have := HL1.out.len; have := x.2.1; omega) = S0 at *
    have HC : Hid (∀ W2, Reg.Keep M W W2 → Calls Tryd.prog 18 #[.string (str S0), .int .i64 (wrap64 (15 - (x.1.2 : Int)))] W2 fun e w' => e = .returned (.string (str (chn S0 (15 - x.1.2)))) ∧ Below W2.heap.size W2 w') := fun W2 h => by
      have hq := chainT S0 (15 - x.1.2) W2 (by omega) (by omega) (hTab W2 h)
      rw [show ((15 - x.1.2 : Nat) : Int) = wrap64 (15 - (x.1.2 : Int)) by have := x.2.2; rw [IntWalk.wrap64_in _ (by omega)]; omega] at hq
      exact hq
    have HO := Lib.hid ho
    have HK := Lib.hid (And.intro hkp hMge)
    have HBk := Lib.hid hb
    have HMq := Lib.hid hM
    have hln : (verP sig pre).length = pre.length := by simp [verP]
    have HLn := Lib.hid (And.intro hln hlt)
    have hx0 : (0 : Int) ≤ (x.1.1 : Int) := by omega
    have hx18 : (x.1.1 : Int) < 18 := by have := x.2.1; omega
    clear hkp hb ho hM hMge hTab b5 hln hlt hl hge hlen16 hbw hba2
    generalize hct : chn S0 (15 - x.1.2) = t at *
    clear hct
    gi_wp2_with fail
    refine RegR.round_region_last M (oneF M t 9) (appT w3.heap.size (.slice A' (verP sig pre).length c') (verP sig pre) t) (by kernel_rfl) (by kernel_rfl) (by kernel_rfl) oneF_s appT_s (HO.out.below ((Below.refl _ _).drew)) ?_
    simp only
    iterate 9
      apply Reg.SeqL.val
      rotate_left 2
      · intro δ W hW hkn K hK
        obtain ⟨hc, hf, _⟩ := Reg.kcell hW
        simp only [Act.put, List.setIfInBounds_toArray, List.set_cons_zero, List.set_cons_succ] at hK
        unfold Reg.Does
        go_simp
        try simp only [IntWalk.i64_left]
        first
          | exact hK _ (Below.refl _ _)
          | (go_at_call 18; (with_reducible refine (HC.out _ hW).mono ?_); rintro e w' ⟨rfl, hb⟩; exact hK _ hb)
          | (trace_state; fail)
      rotate_left 1
      · intro δ δ' hd; first | rfl | (simp only [hd _ (show Reg.reach _ 12 _ _ = true by kernel_rfl)])
      · intro x w; first | exact trivial | (intro e; exact absurd e (by decide)) | exact ⟨fun e => absurd e (by decide), fun e => absurd e (by decide)⟩
      simp only [Act.put, List.setIfInBounds_toArray, List.set_cons_zero, List.set_cons_succ, List.nil_append, List.cons_append, Nat.reduceAdd, Nat.zero_add]
    refine Reg.SeqL.new (fun δ W2 hW hkn K hK => ?_) ?_
    · simp only [Act.put, List.setIfInBounds_toArray, List.set_cons_zero, List.set_cons_succ] at hK
      unfold Reg.Does
      go_simp
      exact hK _ _ ((Below.refl _ _).alloc (Nat.le_refl _) _) (fun _ => ⟨W2.heap.size, rfl, Reg.Blk.new _ _ _, fun h => by have := (HK.out.2 _ h).2; have := hW.size; omega⟩)
    simp only [Act.put, List.setIfInBounds_toArray, List.set_cons_zero, List.set_cons_succ, List.nil_append, List.cons_append, Nat.reduceAdd, Nat.zero_add]
    refine Reg.SeqL.eff (fun e h => by simp at h) (fun δ W2 hW hkn hT K hK => ?_) ?_
    · obtain ⟨gx, e9, hg, _⟩ := hkn 9 (by kernel_rfl) rfl
      refine does_app1 (by rfl) _ _ rfl t rfl e9 hT hg (by have := HLn.out; omega) (by have := HK.out.1.size; have := hW.size; omega) ?_
      intro A2 c2 w' ho' hk'
      exact hK _ _ (by rw [HMq.out]; exact hk') (fun e => absurd e (by decide)) ⟨A2, c2, rfl, ho'⟩
    simp only [Act.put, List.setIfInBounds_toArray, List.set_cons_zero, List.set_cons_succ, List.nil_append, List.cons_append, Nat.reduceAdd, Nat.zero_add]
    refine Reg.SeqL.fin (by kernel_rfl) (fun δ W5 hW5 hF hT5 K hK => ?_)
    simp only [Act.put, List.setIfInBounds_toArray, List.set_cons_zero, List.set_cons_succ] at hK
    obtain ⟨A2, c2, e10, ho'⟩ := hT5
    have hl1 : (verP sig pre ++ [t]).length = (verP sig pre).length + 1 := by simp
    rw [hl1] at e10
    rw [e10] at ho'
    have HL1 := Lib.hid hl1
    clear hl1
    have b5 := keep_blk hW5 HBk.out m9
    clear c5 f5 z5 c9 f9 z9 ca
    obtain ⟨c9, f9, z9⟩ := b5.facts
    have HB5 := Lib.hid b5
    have HO5 := Lib.hid ho'
    have HW5 := Lib.hid hW5
    clear b5 ho' hF hW5
    rw [e10] at hK ⊢
    unfold Reg.Does
    go_simp
    refine hK undef _ ⟨rfl, ?_⟩
    have hu := Reg.upd1 (x := .slice A2 ((verP sig pre).length + 1) c2) HB5.out
    have hset := own_set HO5.out (a := ⟨g9, 0, none⟩) (by have := HZ.out; show g9 < _; omega) (.slice A2 ((verP sig pre).length + 1) c2)
    have kU : Reg.Keep (fun k => M k ∨ k = g9) W (W5.setCell ⟨g9, 0, none⟩ (.slice A2 ((verP sig pre).length + 1) c2)) :=
      Reg.updK (M := fun k => M k ∨ k = g9) (g := g9) (.inr rfl) _ _ _ _ (keep_weak HW5.out fun k hk => .inl hk) hu
    have kV := keep_weak (M' := fun k => k = g9 ∨ w3.heap.size ≤ k) kU fun k hk => by rcases hk with hk | hk; exact .inr (HK.out.2 k hk).1; exact .inl hk
    refine ⟨keepsFrom_of kU fun k hk o ho => ?_, kV, keepK HK.out.1 kV, A2, c2, ?_, ?_⟩
    · rcases hk with hk | rfl
      · rw [HMq.out] at hk
        exact own_cells HO.out k hk o ho
      · have hb' : W.heap[k]? = _ := HBk.out
        rw [hb'] at ho
        injection ho with ho
        subst ho
        rfl
    · rw [HSn.out, HL1.out]; exact hu.at_
    · rw [HSn.out, HL1.out]; exact hset
  case done =>
    rintro D xs W hD rfl ⟨hkp, A', c', hb, ho⟩ hdef
    rw [verP_all] at hb ho
    rw [HE.out.1] at hb ho
    have b5 := blkK KB3.out hkp (by have := HZ.out; omega)
    have hbw : Below w.heap.size w W := (hgb.out _ HW3.out).trans (hkp.below fun k hk => ⟨by have := HZ.out; omega, by have := HZ.out; omega⟩)
    obtain ⟨c5, f5, z5⟩ := b5.facts
    obtain ⟨c9, f9, z9⟩ := hb.facts
    have HBW := Lib.hid hbw
    have hTab : ∀ W2, Below W.heap.size W W2 → Tabs W2 := fun W2 k => HT.out.below (HBW.out.trans (k.mono HBW.out.size))
    have HDf := Lib.hid (And.intro hD hdef)
    have lE := ho.lst' HE.out.1
    have HO : Hid (∀ W2, Below W.heap.size W W2 → Calls Tryd.prog 21 #[.slice A' 18 c'] W2 fun e w' => e = .returned (.string (str (listL (endsV sig m)))) ∧ Below W2.heap.size W2 w') := fun W2 h =>
      of_any (endsV sig m) A' c' 18 W2 (lE.below h).at_ HE.out.1 (by omega) (fun t ht => by have := isD_len (HE.out.2 t ht); omega) (hTab W2 h)
    have HLf : Hid (∀ W2, Below W.heap.size W W2 → Calls Tryd.prog 20 #[.string (str (listL (endsV sig m)))] W2 fun e w' => e = .returned (.string (str (leaf (listL (endsV sig m))))) ∧ Below W2.heap.size W2 w') := fun W2 h =>
      leaf_any _ W2 (hTab W2 h) (by rw [isD_len (isD_list _)]; omega)
    have HCk : Hid (∀ W2, Below W.heap.size W W2 → Calls Tryd.prog 19 #[.string (str pub), .int .i64 N, .int .i64 i, .string (str (leaf (listL (endsV sig m)))), .slice B k d] W2 fun e w' => e = .returned (.bool (checkB pub N i (leaf (listL (endsV sig m))) p)) ∧ Below W2.heap.size W2 w') := fun W2 h =>
      check_L pub N i _ (HL2.out.below (HBW.out.trans (h.mono HBW.out.size))) (by omega) (hTab W2 h) HA.out.2.2 (by unfold leaf; rw [isD_len (isD_list _)]; omega)
    clear hkp b5 hb ho hbw hdef nm n9 lE hTab hD
    generalize hRe : checkB pub N i (leaf (listL (endsV sig m))) p = R at *
    have HRe := Lib.hid hRe
    clear hRe
    gi_wp2_with fail
    refine wpIn_wide.2 ?_
    refine Reg.wp_region_seq (by kernel_rfl) (by kernel_rfl) ?_
    simp only
    iterate 2
      apply Reg.SeqOK.val
      · intro γ W hW K hK
        obtain ⟨hc, hf, _⟩ := bcell hW
        simp only [Act.put, List.setIfInBounds_toArray, List.set_cons_zero, List.set_cons_succ] at hK
        unfold Reg.Does
        go_simp
        try simp only [IntWalk.i64_left]
        first
          | exact hK _ (Below.refl _ _)
          | (trace_state; fail)
      simp only [Act.put, List.setIfInBounds_toArray, List.set_cons_zero, List.set_cons_succ, List.nil_append, List.cons_append, Nat.reduceAdd, Nat.zero_add]
    refine Reg.SeqOK.val (.int .i64 (N : Int)) (fun γ W hW K hK => ?_) ?_
    · simp only [Act.put, List.setIfInBounds_toArray, List.set_cons_zero, List.set_cons_succ] at hK
      unfold Reg.Does
      go_simp
      try simp only [IntWalk.i64_left]
      try simp only [hshl]
      exact hK _ (Below.refl _ _)
    simp only [Act.put, List.setIfInBounds_toArray, List.set_cons_zero, List.set_cons_succ, List.nil_append, List.cons_append, Nat.reduceAdd, Nat.zero_add]
    iterate 9
      apply Reg.SeqOK.val
      · intro γ W hW K hK
        obtain ⟨hc, hf, _⟩ := bcell hW
        simp only [Act.put, List.setIfInBounds_toArray, List.set_cons_zero, List.set_cons_succ] at hK
        unfold Reg.Does
        go_simp
        try simp only [IntWalk.i64_left]
        first
          | exact hK _ (Below.refl _ _)
          | (go_at_call 21; (with_reducible refine (HO.out _ hW).mono ?_); rintro e w' ⟨rfl, hb⟩; exact hK _ hb)
          | (go_at_call 20; (with_reducible refine (HLf.out _ hW).mono ?_); rintro e w' ⟨rfl, hb⟩; exact hK _ hb)
          | (go_at_call 19; (with_reducible refine (HCk.out _ hW).mono ?_); rintro e w' ⟨rfl, hb⟩; exact hK _ hb)
          | (trace_state; fail)
      simp only [Act.put, List.setIfInBounds_toArray, List.set_cons_zero, List.set_cons_succ, List.nil_append, List.cons_append, Nat.reduceAdd, Nat.zero_add]
    refine Reg.SeqOK.nil (by kernel_rfl) (fun γ W6 hW6 _ _ _ => ?_)
    have HW6 := Lib.hid hW6
    clear hW6 c5 f5 z5 c9 f9 z9 hshl
    gi_wp2_with fail
    have hdf := (HW6.out.block D (Array.getElem?_eq_some_iff.1 HDf.out.2).1).trans HDf.out.2
    have kA : Reg.Keep (fun k => w.heap.size ≤ k) w W6 := keep_of (HBW.out.trans (HW6.out.mono HBW.out.size))
    have kD : Reg.Keep (fun k => w.heap.size ≤ k) w (W6.putObj D (.deferred none)) := keepK kA ⟨rfl, rfl, rfl, by simp, fun j hj hm => World.putObj_heap_other (fun e => hm (by have := HDf.out.1; have := HZ.out; omega))⟩
    refine ⟨by simp, .inl ⟨_, _, rfl, run_takeDeferred hdf, ?_⟩⟩
    refine ⟨.bool R, ?_, ?_⟩
    · simp [results, Tryd.results8, go_sem]
    · exact ⟨by rw [HRe.out], kD.below fun k hk => by omega⟩
  case stop => exact fun _ _ _ _ _ _ h _ => h.elim

/-- What 'Verify' answers. -/
def verB (pub m : Tx) (i : Int) (sig p : List Tx) : Bool :=
  decide (sig.length = 18) && (decide (p.length ≤ 8) && (sig.all isD && (p.all isD && (decide (0 ≤ i) && (decide (i < ((2 ^ p.length : Nat) : Int)) && checkB pub (2 ^ p.length : Nat) i (leaf (listL (endsV sig m))) p)))))
/-- A seal, by value. -/
structure SealAt (w : World) (v : Value) (i : Int) (sig path : List Tx) : Prop where
  parts : ∃ A n c B k d, v = .agg #[.int .i64 i, .slice A n c, .slice B k d] ∧ Lst w A n c sig ∧ Lst w B k d path
theorem SealAt.below {w w' : World} {v : Value} {i : Int} {sig path : List Tx} (h : SealAt w v i sig path) (hb : Below w.heap.size w w') : SealAt w' v i sig path := by
  obtain ⟨A, n, c, B, k, d, e, h1, h2⟩ := h.parts
  exact ⟨A, n, c, B, k, d, e, h1.below hb, h2.below hb⟩
theorem ver_agg (pub m : Tx) (i : Int) (A B : Option Addr) (n c k d : Nat) (sig p : List Tx) (w : World) (h1 : Lst w A n c sig) (h2 : Lst w B k d p) (t1 : TxB sig) (t2 : TxB p) (hm : m.length ≤ 140737488351232) (ht : Tabs w) :
    Calls Tryd.prog 8 #[.string (str pub), .string (str m), .agg #[.int .i64 i, .slice A n c, .slice B k d]] w fun e w' => e = .returned (.bool (verB pub m i sig p)) ∧ Below w.heap.size w w' := by
  have l1 := h1.len
  have l2 := h2.len
  by_cases hn : n = 18
  rotate_left
  · have e : verB pub m i sig p = false := by unfold verB; rw [decide_eq_false (p := sig.length = 18) (by omega)]; rfl
    rw [e]
    exact ver_no1 (str pub) (str m) i A B n c k d sig p w h1 h2 t1 t2 hn
  subst hn
  by_cases hk : k ≤ 8
  rotate_left
  · have e : verB pub m i sig p = false := by unfold verB; rw [decide_eq_false (p := p.length ≤ 8) (by omega)]; simp
    rw [e]
    exact ver_no2 (str pub) (str m) i A B c k d sig p w h1 h2 t1 t2 (by omega)
  cases ha1 : sig.all isD with
  | false =>
    have e : verB pub m i sig p = false := by unfold verB; rw [ha1]; simp
    rw [e]
    exact ver_no3 (str pub) (str m) i A B c k d sig p w h1 h2 t1 t2 hk ha1
  | true =>
    cases ha2 : p.all isD with
    | false =>
      have e : verB pub m i sig p = false := by unfold verB; rw [ha2]; simp
      rw [e]
      exact ver_no4 (str pub) (str m) i A B c k d sig p w h1 h2 t1 t2 hk ha1 ha2
    | true =>
      by_cases hi : i < 0
      · have e : verB pub m i sig p = false := by unfold verB; rw [decide_eq_false (p := 0 ≤ i) (by omega)]; simp
        rw [e]
        exact ver_no5 (str pub) (str m) i A B c k d sig p w h1 h2 t1 t2 hk ha1 ha2 hi
      · by_cases hi2 : ((2 ^ k : Nat) : Int) ≤ i
        · have e : verB pub m i sig p = false := by unfold verB; rw [l2, decide_eq_false (p := i < ((2 ^ k : Nat) : Int)) (by omega)]; simp
          rw [e]
          exact ver_no6 (str pub) (str m) i A B c k d sig p w h1 h2 t1 t2 hk ha1 ha2 (by omega) hi2
        · obtain ⟨j, rfl⟩ := Int.eq_ofNat_of_zero_le (show 0 ≤ i by omega)
          have e : verB pub m j sig p = checkB pub (2 ^ k : Nat) j (leaf (listL (endsV sig m))) p := by
            unfold verB
            rw [l2, ha1, ha2, decide_eq_true (p := sig.length = 18) l1, decide_eq_true (p := k ≤ 8) hk, decide_eq_true (p := (0 : Int) ≤ (j : Int)) (by omega), decide_eq_true (p := (j : Int) < ((2 ^ k : Nat) : Int)) (by omega)]
            rfl
          rw [e]
          exact ver_ok pub m j A B c k d sig p w h1 h2 t1 t2 hm ht hk ha1 ha2 (by omega)
theorem verify_any (pub m : Tx) (v : Value) (i : Int) (sig p : List Tx) (w : World) (h : SealAt w v i sig p) (t1 : TxB sig) (t2 : TxB p) (hm : m.length ≤ 140737488351232) (ht : Tabs w) :
    Calls Tryd.prog 8 #[.string (str pub), .string (str m), v] w fun e w' => e = .returned (.bool (verB pub m i sig p)) ∧ Below w.heap.size w w' := by
  obtain ⟨A, n, c, B, k, d, rfl, h1, h2⟩ := h.parts
  exact ver_agg pub m i A B n c k d sig p w h1 h2 t1 t2 hm ht

def sgnB (h i : Int) : Bool := decide (0 ≤ h) && (decide (h ≤ 8) && (decide (0 ≤ i) && decide (i < ((2 ^ h.toNat : Nat) : Int))))
def sgnE (h i : Int) : Int := if sgnB h i then 0 else 1
def sgnI (h i : Int) : Int := if sgnB h i then i else 0
def sgnS (s : Tx) (h i : Int) (m : Tx) : List Tx := if sgnB h i then sigT s i.toNat m else []
def sgnP (s : Tx) (h i : Int) : List Tx := if sgnB h i then pathT (leavesT s h.toNat) i.toNat else []
theorem sign_any (s m : Tx) (h i : Int) (w : World) (hs : s.length ≤ 1000000) (hm : m.length ≤ 140737488351232) (ht : Tabs w) :
    Calls Tryd.prog 11 #[.string (str s), .int .i64 h, .int .i64 i, .string (str m)] w fun e w' =>
      (∃ v, e = .returned (.tuple #[v, .int .i64 (sgnE h i)]) ∧ SealAt w' v (sgnI h i) (sgnS s h i m) (sgnP s h i)) ∧ Below w.heap.size w w' := by
  have no : sgnB h i = false → (Calls Tryd.prog 11 #[.string (str s), .int .i64 h, .int .i64 i, .string (str m)] w fun e w' => e = .returned (.tuple #[.agg #[.int .i64 0, .slice none 0 0, .slice none 0 0], .int .i64 1]) ∧ Below w.heap.size w w') →
      Calls Tryd.prog 11 #[.string (str s), .int .i64 h, .int .i64 i, .string (str m)] w fun e w' => (∃ v, e = .returned (.tuple #[v, .int .i64 (sgnE h i)]) ∧ SealAt w' v (sgnI h i) (sgnS s h i m) (sgnP s h i)) ∧ Below w.heap.size w w' := fun hf hc => by
    refine hc.mono ?_
    rintro e w' ⟨rfl, hb⟩
    unfold sgnE sgnI sgnS sgnP
    rw [hf]
    exact ⟨⟨_, rfl, none, 0, 0, none, 0, 0, rfl, Lst.empty _, Lst.empty _⟩, hb⟩
  by_cases h1 : h < 0
  · exact no (by unfold sgnB; rw [decide_eq_false (p := 0 ≤ h) (by omega)]; rfl) (sign_no1 _ _ h i w h1)
  by_cases h2 : 8 < h
  · exact no (by unfold sgnB; rw [decide_eq_false (p := h ≤ 8) (by omega)]; simp) (sign_no2 _ _ h i w h2)
  by_cases h3 : i < 0
  · exact no (by unfold sgnB; rw [decide_eq_false (p := 0 ≤ i) (by omega)]; simp) (sign_no3 _ _ h i w (by omega) (by omega) h3)
  obtain ⟨n, rfl⟩ := Int.eq_ofNat_of_zero_le (show 0 ≤ h by omega)
  by_cases h4 : ((2 ^ n : Nat) : Int) ≤ i
  · exact no (by unfold sgnB; rw [Int.toNat_natCast, decide_eq_false (p := i < ((2 ^ n : Nat) : Int)) (by omega)]; simp) (sign_no4 _ _ n i w (by omega) (by omega) h4)
  obtain ⟨j, rfl⟩ := Int.eq_ofNat_of_zero_le (show 0 ≤ i by omega)
  have hy : sgnB n j = true := by
    unfold sgnB
    rw [Int.toNat_natCast, decide_eq_true (p := (0 : Int) ≤ (n : Int)) (by omega), decide_eq_true (p := (n : Int) ≤ 8) (by omega), decide_eq_true (p := (0 : Int) ≤ (j : Int)) (by omega), decide_eq_true (p := (j : Int) < ((2 ^ n : Nat) : Int)) (by omega)]
    rfl
  refine (sign_ok s m n j w hs hm (by omega) (by omega) ht).mono ?_
  rintro e w' ⟨⟨A, c, B, d, rfl, l1, l2⟩, hb⟩
  unfold sgnE sgnI sgnS sgnP
  rw [hy, Int.toNat_natCast, Int.toNat_natCast]
  exact ⟨⟨_, rfl, A, 18, c, B, n, d, rfl, l1, l2⟩, hb⟩

end S
end Go.Proofs.YthdjdlndfkemiaaDoor
