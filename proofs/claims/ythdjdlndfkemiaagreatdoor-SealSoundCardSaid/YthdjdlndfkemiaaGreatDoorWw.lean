/- Seals, the reference: the walk of 'Checked'. -/
import Derived.Test.YthdjdlndfkemiaaGreatDoorWs
import Derived.Test.YthdjdlndfkemiaaGreatDoorWt
set_option linter.unusedSimpArgs false
set_option linter.unusedVariables false
set_option maxRecDepth 100000
namespace Go.Proofs.YthdjdlndfkemiaaGreatDoor
open Go.RowKit
namespace S

theorem enK_dig {m : Tx} {sig : List Tx} (h8 : sig.length = 18) (hs : sig.all isD = true) : ∀ t ∈ enK m sig 18, isD t = true := endsV_dig h8 hs
theorem few_dig {l : List Tx} (h : ∀ t ∈ l, isD t = true) (hl : l.length ≤ 30) : fewB l 200 = true := by
  unfold fewB
  rw [Bool.and_eq_true]
  refine ⟨List.all_eq_true.2 fun t ht => ?_, decide_eq_true hl⟩
  have h := isD_len (h t ht)
  simp only [decide_eq_true_eq]
  omega
theorem leafT_few (k : Tx) (h : isD k = true) : fewB [leafT, k] 200 = true := by
  have h := isD_len h
  unfold fewB
  simp [leafT, h]
/-- A row of texts that a drawn region's operation made. -/
def owF (B n m : Nat) (C : List Tx) (d : Nat) (v : Value) (w : World) : Prop := d = n → ∃ A c, v = .slice A m c ∧ Own B w (.slice A m c) C
theorem owF_s {B n m : Nat} {C : List Tx} : ∀ d v w w', owF B n m C d v w → Reg.Keep (fun _ => False) w w' → owF B n m C d v w' := fun _ _ _ _ h k e => by
  obtain ⟨A, c, e1, ho⟩ := h e
  exact ⟨A, c, e1, ho.below (below_no k)⟩
theorem checked_tx (m : Tx) (sig : List Tx) {i : Nat} {p : List Tx} (hi : i < 2 ^ p.length) : checkedT m sig i p = chK m sig 18 ++ [joinT (enK m sig 18), joinT [leafT, listL (enK m sig 18)]] ++ txK (leaf (listL (enK m sig 18))) i p p.length := by
  rw [checked_eq, (atK_end _ hi).2]
theorem half_pow (i j : Nat) : i / 2 ^ j / 2 = i / 2 ^ (j + 1) := by rw [Nat.div_div_eq_div_mul, Nat.pow_succ]

attribute [local go_sem ↓ high] Ap.builtin_appA in
set_option maxHeartbeats 16000000 in
theorem checked_any (m : Tx) (i : Nat) (A B : Option Addr) (c k d : Nat) (sig p : List Tx) (w : World) (h1 : Lst w A 18 c sig) (h2 : Lst w B k d p) (hs : sig.all isD = true) (hp : p.all isD = true) (hk : k ≤ 8) (hi : i < 2 ^ k) (hm : m.length ≤ 140737488351232) :
    Calls Tryz.prog 20 #[.string (str m), .agg #[.int .i64 i, .slice A 18 c, .slice B k d]] w fun e w' => (∃ A' c', e = .returned (.slice A' (checkedT m sig i p).length c') ∧ Own w.heap.size w' (.slice A' (checkedT m sig i p).length c') (checkedT m sig i p)) ∧ Below w.heap.size w w' := by
  have hlp := h2.len
  have hls := h1.len
  have hal : Below w.heap.size w (w.alloc (.cells #[.int .i64 i, .slice A 18 c, .slice B k d] 29)) := (Below.refl _ _).alloc (Nat.le_refl _) _
  have HDi := Lib.hid (fun W => rdigits_any m W hm)
  have hci := checked_tx m sig (i := i) (p := p) (by rw [hlp]; exact hi)
  rw [hlp] at hci
  have HEq := Lib.hid hci
  have HPd : Hid (∀ t ∈ p, isD t = true) := fun t ht => List.all_eq_true.1 hp t ht
  have HSd : Hid (∀ t ∈ sig, isD t = true) := fun t ht => List.all_eq_true.1 hs t ht
  have HEd := Lib.hid (enK_dig (m := m) hls hs)
  have HK8 := Lib.hid (And.intro hk (And.intro hlp hls))
  have hi256 : i < 256 := by have := Nat.pow_le_pow_right (n := 2) (by decide) hk; omega
  have HR := Lib.hid (And.intro h1 h2)
  have k1 := Reg.Blk.new w #[.int .i64 i, .slice A 18 c, .slice B k d] 29
  generalize hRR : checkedT m sig i p = R at *
  clear h1 h2 hp hs hci hi hm hlp hls hRR
  go_enter Tryz.func20, Tryz.ntmps20
  go_wp2_with fail
  (with_reducible refine (HDi.out _).mono ?_); rintro e w1 ⟨⟨A5, c5, rfl, hd⟩, hb⟩
  have HI := Lib.hid hd.ints
  have HB := Lib.hid (hal.trans (hb.mono hal.size))
  have KS := Lib.hid (k1.keep hb)
  have HL := Lib.hid (And.intro (HR.out.1.below HB.out) (HR.out.2.below HB.out))
  clear hd hb hal k1 HDi HR
  generalize hgS : w.heap.size = gS at *
  have HGS := Lib.hid hgS
  clear hgS
  go_wp2_with fail
  go_loopw [6, 7, 8] (fun v6 v7 x wr => ∃ (q : Nat) (L6 L7 : List Tx) (A6 A7 : Option Addr) (c6 c7 : Nat), q ≤ 18 ∧ L6 = chK m sig q ∧ L7 = enK m sig q ∧ v6 = .slice A6 L6.length c6 ∧ v7 = .slice A7 L7.length c7 ∧ x = .int .i64 q ∧
      St3 w1 wr (.slice A6 L6.length c6) (.slice A7 L7.length c7) (.slice none 0 0) L6 L7 []) (fun _ _ x _ => 18 - (intOf x).toNat)
  case atStart => exact ⟨0, [], [], none, none, 0, 0, Nat.zero_le _, rfl, rfl, rfl, rfl, rfl, ⟨Own.nil _ _, Own.nil _ _, Own.nil _ _, Dis.nil _, Dis.nil _, Dis.nil _, Below.refl _ _⟩⟩
  case round =>
    obtain ⟨q, L6, L7, A6, A7, c6, c7, hq, hL6, hL7, rfl, rfl, rfl, hst⟩ := hrel
    have H3 := Lib.hid hst
    have HQ := Lib.hid (And.intro hL6 hL7)
    have h6b : L6.length ≤ 288 := by rw [hL6]; have := chK_len m sig q; omega
    have h7b : L7.length ≤ 18 := by rw [hL7, enK_len]; exact hq
    obtain ⟨cs, fs, zs⟩ := (KS.out.keep hst.blw).facts
    clear hst hL6 hL7
    by_cases hlt : q < 18
    · have hji : decide ((q : Int) < 18) = true := decide_eq_true (by omega)
      obtain ⟨b, off, eA, hlb, c0⟩ := (HL.out.1.below H3.out.blw).at_ q (by rw [HK8.out.2.2]; exact hlt)
      obtain ⟨b5, off5, eA5, hlb5, c1⟩ := (HI.out.below H3.out.blw) q (by rw [ds_len]; exact hlt)
      have es : sig[q]? = some (sig[q]'(by rw [HK8.out.2.2]; exact hlt)) := List.getElem?_eq_getElem _
      have ds := HSd.out _ (List.getElem_mem (show q < sig.length by rw [HK8.out.2.2]; exact hlt))
      generalize sig[q]'(by rw [HK8.out.2.2]; exact hlt) = t at *
      have c1' : wr.cell? ⟨b5, off5 + q, none⟩ = some (.int .i64 (dk m q : Nat)) := c1
      clear c1
      have hdk := dk_le m q
      obtain ⟨u, hu⟩ : ∃ u, u = 15 - dk m q := ⟨_, rfl⟩
      have HC : Hid (chK m sig (q + 1) = L6 ++ chs t u) := by unfold Hid; rw [chK_succ, HQ.out.1, es, hu]; rfl
      have HE : Hid (enK m sig (q + 1) = L7 ++ [chn t u]) := by unfold Hid; rw [enK_succ, HQ.out.2, es, hu]; rfl
      have HCh := Lib.hid (fun W => chained_any t u W (by omega) (by have := isD_len ds; omega))
      have HGt := Lib.hid (chs_get t u u (Nat.le_refl _))
      have HCl := Lib.hid (chs_len t u)
      have hu15 : u ≤ 15 := by omega
      have hq18 : (q : Int) < 18 := by omega
      have hq0 : (0 : Int) ≤ (q : Int) := by omega
      have hwu : IntKind.i64.wrap ((15 : Int) - (dk m q : Int)) = (u : Int) := by rw [IntWalk.i64_left, IntWalk.wrap64_in _ (by omega)]; omega
      have HWU := Lib.hid hwu
      have HSc : Hid (∀ W, Below w1.heap.size w1 W → ∀ b5 off5, A5 = some ⟨b5, off5, none⟩ → b5 < W.heap.size ∧ W.cell? ⟨b5, off5 + q, none⟩ = some (.int .i64 (dk m q : Nat))) := fun W h b5 off5 e => by
        obtain ⟨b2, o2, e2, h2, q0⟩ := (HI.out.below h) q (by rw [ds_len]; exact hlt)
        rw [e] at e2
        cases e2
        exact ⟨h2, q0⟩
      generalize dk m q = D at *
      generalize chn t u = E at *
      generalize chs t u = C at *
      subst eA
      subst eA5
      clear hu ds es
      go_wp2_with fail
      refine Reg.wp_region_tail (fun _ => False) (owF wr.heap.size 10 (u + 1) C) (fun _ _ => True) (by kernel_rfl) (by kernel_rfl) owF_s (fun _ _ _ _ _ => trivial) trivial ?_
      simp only
      iterate 10
        apply Reg.SeqT.val
        rotate_left 2
        · intro δ W hW hkn K hK
          obtain ⟨hc, hf, _⟩ := Reg.kcell hW
          simp only [Act.put, List.setIfInBounds_toArray, List.set_cons_zero, List.set_cons_succ] at hK
          unfold Reg.Does
          go_simp
          try simp only [IntWalk.i64_left]
          first
            | exact hK _ (Below.refl _ _)
            | (trace_state; fail)
        rotate_left 1
        · intro δ δ' hd; first | rfl | (simp only [hd _ (show Reg.reach _ 12 _ _ = true by kernel_rfl)])
        · intro x w; first | exact trivial | (intro e; exact absurd e (by decide)) | exact ⟨fun e => absurd e (by decide), fun e => absurd e (by decide)⟩
        simp only [Act.put, List.setIfInBounds_toArray, List.set_cons_zero, List.set_cons_succ, List.nil_append, List.cons_append, Nat.reduceAdd, Nat.zero_add]
      refine Reg.SeqT.new (fun δ W2 hW hkn K hK => ?_) ?_
      · simp only [Act.put, List.setIfInBounds_toArray, List.set_cons_zero, List.set_cons_succ] at hK
        unfold Reg.Does
        go_simp
        (with_reducible refine (HCh.out W2).mono ?_); rintro e w' ⟨⟨Ax, cx, rfl, ho⟩, hb⟩
        exact hK _ _ hb (fun _ => ⟨Ax, cx, rfl, Ap.own_base ho hW.size⟩)
      simp only [Act.put, List.setIfInBounds_toArray, List.set_cons_zero, List.set_cons_succ, List.nil_append, List.cons_append, Nat.reduceAdd, Nat.zero_add]
      refine Reg.SeqT.tail (by kernel_rfl) (fun δ W2 hW hkn _ => ?_)
      obtain ⟨A9, c9, e9, ho9⟩ := hkn 10 (by omega) rfl
      rw [e9]
      refine Reg.tail_cons ?_
      unfold Reg.Does
      go_simp
      refine Reg.tail_nil ?_
      have eC : C[u]'(by rw [HCl.out]; omega) = E := Option.some.inj ((List.getElem?_eq_getElem _).symm.trans HGt.out)
      have hd9 : Dis (.slice A9 (u + 1) c9) (.slice A6 L6.length c6) := dis_fresh H3.out.o7 ho9
      obtain ⟨A4, c4, w8, hrun, hs8, hk8⟩ := (H3.out.below (below_no hW)).push (ho9.lst' HCl.out) (by omega)
      have hl8' : Lst w8 A9 (u + 1) c9 C := (hk8 _ _ (Ap.own_base ho9 H3.out.blw.size) hd9).lst' HCl.out
      obtain ⟨b9, off9, eA9, hlb9, c09⟩ := hl8'.at_ u (by rw [HCl.out]; omega)
      rw [eC] at c09
      clear c0 c1' hlb hlb5 cs fs zs
      obtain ⟨hlb5, c1⟩ := HSc.out w8 hs8.blw b5 off5 rfl
      obtain ⟨A3, c3, w9, hrun2, hs9⟩ := hs8.swap8.push1 E (by omega)
      have H9 := Lib.hid hs9.swap8
      have e8 : (L6 ++ C).length = L6.length + (u + 1) := by rw [List.length_append, HCl.out]
      have e9' : (L7 ++ [E]).length = L7.length + 1 := by rw [List.length_append]; rfl
      have HE8 := Lib.hid (And.intro e8 e9')
      rw [e8] at hrun
      rw [e9'] at hrun2
      have hu0 : (0 : Int) ≤ (u : Int) := by omega
      have hu1 : (u : Int) < (u : Int) + 1 := by omega
      subst eA9
      clear eC hd9 hs8 hk8 hl8' hs9 e8 e9' e9 ho9 hkn hW HSc
      go_wp2_with fail
      have q3 : 18 - (intOf (Value.int IntKind.i64 ((q : Int) + 1))).toNat < 18 - (intOf (Value.int IntKind.i64 (q : Int))).toNat := by simp [intOf]; omega
      exact ⟨⟨q + 1, L6 ++ C, L7 ++ [E], A4, A3, c4, c3, hlt, HC.out.symm, HE.out.symm, by rw [HE8.out.1], by rw [HE8.out.2], rfl, H9.out⟩, q3⟩
    · obtain rfl : q = 18 := by omega
      have hji : decide (((18 : Nat) : Int) < 18) = false := decide_eq_false (by omega)
      obtain ⟨EN, hEN⟩ : ∃ EN, EN = enK m sig 18 := ⟨_, rfl⟩
      have hdE := HEd.out
      have hlE : EN.length ≤ 30 := by rw [hEN, enK_len]; omega
      have hq2 := HQ.out.2
      have hEq := HEq.out
      have hq1 := HQ.out.1
      rw [← hEN] at hdE hq2 hEq
      rw [← hq1] at hEq
      clear hq1
      subst hq2
      have hj := joined_any A7 c7 L7 wr (H3.out.o8.lst' rfl).at_ (few_dig hdE hlE)
      have hsk : ∀ W, Calls Tryz.prog 21 #[.string (str (joinT L7))] W fun e w' => e = .returned (.string (str (listL L7))) ∧ w' = W := fun W => rsumS (joinT L7) W (few_join (few_dig hdE hlE))
      have hjl : ∀ W, Calls Tryz.prog 36 #[.slice (some ⟨W.heap.size, 0, none⟩) 2 2] (W.alloc (.cells #[.string { data := #[108, 101, 97, 102] }, .string (str (listL L7))] 9)) fun e w' => e = .returned (.string (str (joinT [leafT, listL L7]))) ∧ Below W.heap.size W w' :=
        fun W => joined_lit [leafT, listL L7] W (leafT_few _ (isD_list _))
      have hsl : ∀ W, Calls Tryz.prog 21 #[.string (str (joinT [leafT, listL L7]))] W fun e w' => e = .returned (.string (str (leaf (listL L7)))) ∧ w' = W := fun W => rsumS (joinT [leafT, listL L7]) W (few_join (leafT_few _ (isD_list _)))
      have hfd : isD (leaf (listL L7)) = true := isD_sum _
      have HJn := Lib.hid hj
      have HSk := Lib.hid hsk
      have HJl := Lib.hid hjl
      have HSl := Lib.hid hsl
      have HFd := Lib.hid hfd
      have HEq2 := Lib.hid hEq
      clear hj hsk hjl hsl hfd hEq HEq hdE hEN hlE HQ HEd HSd
      generalize leaf (listL L7) = F at *
      generalize joinT [leafT, listL L7] = JL at *
      generalize joinT L7 = J at *
      generalize listL L7 = K at *
      go_wp2_with fail
      (with_reducible refine HJn.out.mono ?_); rintro e w2 ⟨rfl, hb⟩
      have H4 := Lib.hid (H3.out.below hb)
      clear hb cs fs zs
      go_wp2_with fail
      (with_reducible refine (HSk.out _).mono ?_); rintro e w3 ⟨rfl, rfl⟩
      go_wp2_with fail
      (with_reducible refine (HJl.out _).mono ?_); rintro e w4 ⟨rfl, hb⟩
      replace H4 := Lib.hid (H4.out.below hb)
      obtain ⟨A3, c3, w5, hrun, hs5⟩ := H4.out.push2 J JL (by omega)
      have H5 := Lib.hid hs5
      have e5 : (L6 ++ [J, JL]).length = L6.length + 2 := by rw [List.length_append]; rfl
      rw [e5] at hrun
      have h6b2 : (L6 ++ [J, JL]).length ≤ 290 := by omega
      obtain ⟨PRE, hPRE⟩ : ∃ PRE, PRE = L6 ++ [J, JL] := ⟨_, rfl⟩
      have HP5 := Lib.hid (And.intro e5 hPRE)
      rw [← hPRE] at HEq2 h6b2
      clear hb hs5 e5 H4 H3 hPRE HJn HSk HJl
      go_wp2_with fail
      (with_reducible refine (HSl.out _).mono ?_); rintro e w6 ⟨rfl, rfl⟩
      obtain ⟨cs, fs, zs⟩ := (KS.out.keep H5.out.blw).facts
      go_wp2_with fail
      clear cs fs zs
      go_loopw [6, 12, 13, 14] (fun v6 v12 v13 x wr => ∃ (j : Nat) (L : List Tx) (A6 : Option Addr) (c6 : Nat), j ≤ k ∧ L = PRE ++ txK F i p j ∧ v6 = .slice A6 L.length c6 ∧ v12 = .string (str (atK F i p j)) ∧ v13 = .int .i64 ((i / 2 ^ j : Nat) : Int) ∧ x = .int .i64 j ∧
        Own w1.heap.size wr (.slice A6 L.length c6) L ∧ Below w1.heap.size w1 wr) (fun _ _ _ x _ => k - (intOf x).toNat)
      case atStart => exact ⟨0, PRE, A3, c3, Nat.zero_le _, by rw [txK_zero, List.append_nil], by rw [HP5.out.2, HP5.out.1], by rw [atK_zero], by rw [Nat.pow_zero, Nat.div_one], rfl, by rw [HP5.out.2]; exact H5.out.o7, H5.out.blw⟩
      case round =>
        obtain ⟨j, L, A6', c6', hj, hL, rfl, rfl, rfl, rfl, ho, hbw⟩ := hrel
        have HO := Lib.hid ho
        have HBw := Lib.hid hbw
        have HLq := Lib.hid hL
        have hlb : L.length ≤ 300 := by rw [hL, List.length_append, txK_len _ _ _ _ (by rw [HK8.out.2.1]; exact hj)]; omega
        obtain ⟨cs, fs, zs⟩ := (KS.out.keep hbw).facts
        clear ho hbw hL
        by_cases hlt : j < k
        · have hji2 : decide ((j : Int) < (k : Int)) = true := decide_eq_true (by omega)
          obtain ⟨b, off, eA, hlb2, c0⟩ := (HL.out.2.below HBw.out).at_ j (by rw [HK8.out.2.1]; exact hlt)
          have hjp : j < p.length := by rw [HK8.out.2.1]; exact hlt
          have hx : p[j]? = some (p[j]'hjp) := List.getElem?_eq_getElem _
          have st : Sh (p[j]'hjp) := isD_sh (HPd.out _ (List.getElem_mem hjp))
          have sa : Sh (atK F i p j) := isD_sh (atK_dig F i p HFd.out j (Nat.le_of_lt hjp))
          have HPt : Hid (p[j]'hjp = p[j]'hjp) := rfl
          generalize hpt : p[j]'hjp = t at *
          replace HPt := Lib.hid hpt
          clear hpt
          subst eA
          have hj0 : (0 : Int) ≤ (j : Int) := by omega
          have hjk : (j : Int) < (k : Int) := by omega
          have HN1 := Lib.hid (fun W => rsnode_any (atK F i p j) t sa st W)
          have HN2 := Lib.hid (fun W => rsnode_any t (atK F i p j) st sa W)
          have HS1 := Lib.hid (fun W => rsumS (jn (atK F i p j) t) W (jn_len sa st))
          have HS2 := Lib.hid (fun W => rsumS (jn t (atK F i p j)) W (jn_len st sa))
          have hey := atK_even F i hx
          have hoy := atK_odd F i hx
          have hhp := half_pow i j
          have hy256 : i / 2 ^ j ≤ 256 := Nat.le_trans (Nat.div_le_self _ _) (by omega)
          generalize atK F i p j = T at *
          generalize i / 2 ^ j = y at *
          have htd := tdiv2 y
          have htm : Int.tmod (y : Int) 2 = ((y % 2 : Nat) : Int) := by rw [Int.tmod_eq_emod_of_nonneg (by omega)]; omega
          have HYY := Lib.hid hhp
          have HEO := Lib.hid (And.intro hey hoy)
          clear hey hoy hhp st sa hx
          go_wp2_with fail
          (with_reducible refine (HN1.out _).mono ?_); rintro e w7 ⟨rfl, hb⟩
          have HB7 := Lib.hid (HBw.out.trans (hb.mono HBw.out.size))
          have HO7 := Lib.hid (HO.out.below hb)
          clear hb cs fs zs c0 hlb2
          rcases Nat.mod_two_eq_zero_or_one y with h0 | h0
          · have hat := (HEO.out.1 h0)
            have HAt := Lib.hid hat.1
            have HTx := Lib.hid hat.2
            clear hat
            obtain ⟨A9, c9, w9, hrun, ho9, hL9⟩ := app1 (jn T t) HO7.out (by omega) HB7.out HB7.out.size
            have HO9 := Lib.hid ho9
            have HB9 := Lib.hid hL9
            have e1 : (L ++ [jn T t]).length = L.length + 1 := by rw [List.length_append]; rfl
            rw [e1] at hrun
            have HE1 := Lib.hid e1
            clear ho9 hL9 e1
            go_wp2_with fail
            (with_reducible refine (HS1.out _).mono ?_); rintro e w10 ⟨rfl, rfl⟩
            go_wp2_with fail
            have q1 : Value.int IntKind.i64 ((y : Int) / 2) = Value.int IntKind.i64 ((i / 2 ^ (j + 1) : Nat) : Int) := congrArg (Value.int IntKind.i64) (by rw [← HYY.out]; omega)
            exact ⟨⟨j + 1, L ++ [jn T t], A9, c9, hlt, by rw [HTx.out, ← List.append_assoc, ← HLq.out], by rw [HE1.out], by rw [HAt.out, node_sum], q1, rfl, HO9.out, HB9.out⟩, by simp [intOf]; omega⟩
          · have hat := (HEO.out.2 h0)
            have HAt := Lib.hid hat.1
            have HTx := Lib.hid hat.2
            clear hat
            obtain ⟨cs, fs, zs⟩ := (KS.out.keep HB7.out).facts
            obtain ⟨b2, off2, eA2, hlb2, c0⟩ := (HL.out.2.below HB7.out).at_ j (by rw [HK8.out.2.1]; exact hlt)
            cases eA2
            rw [HPt.out] at c0
            go_wp2_with fail
            (with_reducible refine (HN2.out _).mono ?_); rintro e w8 ⟨rfl, hb⟩
            have HB8 := Lib.hid (HB7.out.trans (hb.mono HB7.out.size))
            have HO8 := Lib.hid (HO7.out.below hb)
            clear hb cs fs zs c0 hlb2
            obtain ⟨A9, c9, w9, hrun, ho9, hL9⟩ := app1 (jn t T) HO8.out (by omega) HB8.out HB8.out.size
            have HO9 := Lib.hid ho9
            have HB9 := Lib.hid hL9
            have e1 : (L ++ [jn t T]).length = L.length + 1 := by rw [List.length_append]; rfl
            rw [e1] at hrun
            have HE1 := Lib.hid e1
            clear ho9 hL9 e1
            go_wp2_with fail
            (with_reducible refine (HS2.out _).mono ?_); rintro e w10 ⟨rfl, rfl⟩
            go_wp2_with fail
            have q1 : Value.int IntKind.i64 ((y : Int) / 2) = Value.int IntKind.i64 ((i / 2 ^ (j + 1) : Nat) : Int) := congrArg (Value.int IntKind.i64) (by rw [← HYY.out]; omega)
            exact ⟨⟨j + 1, L ++ [jn t T], A9, c9, hlt, by rw [HTx.out, ← List.append_assoc, ← HLq.out], by rw [HE1.out], by rw [HAt.out, node_sum], q1, rfl, HO9.out, HB9.out⟩, by simp [intOf]; omega⟩
        · obtain rfl : j = k := by omega
          have hji2 : decide ((j : Int) < (j : Int)) = false := decide_eq_false (by omega)
          have hRL : R = L := by rw [HEq2.out, HLq.out, HP5.out.2]
          have HRL := Lib.hid hRL
          clear hRL
          go_wp2_with fail
          go_ret
          refine ⟨⟨A6', c6', by rw [HRL.out]; rfl, ?_⟩, ?_⟩
          · rw [HRL.out]; exact Ap.own_base HO.out HB.out.size
          · have h1 := HB.out.trans (HBw.out.mono (by rw [← HGS.out]; exact HB.out.size))
            rw [← HGS.out] at h1
            exact h1

end S
end Go.Proofs.YthdjdlndfkemiaaGreatDoor

/- Seals: the region that ends the laws of soundness: 'Made', 'Checked', append, 'Shown'. -/
namespace Go.Proofs.YthdjdlndfkemiaaGreatDoor
open Go.RowKit
namespace S

def mcF (B m n : Nat) (M C : List Tx) (d : Nat) (v : Value) (w : World) : Prop :=
  (d = 4 → ∃ A c, v = .slice A m c ∧ Own B w (.slice A m c) M) ∧ (d = 7 → ∃ A c, v = .slice A n c ∧ Own B w (.slice A n c) C)
theorem mcF_s {B m n : Nat} {M C : List Tx} : ∀ d v w w', mcF B m n M C d v w → Reg.Keep (fun _ => False) w w' → mcF B m n M C d v w' := fun _ _ _ _ h k =>
  ⟨fun e => by obtain ⟨A, c, e1, ho⟩ := h.1 e; exact ⟨A, c, e1, ho.below (below_no k)⟩, fun e => by obtain ⟨A, c, e1, ho⟩ := h.2 e; exact ⟨A, c, e1, ho.below (below_no k)⟩⟩
theorem does_app2 {ops : Array Oper} {o : Oper} {a : Act} {K : Act → World → Prop} {w0 w : World} (hw : Region.wanted o (yielded ops a.tmps) = true) (s x : Operand) (ho : o.op = .call { callee := .builtin .append, args := #[s, x], argTypes := #[27, 27] }) (hty : o.type = 27)
    {A0 A : Option Addr} {B c0 n c : Nat} {L M : List Tx} (hs : a.eval s = .slice A0 L.length c0) (hx : a.eval x = .slice A n c) (hown : Own B w (.slice A0 L.length c0) L) (hm : Lst w A n c M) (hn : L.length + n ≤ 1000000) (hB : Below B w0 w) (hBw : B ≤ w.heap.size)
    (hk : ∀ A' c' w', Own B w' (.slice A' (L ++ M).length c') (L ++ M) → Below B w0 w' → K (a.put o.dst (.slice A' (L ++ M).length c')) w') : Reg.Does Tryz.prog ops o a w K := by
  obtain ⟨A', c', w', hr, h2, h3⟩ := app2 hown hm hn hB hBw
  unfold Ap.appA at hr
  unfold Reg.Does
  rw [if_pos hw]
  unfold Oper.wp execOp
  simp only [ho, hty, resolve, invoke, builtin, Sem.run_bind, Sem.run_pure, Result.andThen_ok, List.map_toArray, List.map_cons, List.map_nil, hs, hx, hr]
  exact hk A' c' w' h2 h3

/-! What is digested for an accepted seal. -/
theorem txK_sh (d : Tx) (i : Nat) (p : List Tx) (hd : isD d = true) (hp : p.all isD = true) : ∀ k, k ≤ p.length → ∀ t ∈ txK d i p k, t.length ≤ 140737488351232
  | 0, _, t, h => by rw [txK_zero] at h; simp at h
  | k + 1, hk, t, h => by
    have hx : p[k]? = some p[k] := List.getElem?_eq_getElem (by omega)
    have h1 : Sh p[k] := isD_sh (List.all_eq_true.1 hp _ (List.getElem_mem _))
    have h2 : Sh (atK d i p k) := isD_sh (atK_dig d i p hd k (by omega))
    rcases Nat.mod_two_eq_zero_or_one (i / 2 ^ k) with h0 | h0
    · rw [(atK_even d i hx h0).2] at h
      rcases List.mem_append.1 h with h | h
      · exact txK_sh d i p hd hp k (by omega) t h
      · rw [List.mem_singleton.1 h]; exact jn_len h2 h1
    · rw [(atK_odd d i hx h0).2] at h
      rcases List.mem_append.1 h with h | h
      · exact txK_sh d i p hd hp k (by omega) t h
      · rw [List.mem_singleton.1 h]; exact jn_len h1 h2
theorem checked_b (m : Tx) (sig p : List Tx) (i : Nat) (h8 : sig.length = 18) (hs : sig.all isD = true) (hp : p.all isD = true) (hi : i < 2 ^ p.length) : ∀ t ∈ checkedT m sig i p, t.length ≤ 140737488351232 := fun t ht => by
  rw [checked_tx m sig hi, List.mem_append, List.mem_append] at ht
  rcases ht with (ht | ht) | ht
  · obtain ⟨l, hl, ht⟩ := List.mem_flatten.1 ht
    obtain ⟨k, hk, rfl⟩ := List.mem_map.1 hl
    have hk := List.mem_range.1 hk
    refine chs_b _ ?_ _ t ht
    rw [List.getElem?_eq_getElem (by omega)]
    exact List.all_eq_true.1 hs _ (List.getElem_mem _)
  · simp only [List.mem_cons, List.not_mem_nil, or_false] at ht
    rcases ht with ht | ht
    · rw [ht]; exact few_join (few_dig (enK_dig h8 hs) (by rw [enK_len]; omega))
    · rw [ht]; exact few_join (leafT_few _ (isD_list _))
  · exact txK_sh _ i p (isD_sum _) hp p.length (Nat.le_refl _) t ht
theorem checked_len (m : Tx) (sig p : List Tx) (i : Nat) (hp : p.length ≤ 8) (hi : i < 2 ^ p.length) : (checkedT m sig i p).length ≤ 300 := by
  rw [checked_tx m sig hi, List.length_append, List.length_append, txK_len _ _ _ _ (Nat.le_refl _)]
  have := chK_len m sig 18
  simp only [List.length_cons, List.length_nil]
  omega
/-- What the last region asks of 'Made' and 'Checked' at an accepted seal. -/
structure Last (s m : Tx) (h n i : Nat) (sig p : List Tx) : Prop where
  hh : h ≤ 2
  hs : s.length ≤ 300
  hm : m.length ≤ 140737488351232
  n1 : 15 ≤ n
  n2 : n ≤ 30
  l8 : sig.length = 18
  dg : sig.all isD = true
  dp : p.all isD = true
  p8 : p.length ≤ 8
  hi : i < 2 ^ p.length
  sh : shownB (madeT s h n ++ checkedT m sig i p) = true
theorem Last.made {s m : Tx} {h n i : Nat} {sig p : List Tx} (L : Last s m h n i sig p) (W : World) (ht : Tabs W) : Calls Tryz.prog 14 #[.string (str s), .int .i64 h, .int .i64 n] W fun e w' => (∃ A c, e = .returned (.slice A (madeT s h n).length c) ∧ Own W.heap.size w' (.slice A (madeT s h n).length c) (madeT s h n)) ∧ Below W.heap.size W w' :=
  made_any s h n W L.hh L.hs L.n1 L.n2 ht
theorem Last.made15 {s m : Tx} {h i : Nat} {sig p : List Tx} (L : Last s m h 15 i sig p) (W : World) (ht : Tabs W) : Calls Tryz.prog 14 #[.string (str s), .int .i64 h, .int .i64 15] W fun e w' => (∃ A c, e = .returned (.slice A (madeT s h 15).length c) ∧ Own W.heap.size w' (.slice A (madeT s h 15).length c) (madeT s h 15)) ∧ Below W.heap.size W w' :=
  L.made W ht
theorem Last.made30 {s m : Tx} {h i : Nat} {sig p : List Tx} (L : Last s m h 30 i sig p) (W : World) (ht : Tabs W) : Calls Tryz.prog 14 #[.string (str s), .int .i64 h, .int .i64 30] W fun e w' => (∃ A c, e = .returned (.slice A (madeT s h 30).length c) ∧ Own W.heap.size w' (.slice A (madeT s h 30).length c) (madeT s h 30)) ∧ Below W.heap.size W w' :=
  L.made W ht
theorem Last.checked {s m : Tx} {h n i : Nat} {sig p : List Tx} (L : Last s m h n i sig p) {A B : Option Addr} {c d k : Nat} {W : World} (h1 : Lst W A 18 c sig) (h2 : Lst W B k d p) : Calls Tryz.prog 20 #[.string (str m), .agg #[.int .i64 i, .slice A 18 c, .slice B k d]] W fun e w' => (∃ A' c', e = .returned (.slice A' (checkedT m sig i p).length c') ∧ Own W.heap.size w' (.slice A' (checkedT m sig i p).length c') (checkedT m sig i p)) ∧ Below W.heap.size W w' :=
  checked_any m i A B c k d sig p W h1 h2 L.dg L.dp (by rw [← h2.len]; exact L.p8) (by rw [← h2.len]; exact L.hi) L.hm
theorem Last.len {s m : Tx} {h n i : Nat} {sig p : List Tx} (L : Last s m h n i sig p) : (madeT s h n).length + (checkedT m sig i p).length ≤ 4000 := by
  have h1 := made_len s L.hh L.n2
  have h2 := checked_len m sig p i L.p8 L.hi
  omega
theorem Last.shown {s m : Tx} {h n i : Nat} {sig p : List Tx} (L : Last s m h n i sig p) {A : Option Addr} {c k : Nat} {W : World} (hl : Lst W A k c (madeT s h n ++ checkedT m sig i p)) : Calls Tryz.prog 13 #[.slice A k c] W fun e w' => e = .returned (.bool true) ∧ Below W.heap.size W w' := by
  have hk := shown_L hl (by rw [← hl.len, List.length_append]; have := L.len; omega) (app_b (made_b s h n L.hs) (checked_b m sig p i L.l8 L.dg L.dp L.hi))
  rw [L.sh] at hk
  exact hk

end S
end Go.Proofs.YthdjdlndfkemiaaGreatDoor
