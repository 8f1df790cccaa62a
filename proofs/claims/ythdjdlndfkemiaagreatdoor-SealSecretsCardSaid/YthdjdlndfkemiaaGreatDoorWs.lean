/- Seals, the reference: the walk of 'Made'. -/
import Derived.Test.YthdjdlndfkemiaaGreatDoorWp
import Derived.Test.YthdjdlndfkemiaaGreatDoorWa
set_option linter.unusedSimpArgs false
set_option linter.unusedVariables false
set_option maxRecDepth 100000
namespace Go.Proofs.YthdjdlndfkemiaaGreatDoor
open Go.RowKit
namespace S

theorem out_in_len (s : Tx) (n i k : Nat) (hn : n ≤ 30) (hi : i ≤ 4) (hk : k ≤ 18) : (outK s n i ++ inK s n i k).length ≤ 10000 := by
  rw [List.length_append, outK_len, inK_len]
  have h1 := out_bound hn hi
  have h2 : k * (n + 2) ≤ 18 * 32 := Nat.mul_le_mul hk (by omega)
  omega
attribute [local go_sem ↓ high] Ap.builtin_appA in
set_option maxHeartbeats 16000000 in
theorem made_any (s : Tx) (h n : Nat) (w : World) (hh : h ≤ 2) (hs : s.length ≤ 300) (hn1 : 15 ≤ n) (hn2 : n ≤ 30) (ht : Tabs w) :
    Calls Tryz.prog 14 #[.string (str s), .int .i64 h, .int .i64 n] w fun e w' => (∃ A c, e = .returned (.slice A (madeT s h n).length c) ∧ Own w.heap.size w' (.slice A (madeT s h n).length c) (madeT s h n)) ∧ Below w.heap.size w w' := by
  have hN4 : 2 ^ h ≤ 4 := by
    have := Nat.pow_le_pow_right (n := 2) (by decide) hh
    simpa using this
  have HP := Lib.hid (fun W => rpower_any h W (by omega))
  have HD := Lib.hid (fun (k : Nat) W (hk : k ≤ 18) => decimal_any k W (by omega))
  have HX := Lib.hid (fun (i k : Nat) W => startX_any s i k W hs)
  have HS : Hid (∀ (i k : Nat) W, Calls Tryz.prog 21 #[.string (str (startX s i k))] W fun e w' => e = .returned (.string (str (startT s i k))) ∧ w' = W) := fun i k W => by
    have h := rsumS (startX s i k) W (startX_len hs)
    rw [← start_sum] at h
    exact h
  have HC := Lib.hid (fun (i k : Nat) W => chained_any (startT s i k) n W (by omega) (by have := isD_len (isD_start s i k); omega))
  have HM : Hid (madeT s h n = outK s n (2 ^ h) ++ lvT (h + 1) (levK s (2 ^ h))) := rfl
  have HNN := Lib.hid (And.intro hN4 (And.intro hn1 hn2))
  have HJ : Hid (∀ i, madeK s n i = madeK s n i) := fun _ => rfl
  have HPw : Hid (∃ N, 2 ^ h = N) := ⟨_, rfl⟩
  obtain ⟨N, hNe⟩ := HPw.out
  clear HPw
  have HPw := Lib.hid hNe
  rw [hNe] at HP HM HNN
  clear hNe
  clear hs hN4 hn1 hn2
  go_enter Tryz.func14, Tryz.ntmps14
  go_wp2_with fail
  go_loopw [7, 8, 9] (fun v7 v8 x wr => ∃ (i : Nat) (L7 L8 : List Tx) (A7 A8 : Option Addr) (c7 c8 : Nat), i ≤ N ∧ L7 = outK s n i ∧ L8 = levK s i ∧ v7 = .slice A7 L7.length c7 ∧ v8 = .slice A8 L8.length c8 ∧ x = .int .i64 i ∧
      St3 w wr (.slice A7 L7.length c7) (.slice A8 L8.length c8) (.slice none 0 0) L7 L8 []) (fun _ _ x _ => N - (intOf x).toNat)
  case atStart => exact ⟨0, [], [], none, none, 0, 0, Nat.zero_le _, rfl, rfl, rfl, rfl, rfl, ⟨Own.nil _ _, Own.nil _ _, Own.nil _ _, Dis.nil _, Dis.nil _, Dis.nil _, Below.refl _ _⟩⟩
  case round =>
    obtain ⟨i, L7, L8, A7, A8, c7, c8, hi, hL7, hL8, rfl, rfl, rfl, hst⟩ := hrel
    have H3 := Lib.hid hst
    have HL := Lib.hid (And.intro hL7 hL8)
    clear hst hL7 hL8
    go_wp2_with fail
    (with_reducible refine (HP.out _).mono ?_); rintro e w1 ⟨rfl, hb⟩
    replace H3 := Lib.hid (H3.out.below hb)
    clear hb
    by_cases hlt : i < N
    · have hji : decide ((i : Int) < (N : Int)) = true := decide_eq_true (by omega)
      go_wp2_with fail
      go_loopw [7, 10, 11] (fun v7 v10 x wr => ∃ (k : Nat) (L7' L10 : List Tx) (A7 A10 : Option Addr) (c7 c10 : Nat), k ≤ 18 ∧ L7' = outK s n i ++ inK s n i k ∧ L10 = endK s i k ∧ v7 = .slice A7 L7'.length c7 ∧ v10 = .slice A10 L10.length c10 ∧ x = .int .i64 k ∧
        St3 w wr (.slice A7 L7'.length c7) (.slice A8 L8.length c8) (.slice A10 L10.length c10) L7' L8 L10) (fun _ _ x _ => 18 - (intOf x).toNat)
      case atStart => exact ⟨0, L7, [], A7, none, c7, 0, Nat.zero_le _, by rw [HL.out.1]; unfold inK; simp, rfl, rfl, rfl, rfl, H3.out⟩
      case round =>
        obtain ⟨k, L7', L10, A7', A10, c7', c10, hk, hL7, hL10, rfl, rfl, rfl, hst⟩ := hrel
        have H4 := Lib.hid hst
        have HL4 := Lib.hid (And.intro hL7 hL10)
        clear hst hL7 hL10 H3
        by_cases hlt2 : k < 18
        · have hji2 : decide ((k : Int) < 18) = true := decide_eq_true (by omega)
          have hbd := out_in_len s n i k (show n ≤ 30 from HNN.out.2.2) (show i ≤ 4 by have := HNN.out.1; omega) hk
          rw [← HL4.out.1] at hbd
          have hi4 : i ≤ 18 := by have := HNN.out.1; omega
          have HSk := Lib.hid (HS.out i k)
          have HCk := Lib.hid (HC.out i k)
          have HXk := Lib.hid (HX.out i k)
          have HDi := Lib.hid (fun W => HD.out i W hi4)
          have HDk := Lib.hid (fun W => HD.out k W hk)
          have HB7 := Lib.hid hbd
          have HEn : Hid (endK s i (k + 1) = L10 ++ [chn (startT s i k) 15]) := by unfold Hid; rw [HL4.out.2]; exact endK_succ s i k
          have HIn : Hid (outK s n i ++ inK s n i (k + 1) = (L7' ++ [startX s i k]) ++ chs (startT s i k) n) := by
            unfold Hid
            rw [HL4.out.1, inK_succ]
            simp only [List.append_assoc]
          have HGt := Lib.hid (chs_get (startT s i k) n 15 HNN.out.2.1)
          have HCl := Lib.hid (chs_len (startT s i k) n)
          have hE10 : L10.length ≤ 18 := by rw [HL4.out.2, endK_len]; exact hk
          clear hbd hi4
          generalize startX s i k = X at *
          generalize startT s i k = T at *
          generalize chn T 15 = E at *
          generalize chs T n = C at *
          go_wp2_with fail
          (with_reducible refine (HDi.out _).mono ?_); rintro e w2 ⟨rfl, rfl⟩
          go_wp2_with fail
          (with_reducible refine (HDk.out _).mono ?_); rintro e w3 ⟨rfl, rfl⟩
          go_wp2_with fail
          (with_reducible refine (HXk.out _).mono ?_); rintro e w4 ⟨rfl, hb⟩
          replace H4 := Lib.hid (H4.out.below hb)
          obtain ⟨A3, c3, w5, hrun, hs5⟩ := H4.out.push1 X (by have := HB7.out; omega)
          have H5 := Lib.hid hs5
          have e5 : (L7' ++ [X]).length = L7'.length + 1 := by simp
          rw [e5] at hrun
          have HE5 := Lib.hid e5
          clear hb hs5 e5 H4
          go_wp2_with fail
          (with_reducible refine (HSk.out _).mono ?_); rintro e w6 ⟨rfl, rfl⟩
          go_wp2_with fail
          (with_reducible refine (HCk.out _).mono ?_); rintro e w7 ⟨⟨A, c, rfl, ho⟩, hb⟩
          have hs7 := H5.out.below hb
          have hd : Dis (.slice A (n + 1) c) (.slice A3 (L7' ++ [X]).length c3) := dis_fresh H5.out.o7 ho
          obtain ⟨A4, c4, w8, hrun, hs8, hk8⟩ := hs7.push (ho.lst' HCl.out) (by rw [HE5.out]; have := HB7.out; have := HNN.out; omega)
          have hl8 := hk8 _ _ (Ap.own_base ho H5.out.blw.size) hd
          have hl8' : Lst w8 A (n + 1) c C := Own.lst' hl8 HCl.out
          obtain ⟨b, off, eA, hlb, c0⟩ := hl8'.at_ 15 (by rw [HCl.out]; have := HNN.out; omega)
          have eC : C[15]'(by rw [HCl.out]; have := HNN.out; omega) = E := Option.some.inj ((List.getElem?_eq_getElem _).symm.trans HGt.out)
          rw [eC] at c0
          obtain ⟨A5, c5, w9, hrun2, hs9⟩ := hs8.swap10.push1 E (by omega)
          have H9 := Lib.hid hs9.swap10
          have e8 : (L7' ++ [X] ++ C).length = (L7' ++ [X]).length + C.length := by simp only [List.length_append]
          have e9 : (L10 ++ [E]).length = L10.length + 1 := by simp
          subst eA
          have HE8 := Lib.hid e8
          have HE9 := Lib.hid e9
          have h15 : (15 : Int) < (n : Int) + 1 := by have := HNN.out; omega
          have h15n : 15 < n + 1 := by have := HNN.out; omega
          rw [HE5.out] at hrun
          clear hs7 hd hs8 hk8 hl8 hl8' eC hs9 e8 e9 ho hb
          go_wp2_with fail
          have q3 : 18 - (intOf (Value.int IntKind.i64 ((k : Int) + 1))).toNat < 18 - (intOf (Value.int IntKind.i64 (k : Int))).toNat := by simp [intOf]; omega
          have q4 : Value.slice A4 (L7'.length + (C.length + 1)) c4 = Value.slice A4 (L7' ++ [X] ++ C).length c4 := by
            rw [show L7'.length + (C.length + 1) = (L7' ++ [X] ++ C).length by rw [HE8.out, HE5.out]; omega]
          have q5 : Value.slice A5 (L10.length + 1) c5 = Value.slice A5 (L10 ++ [E]).length c5 := by rw [HE9.out]
          exact ⟨⟨k + 1, L7' ++ [X] ++ C, L10 ++ [E], A4, A5, c4, c5, hlt2, HIn.out.symm, HEn.out.symm, q4, q5, rfl, H9.out⟩, q3⟩
        · obtain rfl : k = 18 := by omega
          have hji2 : decide (((18 : Nat) : Int) < 18) = false := decide_eq_false (by omega)
          have hbd := out_in_len s n i 18 (show n ≤ 30 from HNN.out.2.2) (show i ≤ 4 by have := HNN.out.1; omega) (Nat.le_refl 18)
          rw [← HL4.out.1] at hbd
          have hj := joined_any A10 c10 L10 wr (H4.out.o10.lst' rfl).at_ (by rw [HL4.out.2]; exact ends_few s i)
          have hsk : ∀ W, Calls Tryz.prog 21 #[.string (str (joinT L10))] W fun e w' => e = .returned (.string (str (keyT s i))) ∧ w' = W := fun W => by
            have h := rsumS (joinT L10) W (by rw [HL4.out.2]; exact few_join (ends_few s i))
            rw [HL4.out.2, ← key_sum] at h
            rw [HL4.out.2]
            exact h
          have hjl : ∀ W, Calls Tryz.prog 36 #[.slice (some ⟨W.heap.size, 0, none⟩) 2 2] (W.alloc (.cells #[.string { data := #[108, 101, 97, 102] }, .string (str (keyT s i))] 9)) fun e w' => e = .returned (.string (str (joinT [leafT, keyT s i]))) ∧ Below W.heap.size W w' :=
            fun W => joined_lit [leafT, keyT s i] W (leafK_few s i)
          have hsl : ∀ W, Calls Tryz.prog 21 #[.string (str (joinT [leafT, keyT s i]))] W fun e w' => e = .returned (.string (str (leafK s i))) ∧ w' = W := fun W => by
            have h := rsumS (joinT [leafT, keyT s i]) W (few_join (leafK_few s i))
            rw [← leaf_sum] at h
            exact h
          have HOu : Hid (outK s n (i + 1) = L7' ++ [joinT L10, joinT [leafT, keyT s i]]) := by unfold Hid; rw [outK_succ, ← HL4.out.1, ← HL4.out.2]
          have HLe : Hid (levK s (i + 1) = L8 ++ [leafK s i]) := by unfold Hid; rw [levK_succ, HL.out.2]
          have hl8 : L8.length ≤ 4 := by rw [HL.out.2, levK_len]; have := HNN.out.1; omega
          have HJn := Lib.hid hj
          have HSk := Lib.hid hsk
          have HJl := Lib.hid hjl
          have HSl := Lib.hid hsl
          clear hj hsk hjl hsl
          generalize joinT [leafT, keyT s i] = JL at *
          generalize keyT s i = K at *
          generalize leafK s i = F at *
          generalize joinT L10 = J at *
          go_wp2_with fail
          (with_reducible refine HJn.out.mono ?_); rintro e w2 ⟨rfl, hb⟩
          replace H4 := Lib.hid (H4.out.below hb)
          clear hb
          go_wp2_with fail
          (with_reducible refine (HSk.out _).mono ?_); rintro e w3 ⟨rfl, rfl⟩
          go_wp2_with fail
          (with_reducible refine (HJl.out _).mono ?_); rintro e w4 ⟨rfl, hb⟩
          replace H4 := Lib.hid (H4.out.below hb)
          obtain ⟨A3, c3, w5, hrun, hs5⟩ := H4.out.push2 J JL (by omega)
          have H5 := Lib.hid hs5
          clear hb hs5 H4
          go_wp2_with fail
          (with_reducible refine (HSl.out _).mono ?_); rintro e w6 ⟨rfl, rfl⟩
          obtain ⟨A4, c4, w7, hrun2, hs7⟩ := H5.out.swap8.push1 F (by omega)
          have H7 := Lib.hid hs7.swap8
          clear hs7 H5
          go_wp2_with fail
          have hw : wrap64 ((i : Int) + 1) = ((i + 1 : Nat) : Int) := by rw [IntWalk.wrap64_in _ (by have := HNN.out.1; omega)]; rfl
          have q3 : N - (intOf (Value.int IntKind.i64 (wrap64 ((i : Int) + 1)))).toNat < N - (intOf (Value.int IntKind.i64 (i : Int))).toNat := by rw [hw]; simp [intOf]; omega
          have q4 : Value.slice A3 (L7'.length + 2) c3 = Value.slice A3 (L7' ++ [J, JL]).length c3 := by
            rw [show L7'.length + 2 = (L7' ++ [J, JL]).length by simp]
          have q5 : Value.slice A4 (L8.length + 1) c4 = Value.slice A4 (L8 ++ [F]).length c4 := by
            rw [show L8.length + 1 = (L8 ++ [F]).length by simp]
          exact ⟨⟨i + 1, L7' ++ [J, JL], L8 ++ [F], A3, A4, c3, c4, hlt, HOu.out.symm, HLe.out.symm, q4, q5, by rw [hw], H7.out.drop⟩, q3⟩
    · obtain rfl : i = N := by omega
      have hji : decide ((i : Int) < (i : Int)) = false := decide_eq_false (by omega)
      have hM : outK s n i ++ lvT (h + 1) (levK s i) = madeT s h n := HM.out.symm
      have h42 : i < 2 ^ (h + 1) ∧ i ≤ 4 := ⟨by rw [← HPw.out, Nat.pow_succ]; have := Nat.pow_pos (n := h) (show 0 < 2 by omega); omega, HNN.out.1⟩
      have hsh := levK_sh s i
      have hln := levK_len s i
      have hlo := outK_len s n i
      have hbo := out_bound HNN.out.2.2 HNN.out.1
      rw [← HL.out.1] at hM hlo
      rw [← HL.out.2] at hM hsh hln
      have HI := Lib.hid (And.intro hM (And.intro hsh (And.intro (show L8.length < 2 ^ (h + 1) by rw [hln]; exact h42.1) (show L8.length ≤ 4 by omega))))
      have HIo : Hid (L7.length ≤ 3000) := by unfold Hid; omega
      clear hM h42 hsh hln hlo hbo HPw HP HD HX HS HC HL HM HNN HJ
      obtain ⟨R, hRm⟩ : ∃ R, madeT s h n = R := ⟨_, rfl⟩
      rw [hRm] at HI
      have HRm := Lib.hid hRm
      clear hRm
      go_wp2_with fail
      go_loopw [7, 8] (fun v7 v8 wr => ∃ (f : Nat) (L7 L8 : List Tx) (A7 A8 : Option Addr) (c7 c8 : Nat), L7 ++ lvT f L8 = R ∧ (∀ t ∈ L8, Sh t) ∧ L8.length < 2 ^ f ∧ L8.length ≤ 4 ∧ L7.length + L8.length ≤ 3100 ∧ v7 = .slice A7 L7.length c7 ∧ v8 = .slice A8 L8.length c8 ∧
        St3 w wr (.slice A7 L7.length c7) (.slice A8 L8.length c8) (.slice none 0 0) L7 L8 []) (fun _ v8 _ => lenV v8)
      case atStart => exact ⟨h + 1, L7, L8, A7, A8, c7, c8, HI.out.1, HI.out.2.1, HI.out.2.2.1, HI.out.2.2.2, by have := HI.out.2.2.2; have := HIo.out; omega, rfl, rfl, H3.out⟩
      case round =>
        obtain ⟨f, L7, L8, A7, A8, c7, c8, hR, hsh, hlf, hl4, hlb, rfl, rfl, hst⟩ := hrel
        have H3 := Lib.hid hst
        have HR := Lib.hid (And.intro hR (And.intro hsh (And.intro hlf hlb)))
        clear hst hR hsh hlf hlb HI HIo
        by_cases h1 : 1 < L8.length
        · have hji3 : decide ((1 : Int) < (L8.length : Int)) = true := decide_eq_true (by omega)
          go_wp2_with fail
          go_loopw [7, 16, 17] (fun v7 v16 x wr => ∃ (j : Nat) (L7' L16 : List Tx) (A7 A16 : Option Addr) (c7 c16 : Nat), j ≤ L8.length / 2 ∧ L7' = L7 ++ prK L8 j ∧ L16 = ndK L8 j ∧ v7 = .slice A7 L7'.length c7 ∧ v16 = .slice A16 L16.length c16 ∧ x = .int .i64 ((2 * j : Nat) : Int) ∧
            St3 w wr (.slice A7 L7'.length c7) (.slice A8 L8.length c8) (.slice A16 L16.length c16) L7' L8 L16) (fun _ _ x _ => L8.length + 2 - (intOf x).toNat)
          case atStart => exact ⟨0, L7, [], A7, none, c7, 0, Nat.zero_le _, by unfold prK; simp, rfl, rfl, rfl, rfl, H3.out⟩
          case round =>
            obtain ⟨j, L7', L16, A7', A16, c7', c16, hj, hL7, hL16, rfl, rfl, rfl, hst⟩ := hrel
            have H4 := Lib.hid hst
            have HL4 := Lib.hid (And.intro hL7 hL16)
            have h7b : L7'.length ≤ 4000 := by rw [hL7, List.length_append, prK_len]; have := HR.out.2.2.2; omega
            have h16b : L16.length ≤ 4 := by rw [hL16, ndK_len]; omega
            clear hst hL7 hL16 H3
            obtain ⟨d, hd⟩ : ∃ d, d = 2 * j := ⟨_, rfl⟩
            rw [← hd]
            have HDd := Lib.hid hd
            clear hd
            by_cases hlt : d + 1 < L8.length
            · have hdl : d < L8.length := Nat.lt_of_succ_lt hlt
              obtain ⟨b, off, eA, hlb, c0⟩ := (H4.out.o8.lst' rfl).at_ d hdl
              obtain ⟨b1, off1, eA1, hlb1, c1⟩ := (H4.out.o8.lst' rfl).at_ (d + 1) hlt
              have ea : L8[d]? = some (L8[d]'hdl) := List.getElem?_eq_getElem hdl
              have eb : L8[d + 1]? = some (L8[d + 1]'hlt) := List.getElem?_eq_getElem hlt
              have sa : Sh (L8[d]'hdl) := HR.out.2.1 _ (List.getElem_mem hdl)
              have sb : Sh (L8[d + 1]'hlt) := HR.out.2.1 _ (List.getElem_mem hlt)
              generalize L8[d]'hdl = ta at *
              generalize L8[d + 1]'hlt = tb at *
              have HCn := Lib.hid (fun W => rsnode_any ta tb sa sb W)
              have HCs : Hid (∀ W, Calls Tryz.prog 21 #[.string (str (jn ta tb))] W fun e w' => e = .returned (.string (str (node ta tb))) ∧ Below W.heap.size W w') := fun W => by
                have h := rsumS (jn ta tb) W (jn_len sa sb)
                rw [← node_sum] at h
                exact h.mono fun e w' ⟨h1, h2⟩ => ⟨h1, by rw [h2]; exact Below.refl _ _⟩
              have HPr : Hid (L7 ++ prK L8 (j + 1) = L7' ++ [jn ta tb]) := by
                unfold Hid
                rw [prK_succ, ← HDd.out, ea, eb, HL4.out.1, List.append_assoc]
                simp only [Option.getD_some]
              have HNd : Hid (ndK L8 (j + 1) = L16 ++ [node ta tb]) := by
                unfold Hid
                rw [ndK_succ, ← HDd.out, ea, eb, HL4.out.2]
                simp only [Option.getD_some]
              have hcl : ∀ W, Lst W A8 L8.length c8 L8 → ∀ b off, A8 = some ⟨b, off, none⟩ → b < W.heap.size ∧ W.cell? ⟨b, off + d, none⟩ = some (.string (str ta)) ∧ W.cell? ⟨b, off + (d + 1), none⟩ = some (.string (str tb)) := fun W h b off e => by
                obtain ⟨b2, o2, e2, h2, q0⟩ := h.at_ d hdl
                obtain ⟨b3, o3, e3, h3, q1⟩ := h.at_ (d + 1) hlt
                rw [Option.some.inj ((List.getElem?_eq_getElem hdl).symm.trans ea)] at q0
                rw [Option.some.inj ((List.getElem?_eq_getElem hlt).symm.trans eb)] at q1
                rw [e] at e2 e3
                cases e2
                cases e3
                exact ⟨h2, q0, q1⟩
              clear ea eb sa sb
              generalize jn ta tb = X at *
              generalize node ta tb = Y at *
              have HCl : Hid (∀ W, Lst W A8 L8.length c8 L8 → b < W.heap.size ∧ W.cell? ⟨b, off + d, none⟩ = some (.string (str ta)) ∧ W.cell? ⟨b, off + (d + 1), none⟩ = some (.string (str tb))) := fun W h => hcl W h b off eA
              clear hcl
              subst eA
              clear eA1 c1 hlb1
              have i0 : (0 : Int) ≤ (d : Int) := by omega
              have i1 : (d : Int) < (L8.length : Int) := by omega
              have hji4 : decide ((d : Int) + 1 < (L8.length : Int)) = true := decide_eq_true (by omega)
              have i2 : (d : Int) + 1 < (L8.length : Int) := by omega
              have i3 : (0 : Int) ≤ (d : Int) + 1 := by omega
              have hd9 : d ≤ 8 := by omega
              obtain ⟨e, he⟩ : ∃ e, e = d + 1 := ⟨_, rfl⟩
              have hwe : IntKind.i64.wrap ((d : Int) + 1) = (e : Int) := by rw [IntWalk.i64_left, IntWalk.wrap64_in _ (by omega)]; omega
              have HWE := Lib.hid (And.intro hwe (And.intro (show (0 : Int) ≤ (e : Int) by omega) (And.intro (show (e : Int) < (L8.length : Int) by omega) (And.intro (show (d : Int) < (L8.length : Int) by omega) (show (0 : Int) ≤ (d : Int) by omega)))))
              rw [← he] at HCl
              have HEe := Lib.hid he
              clear he hwe c0 hlb i0 i1
              go_wp2_with fail
              obtain ⟨hwe, j0, j1, i1, i0⟩ := HWE.out
              obtain ⟨hlb, c0, c1⟩ := HCl.out wr (H4.out.o8.lst' rfl)
              clear i2 i3 hji4
              refine Reg.wp_region_tail (fun _ => False) (bxF X 11) (fun _ _ => True) (by kernel_rfl) (by kernel_rfl) bxF_s (fun _ _ _ _ _ => trivial) trivial ?_
              simp only
              iterate 11
                apply Reg.SeqT.val
                rotate_left 2
                · intro δ W hW hkn K hK
                  obtain ⟨hc, hf, _⟩ := Reg.kcell hW
                  simp only [Act.put, List.setIfInBounds_toArray, List.set_cons_zero, List.set_cons_succ] at hK
                  unfold Reg.Does
                  go_simp
                  try simp only [IntWalk.i64_left]
                  first
                    | exact hK _ (Below.refl _ _)
                    | (go_at_call 39; (with_reducible refine (HCn.out _).mono ?_); rintro e w' ⟨rfl, hb⟩; exact hK _ hb)
                    | (trace_state; fail)
                rotate_left 1
                · intro δ δ' hd; first | rfl | (simp only [hd _ (show Reg.reach _ 12 _ _ = true by kernel_rfl)])
                · intro x w; first | exact trivial | (intro e; exact absurd e (by decide)) | exact ⟨fun e => absurd e (by decide), fun e => absurd e (by decide)⟩
                simp only [Act.put, List.setIfInBounds_toArray, List.set_cons_zero, List.set_cons_succ, List.nil_append, List.cons_append, Nat.reduceAdd, Nat.zero_add]
              refine Reg.SeqT.new (fun δ W2 hW hkn K hK => ?_) ?_
              · simp only [Act.put, List.setIfInBounds_toArray, List.set_cons_zero, List.set_cons_succ] at hK
                unfold Reg.Does
                go_simp
                exact hK _ _ ((Below.refl _ _).alloc (Nat.le_refl _) _) (fun _ => ⟨W2.heap.size, rfl, Reg.Blk.new _ _ _⟩)
              simp only [Act.put, List.setIfInBounds_toArray, List.set_cons_zero, List.set_cons_succ, List.nil_append, List.cons_append, Nat.reduceAdd, Nat.zero_add]
              refine Reg.SeqT.tail (by kernel_rfl) (fun δ W2 hW hkn _ => ?_)
              obtain ⟨gx, ex, hx⟩ := hkn 11 (by omega) rfl
              rw [ex]
              refine Reg.tail_cons ?_
              refine does_push (by rfl) _ _ rfl rfl rfl rfl (H4.out.below (below_no hW)) (Lst.lit [X] (n := 1) rfl (by omega) hx) (by omega) ?_
              intro A2 c2 w4 ho
              have HO := Lib.hid ho
              clear ho hx ex hkn hW
              simp only [Act.put, List.setIfInBounds_toArray, List.set_cons_zero, List.set_cons_succ, List.nil_append, List.cons_append, Nat.reduceAdd, Nat.zero_add]
              refine Reg.tail_cons ?_
              unfold Reg.Does
              go_simp
              refine Reg.tail_nil ?_
              clear hwe j0 j1 i1 i0 hlb c0 c1
              go_wp2_with fail
              obtain ⟨hwe, j0, j1, i1, i0⟩ := HWE.out
              obtain ⟨hlb, c0, c1⟩ := HCl.out w4 (HO.out.o8.lst' rfl)
              refine Reg.wp_region_tail (fun _ => False) (bxF Y 12) (fun _ _ => True) (by kernel_rfl) (by kernel_rfl) bxF_s (fun _ _ _ _ _ => trivial) trivial ?_
              simp only
              iterate 12
                apply Reg.SeqT.val
                rotate_left 2
                · intro δ W hW hkn K hK
                  obtain ⟨hc, hf, _⟩ := Reg.kcell hW
                  simp only [Act.put, List.setIfInBounds_toArray, List.set_cons_zero, List.set_cons_succ] at hK
                  unfold Reg.Does
                  go_simp
                  try simp only [IntWalk.i64_left]
                  first
                    | exact hK _ (Below.refl _ _)
                    | (go_at_call 39; (with_reducible refine (HCn.out _).mono ?_); rintro e w' ⟨rfl, hb⟩; exact hK _ hb)
                    | (go_at_call 21; (with_reducible refine (HCs.out _).mono ?_); rintro e w' ⟨rfl, hb⟩; exact hK _ hb)
                    | (trace_state; fail)
                rotate_left 1
                · intro δ δ' hd; first | rfl | (simp only [hd _ (show Reg.reach _ 12 _ _ = true by kernel_rfl)])
                · intro x w; first | exact trivial | (intro e; exact absurd e (by decide)) | exact ⟨fun e => absurd e (by decide), fun e => absurd e (by decide)⟩
                simp only [Act.put, List.setIfInBounds_toArray, List.set_cons_zero, List.set_cons_succ, List.nil_append, List.cons_append, Nat.reduceAdd, Nat.zero_add]
              refine Reg.SeqT.new (fun δ W2 hW hkn K hK => ?_) ?_
              · simp only [Act.put, List.setIfInBounds_toArray, List.set_cons_zero, List.set_cons_succ] at hK
                unfold Reg.Does
                go_simp
                exact hK _ _ ((Below.refl _ _).alloc (Nat.le_refl _) _) (fun _ => ⟨W2.heap.size, rfl, Reg.Blk.new _ _ _⟩)
              simp only [Act.put, List.setIfInBounds_toArray, List.set_cons_zero, List.set_cons_succ, List.nil_append, List.cons_append, Nat.reduceAdd, Nat.zero_add]
              refine Reg.SeqT.tail (by kernel_rfl) (fun δ W2 hW hkn _ => ?_)
              obtain ⟨gx, ex, hx⟩ := hkn 12 (by omega) rfl
              rw [ex]
              refine Reg.tail_cons ?_
              refine does_push (by rfl) _ _ rfl rfl rfl rfl (HO.out.swap10.below (below_no hW)) (Lst.lit [Y] (n := 1) rfl (by omega) hx) (by omega) ?_
              intro A3 c3 w5 ho
              have HO2 := Lib.hid ho
              clear ho hx ex hkn hW
              simp only [Act.put, List.setIfInBounds_toArray, List.set_cons_zero, List.set_cons_succ, List.nil_append, List.cons_append, Nat.reduceAdd, Nat.zero_add]
              refine Reg.tail_cons ?_
              unfold Reg.Does
              go_simp
              refine Reg.tail_nil ?_
              clear hwe j0 j1 i1 i0 hlb c0 c1
              go_wp2_with fail
              have q1 : Value.int IntKind.i64 ((d : Int) + 2) = Value.int IntKind.i64 ((2 * (j + 1) : Nat) : Int) := congrArg (Value.int IntKind.i64) (by have := HDd.out; omega)
              have q2 : L8.length + 2 - (intOf (Value.int IntKind.i64 ((d : Int) + 2))).toNat < L8.length + 2 - (intOf (Value.int IntKind.i64 (d : Int))).toNat := by simp [intOf]; omega
              have q3 : j + 1 ≤ L8.length / 2 := by have := HDd.out; omega
              exact ⟨⟨j + 1, L7' ++ [X], L16 ++ [Y], A2, A3, c2, c3, q3, HPr.out.symm, HNd.out.symm, by rw [List.length_append]; rfl, by rw [List.length_append]; rfl, q1, HO2.out.swap10⟩, q2⟩
            · obtain rfl : j = L8.length / 2 := by have := HDd.out; omega
              have hji4 : decide ((d : Int) + 1 < (L8.length : Int)) = false := decide_eq_false (by omega)
              have hd9 : d ≤ 8 := by have := HDd.out; omega
              obtain ⟨f', rfl⟩ : ∃ f', f = f' + 1 := by
                refine ⟨f - 1, ?_⟩
                rcases Nat.eq_zero_or_pos f with h0 | h0
                · have h1f := HR.out.2.2.1
                  rw [h0, Nat.pow_zero] at h1f
                  omega
                · omega
              have hlen : L16.length = L8.length / 2 := by rw [HL4.out.2, ndK_len]
              have hmore := lvT_more f' L8 (by omega)
              rw [← HL4.out.2] at hmore
              have hn1 : L7' ++ lvT f' L16 = R := by
                have h := HR.out.1
                rw [hmore, ← List.append_assoc, ← HL4.out.1] at h
                exact h
              have hn2 : ∀ t ∈ L16, Sh t := by rw [HL4.out.2]; exact ndK_sh _ _
              have hn3 : L16.length < 2 ^ f' := by
                have h := HR.out.2.2.1
                rw [Nat.pow_succ] at h
                omega
              have hn4 : L7'.length + L16.length ≤ 3100 := by
                rw [HL4.out.1, List.length_append, prK_len, hlen]
                have := HR.out.2.2.2
                omega
              have HN := Lib.hid (And.intro hn1 (And.intro hn2 (And.intro hn3 (And.intro h16b (And.intro hn4 hlen)))))
              clear hmore hn1 hn2 hn3 hn4 hlen
              go_wp2_with fail
              have q2 : lenV (Value.slice A16 L16.length c16) < lenV (Value.slice A8 L8.length c8) := by
                have := HN.out.2.2.2.2.2
                show L16.length < L8.length
                omega
              have hS := H4.out
              exact ⟨⟨f', L7', L16, A7', A16, c7', c16, HN.out.1, HN.out.2.1, HN.out.2.2.1, HN.out.2.2.2.1, HN.out.2.2.2.2.1, rfl, rfl, ⟨hS.o7, hS.o10, Own.nil _ _, hS.d107, (Dis.nil _).symm, Dis.nil _, hS.blw⟩⟩, q2⟩
        · have hji3 : decide ((1 : Int) < (L8.length : Int)) = false := decide_eq_false (by omega)
          have he := lvT_end f L8 (by omega)
          have h := HR.out.1
          rw [he, List.append_nil] at h
          have hRL := Lib.hid (HRm.out.trans h.symm)
          clear h
          have HX := Lib.hid H3.out.o7
          have HY := Lib.hid H3.out.blw
          clear he H3
          go_wp2_with fail
          go_ret
          exact ⟨⟨A7, c7, by rw [hRL.out]; rfl, by rw [hRL.out]; exact HX.out⟩, HY.out⟩

end S
end Go.Proofs.YthdjdlndfkemiaaGreatDoor

/- Seals, the reference: the texts of 'Made' are short and few. -/
namespace Go.Proofs.YthdjdlndfkemiaaGreatDoor
open Go.RowKit
namespace S

theorem lvT_len : ∀ f (l : List Tx), (lvT f l).length ≤ l.length
  | 0, l => by simp [lvT]
  | f + 1, l => by
    by_cases h : l.length ≤ 1
    · rw [lvT_end _ _ h]; simp
    · rw [lvT_more f l h, List.length_append, prK_len]
      have h1 := lvT_len f (ndK l (l.length / 2))
      rw [ndK_len] at h1
      omega
theorem sh_empty : Sh [] := by unfold Sh; simp
theorem sh_get {l : List Tx} (h : ∀ t ∈ l, Sh t) (j : Nat) : Sh (l[j]?.getD []) := by
  by_cases hj : j < l.length
  · rw [List.getElem?_eq_getElem hj, Option.getD_some]; exact h _ (List.getElem_mem hj)
  · rw [List.getElem?_eq_none (by omega), Option.getD_none]; exact sh_empty
theorem lvT_b : ∀ f (l : List Tx), (∀ t ∈ l, Sh t) → ∀ t ∈ lvT f l, t.length ≤ 140737488351232
  | 0, l, _, t, ht => by simp [lvT] at ht
  | f + 1, l, hl, t, ht => by
    by_cases h : l.length ≤ 1
    · rw [lvT_end _ _ h] at ht; simp at ht
    · rw [lvT_more f l h] at ht
      rcases List.mem_append.1 ht with ht | ht
      · obtain ⟨j, _, rfl⟩ := List.mem_map.1 ht
        exact jn_len (sh_get hl _) (sh_get hl _)
      · exact lvT_b f _ (ndK_sh l _) t ht
theorem pow4 {h : Nat} (hh : h ≤ 2) : 2 ^ h ≤ 4 := by
  have := Nat.pow_le_pow_right (n := 2) (by decide) hh
  simpa using this
theorem made_eq (s : Tx) (h n : Nat) : madeT s h n = outK s n (2 ^ h) ++ lvT (h + 1) (levK s (2 ^ h)) := rfl
theorem made_len (s : Tx) {h n : Nat} (hh : h ≤ 2) (hn : n ≤ 30) : (madeT s h n).length ≤ 3100 := by
  have h4 := pow4 hh
  have h1 := out_bound hn h4
  have h2 := lvT_len (h + 1) (levK s (2 ^ h))
  rw [levK_len] at h2
  rw [made_eq, List.length_append, outK_len]
  omega
theorem chs_b (t : Tx) (ht : isD t = true) (n : Nat) : ∀ x ∈ chs t n, x.length ≤ 140737488351232 := fun x hx => by
  obtain ⟨k, _, rfl⟩ := List.mem_map.1 hx
  have := isD_len (isD_chn' ht k)
  omega
theorem madeK_b (s : Tx) (n i : Nat) (hs : s.length ≤ 300) (t : Tx) (ht : t ∈ madeK s n i) : t.length ≤ 140737488351232 := by
  have h1 := few_join (ends_few s i)
  have h2 := few_join (leafK_few s i)
  have e : madeK s n i = inK s n i 18 ++ [joinT (endK s i 18), joinT [leafT, keyT s i]] := rfl
  rw [e] at ht
  clear e
  generalize joinT (endK s i 18) = J at *
  generalize joinT [leafT, keyT s i] = K at *
  rcases List.mem_append.1 ht with ht | ht
  · unfold inK at ht
    obtain ⟨l, hl, ht⟩ := List.mem_flatten.1 ht
    obtain ⟨k, _, hk⟩ := List.mem_map.1 hl
    have h3 := startX_len (s := s) (i := i) (k := k) hs
    have h4 := chs_b _ (isD_start s i k) n
    generalize startX s i k = X at *
    generalize chs (startT s i k) n = C at *
    subst hk
    rcases List.mem_cons.1 ht with h | h
    · rw [h]; exact h3
    · exact h4 t h
  · rcases List.mem_cons.1 ht with h | h
    · rw [h]; exact h1
    · rw [List.mem_singleton.1 h]; exact h2
theorem made_b (s : Tx) (h n : Nat) (hs : s.length ≤ 300) (t : Tx) (ht : t ∈ madeT s h n) : t.length ≤ 140737488351232 := by
  rw [made_eq] at ht
  rcases List.mem_append.1 ht with ht | ht
  · unfold outK at ht
    obtain ⟨l, hl, ht⟩ := List.mem_flatten.1 ht
    obtain ⟨i, _, hi⟩ := List.mem_map.1 hl
    exact madeK_b s n i hs t (by rw [hi]; exact ht)
  · exact lvT_b _ _ (levK_sh s _) t ht
theorem short3 (a b c : Tx) : shortB [a, b, c] = (decide (a.length ≤ 300) && (decide (b.length ≤ 300) && decide (c.length ≤ 300))) := by simp [shortB]
theorem lt20 {t : Tx} (h : t.length ≤ 300) : t.length < 10 ^ 20 := Nat.lt_of_le_of_lt h (by decide)

end S
end Go.Proofs.YthdjdlndfkemiaaGreatDoor
