/- Seals, the reference: 'Start', 'Key', 'Keys', 'Leaves', 'Public'. -/
import Derived.Test.YthdjdlndfkemiaaGreatDoorWt
import Derived.Test.YthdjdlndfkemiaaGreatDoorVa
set_option linter.unusedSimpArgs false
set_option linter.unusedVariables false
set_option maxRecDepth 100000
namespace Go.Proofs.YthdjdlndfkemiaaGreatDoor
open Go.RowKit
namespace S

theorem few_dg {l : List Tx} (h : ∀ t ∈ l, isD t = true) (hl : l.length ≤ 30) : fewB l 200 = true := by
  unfold fewB
  rw [Bool.and_eq_true]
  refine ⟨List.all_eq_true.2 fun t ht => ?_, decide_eq_true hl⟩
  have h := isD_len (h t ht)
  simp only [decide_eq_true_eq]
  omega

theorem rchainT (t : Tx) (k : Nat) (w : World) (hs : t.length ≤ 140737488351232) (hk : k ≤ 1000) :
    Calls Tryz.prog 43 #[.string (str t), .int .i64 (k : Int)] w fun e w' => e = .returned (.string (str (chn t k))) ∧ w' = w := by
  have h := rchain_any (str t) k w (by rw [str_size]; exact hs)
  rw [str_data, show chainN (k : Int) = k by unfold chainN; omega] at h
  exact h
theorem rchain15 (t : Tx) (w : World) (hs : t.length ≤ 140737488351232) :
    Calls Tryz.prog 43 #[.string (str t), .int .i64 15] w fun e w' => e = .returned (.string (str (chn t 15))) ∧ w' = w := rchainT t 15 w hs (by omega)
theorem rlistK_lit (l : List Tx) (w : World) (hf : fewB l 1000 = true) : Calls Tryz.prog 50 #[.slice (some ⟨w.heap.size, 0, none⟩) l.length l.length] (w.alloc (.cells (l.map fun t => Value.string (str t)).toArray 9)) fun e w' => e = .returned (.string (str (listL l))) ∧ Below w.heap.size w w' := by
  have hb : Below w.heap.size w (w.alloc (.cells (l.map fun t => Value.string (str t)).toArray 9)) := (Below.refl _ _).alloc (Nat.le_refl _) _
  refine (rlistK_any (some ⟨w.heap.size, 0, none⟩) l.length l _ (strs_lit l (Reg.heap_new w _)) hf).mono ?_
  rintro e w' ⟨rfl, hb2⟩
  exact ⟨rfl, hb.trans (hb2.mono hb.size)⟩
theorem rstart_any (s : Tx) (i k : Nat) (w : World) (hs : s.length ≤ 300) (hi : i ≤ 1000000) (hk : k ≤ 1000000) :
    Calls Tryz.prog 44 #[.string (str s), .int .i64 i, .int .i64 k] w fun e w' => e = .returned (.string (str (startT s i k))) ∧ Below w.heap.size w w' := by
  have HDi := Lib.hid (fun W => decimal_any i W hi)
  have HDk := Lib.hid (fun W => decimal_any k W hk)
  have HO : Hid (∀ W, Calls Tryz.prog 50 #[.slice (some ⟨W.heap.size, 0, none⟩) 3 3] (W.alloc (.cells #[.string (str s), .string (str (dec i)), .string (str (dec k))] 9)) fun e w' => e = .returned (.string (str (startT s i k))) ∧ Below W.heap.size W w') :=
    fun W => rlistK_lit [s, dec i, dec k] W (start_few hs)
  generalize startT s i k = R at *
  clear hs hi hk
  go_enter Tryz.func44, Tryz.ntmps44
  go_wp2_with fail
  (with_reducible refine (HDi.out _).mono ?_); rintro e w1 ⟨rfl, rfl⟩
  go_wp2_with fail
  (with_reducible refine (HDk.out _).mono ?_); rintro e w2 ⟨rfl, rfl⟩
  go_wp2_with fail
  (with_reducible refine (HO.out _).mono ?_); rintro e w3 ⟨rfl, hb3⟩
  have HB := Lib.hid hb3
  clear hb3
  go_wp2_with fail
  go_ret
  exact ⟨rfl, HB.out⟩

attribute [local go_sem ↓ high] Ap.builtin_appA in
set_option maxHeartbeats 4000000 in
theorem rkey_any (s : Tx) (i : Nat) (w : World) (hs : s.length ≤ 300) (hi : i ≤ 1000000) :
    Calls Tryz.prog 100 #[.string (str s), .int .i64 i] w fun e w' => e = .returned (.string (str (keyT s i))) ∧ Below w.heap.size w w' := by
  have HS := Lib.hid (fun (k : Nat) W (hk : k ≤ 1000000) => rstart_any s i k W hs hi hk)
  have HF : Hid (keyT s i = listL (upT' (fun k => chn (startT s i k) 15) 18) ∧ fewB (upT' (fun k => chn (startT s i k) 15) 18) 200 = true) := ⟨rfl, few_dg (fun t h => ends_dig s i t h) (by rw [upT'_len]; omega)⟩
  have HC := Lib.hid (fun (k : Nat) W => rchain15 (startT s i k) W (by rw [start_len]; omega))
  generalize keyT s i = R at *
  have HE : Hid (∃ f : Nat → Tx, f = fun k => chn (startT s i k) 15) := ⟨_, rfl⟩
  obtain ⟨f, hf⟩ := HE.out
  rw [← hf] at HF
  have HFf := Lib.hid hf
  clear hs hi hf HE
  go_enter Tryz.func100, Tryz.ntmps100
  go_wp2_with fail
  go_loopw [5, 6] (fun v x wr => ∃ (k : Nat) (L : List Tx) (A : Option Addr) (c : Nat), k ≤ 18 ∧ L = upT' f k ∧ x = .int .i64 k ∧ v = .slice A L.length c ∧ Own w.heap.size wr (.slice A L.length c) L ∧ Below w.heap.size w wr) (fun _ x _ => 18 - (intOf x).toNat)
  case atStart => exact ⟨0, [], none, 0, by omega, rfl, rfl, rfl, Own.nil _ _, Below.refl _ _⟩
  case round =>
    obtain ⟨k, L, A, c, hk, hL, rfl, rfl, ho, hbw⟩ := hrel
    have HO := Lib.hid ho
    have HB := Lib.hid hbw
    have HL := Lib.hid hL
    clear ho hbw hL
    by_cases hlt : k < 18
    · have hlti : (k : Int) < 18 := by omega
      have hji : decide ((k : Int) < 18) = true := decide_eq_true hlti
      go_wp2_with fail
      (with_reducible refine (HS.out k _ (by omega)).mono ?_); rintro e w1 ⟨rfl, hb1⟩
      have HB1 := Lib.hid (HB.out.trans (hb1.mono HB.out.size))
      have HO1 := Lib.hid (HO.out.below hb1)
      clear hb1
      go_wp2_with fail
      (with_reducible refine (HC.out k _).mono ?_); rintro e w2 ⟨rfl, rfl⟩
      have hlen : L.length = k := by rw [HL.out, upT'_len]
      obtain ⟨A3, c3, w3, hrun, ho3, hL3⟩ := app1 (chn (startT s i k) 15) HO1.out (by omega) HB1.out HB1.out.size
      have HO3 := Lib.hid ho3
      have HL3 := Lib.hid hL3
      have e1 : (L ++ [chn (startT s i k) 15]).length = L.length + 1 := by simp
      have HL2 : Hid (L ++ [chn (startT s i k) 15] = upT' f (k + 1)) := by unfold Hid; rw [upT'_succ, HL.out, HFf.out]
      rw [e1] at hrun HO3
      have HE1 := Lib.hid e1
      clear ho3 hL3 hlen e1
      generalize chn (startT s i k) 15 = t at *
      go_wp2_with fail
      exact ⟨⟨k + 1, L ++ [t], A3, c3, by omega, HL2.out, by go_num, by rw [HE1.out], by rw [HE1.out]; exact HO3.out, HL3.out⟩, by simp [intOf]; omega⟩
    · obtain rfl : k = 18 := by omega
      obtain ⟨A', c', hv, hst, _⟩ := HO.out.parts
      injection hv with h1 h2 h3
      subst h1 h3
      have hq := rlist_any A c L wr hst (by rw [HL.out]; exact HF.out.2)
      have HR : Hid (R = listL L) := by unfold Hid; rw [HL.out]; exact HF.out.1
      rw [← HR.out] at hq
      have HQ := Lib.hid hq
      clear hst hq h2
      go_wp2_with fail
      (with_reducible refine HQ.out.mono ?_); rintro e w1 ⟨rfl, hb1⟩
      have HB1 := Lib.hid (HB.out.trans (hb1.mono HB.out.size))
      clear hb1
      go_wp2_with fail
      go_ret
      exact ⟨rfl, HB1.out⟩

attribute [local go_sem ↓ high] Ap.builtin_appA in
set_option maxHeartbeats 4000000 in
theorem rkeys_any (s : Tx) (h : Nat) (w : World) (hs : s.length ≤ 300) (hh : h ≤ 8) :
    Calls Tryz.prog 72 #[.string (str s), .int .i64 h] w fun e w' => (∃ A c, e = .returned (.slice A (2 ^ h) c) ∧ Own w.heap.size w' (.slice A (2 ^ h) c) (upT' (keyT s) (2 ^ h))) ∧ Below w.heap.size w w' := by
  have hp := pow_le hh
  have HP := Lib.hid (fun W => rpower_any h W hh)
  have HS := Lib.hid (fun (i : Nat) W (hi : i ≤ 1000000) => rkey_any s i W hs hi)
  generalize hN : 2 ^ h = N at *
  obtain ⟨f, hf⟩ : ∃ f : Nat → Tx, f = keyT s := ⟨_, rfl⟩
  have HFf : Hid (∀ i, keyT s i = f i) := fun i => by rw [hf]
  rw [← hf]
  clear hs hf hN hh
  go_enter Tryz.func72, Tryz.ntmps72
  go_wp2_with fail
  go_loopw [5, 6] (fun v x wr => ∃ (k : Nat) (L : List Tx) (A : Option Addr) (c : Nat), k ≤ N ∧ L = upT' f k ∧ x = .int .i64 k ∧ v = .slice A L.length c ∧ Own w.heap.size wr (.slice A L.length c) L ∧ Below w.heap.size w wr) (fun _ x _ => N - (intOf x).toNat)
  case atStart => exact ⟨0, [], none, 0, by omega, rfl, rfl, rfl, Own.nil _ _, Below.refl _ _⟩
  case round =>
    obtain ⟨k, L, A, c, hk, hL, rfl, rfl, ho, hbw⟩ := hrel
    have HO := Lib.hid ho
    have HB := Lib.hid hbw
    have HL := Lib.hid hL
    clear ho hbw hL
    go_wp2_with fail
    (with_reducible refine (HP.out _).mono ?_); rintro e w0 ⟨rfl, hb0⟩
    replace HB := Lib.hid (HB.out.trans (hb0.mono HB.out.size))
    replace HO := Lib.hid (HO.out.below hb0)
    clear hb0
    by_cases hlt : k < N
    · have hlti : (k : Int) < (N : Int) := by omega
      have hji : decide ((k : Int) < (N : Int)) = true := decide_eq_true hlti
      have hSk := HS.out k
      rw [HFf.out] at hSk
      have HSk := Lib.hid (fun W => hSk W (by omega))
      clear hSk
      have hfk : Hid (upT' f (k + 1) = L ++ [f k]) := by unfold Hid; rw [upT'_succ, HL.out]
      generalize f k = t at *
      go_wp2_with fail
      (with_reducible refine (HSk.out _).mono ?_); rintro e w1 ⟨rfl, hb1⟩
      have HB1 := Lib.hid (HB.out.trans (hb1.mono HB.out.size))
      have HO1 := Lib.hid (HO.out.below hb1)
      clear hb1
      have hlen : L.length = k := by rw [HL.out, upT'_len]
      obtain ⟨A3, c3, w3, hrun, ho3, hL3⟩ := app1 t HO1.out (by omega) HB1.out HB1.out.size
      have HO3 := Lib.hid ho3
      have HL3 := Lib.hid hL3
      have e1 : (L ++ [t]).length = L.length + 1 := by simp
      rw [e1] at hrun HO3
      have HE1 := Lib.hid e1
      clear ho3 hL3 hlen e1
      go_wp2_with fail
      exact ⟨⟨k + 1, L ++ [t], A3, c3, by omega, hfk.out.symm, by go_num, by rw [HE1.out], by rw [HE1.out]; exact HO3.out, HL3.out⟩, by simp [intOf]; omega⟩
    · obtain rfl : k = N := by omega
      have hji : decide ((k : Int) < (k : Int)) = false := decide_eq_false (by omega)
      have hlen : L.length = k := by rw [HL.out, upT'_len]
      have HLe := Lib.hid hlen
      clear hlen
      go_wp2_with fail
      go_ret
      have ho := HO.out
      rw [HLe.out] at ho
      exact ⟨⟨A, c, by rw [HLe.out]; rfl, by rw [← HL.out]; exact ho⟩, HB.out⟩

theorem leavesT_up (s : Tx) (h : Nat) : leavesT s h = upT' (leafK s) (2 ^ h) := rfl
attribute [local go_sem ↓ high] Ap.builtin_appA in
set_option maxHeartbeats 4000000 in
theorem rleaves_any (s : Tx) (h : Nat) (w : World) (hs : s.length ≤ 300) (hh : h ≤ 8) :
    Calls Tryz.prog 41 #[.string (str s), .int .i64 h] w fun e w' => (∃ A c, e = .returned (.slice A (2 ^ h) c) ∧ Own w.heap.size w' (.slice A (2 ^ h) c) (leavesT s h)) ∧ Below w.heap.size w w' := by
  have hp := pow_le hh
  have HP := Lib.hid (fun W => rkeys_any s h W hs hh)
  have HS := Lib.hid (fun (i : Nat) W => rleaf_any (keyT s i) W (isD_sh (isD_list _)))
  rw [leavesT_up]
  generalize hN : 2 ^ h = N at *
  obtain ⟨f, hf⟩ : ∃ f : Nat → Tx, f = leafK s := ⟨_, rfl⟩
  have HFf : Hid (∀ i, leaf (keyT s i) = f i) := fun i => by rw [hf]; rfl
  have HKt : Hid (∀ i, i < N → (upT' (keyT s) N)[i]? = some (keyT s i)) := fun i hi => by unfold upT'; rw [List.getElem?_map, List.getElem?_range hi]; rfl
  rw [← hf]
  clear hs hf hN hh
  go_enter Tryz.func41, Tryz.ntmps41
  go_wp2_with fail
  (with_reducible refine (HP.out _).mono ?_); rintro e wk ⟨⟨Ak, ck, rfl, hok⟩, hbk⟩
  have HOk := Lib.hid (hok.lst' (upT'_len _ _))
  have HBk := Lib.hid hbk
  clear hok hbk
  go_wp2_with fail
  go_loopw [6, 7] (fun v x wr => ∃ (k : Nat) (L : List Tx) (A : Option Addr) (c : Nat), k ≤ N ∧ L = upT' f k ∧ x = .int .i64 k ∧ v = .slice A L.length c ∧ Own wk.heap.size wr (.slice A L.length c) L ∧ Below wk.heap.size wk wr) (fun _ x _ => N - (intOf x).toNat)
  case atStart => exact ⟨0, [], none, 0, by omega, rfl, rfl, rfl, Own.nil _ _, Below.refl _ _⟩
  case round =>
    obtain ⟨k, L, A, c, hk, hL, rfl, rfl, ho, hbw⟩ := hrel
    have HO := Lib.hid ho
    have HB := Lib.hid hbw
    have HL := Lib.hid hL
    clear ho hbw hL
    by_cases hlt : k < N
    · have hlti : (k : Int) < (N : Int) := by omega
      have hk0 : (0 : Int) ≤ (k : Int) := by omega
      have hji : decide ((k : Int) < (N : Int)) = true := decide_eq_true hlti
      obtain ⟨b, off, eA, hlb, c0⟩ := (HOk.out.below HB.out).at_ k (by rw [HOk.out.len]; exact hlt)
      rw [Option.some.inj ((List.getElem?_eq_getElem _).symm.trans (HKt.out k hlt))] at c0
      have hSk := HS.out k
      rw [HFf.out] at hSk
      have HSk := Lib.hid hSk
      clear hSk
      have hfk : Hid (upT' f (k + 1) = L ++ [f k]) := by unfold Hid; rw [upT'_succ, HL.out]
      generalize f k = t at *
      generalize keyT s k = K at *
      subst eA
      go_wp2_with fail
      (with_reducible refine (HSk.out _).mono ?_); rintro e w1 ⟨rfl, hb1⟩
      have HB1 := Lib.hid (HB.out.trans (hb1.mono HB.out.size))
      have HO1 := Lib.hid (HO.out.below hb1)
      clear hb1 c0 hlb
      have hlen : L.length = k := by rw [HL.out, upT'_len]
      obtain ⟨A3, c3, w3, hrun, ho3, hL3⟩ := app1 t HO1.out (by omega) HB1.out HB1.out.size
      have HO3 := Lib.hid ho3
      have HL3 := Lib.hid hL3
      have e1 : (L ++ [t]).length = L.length + 1 := by simp
      rw [e1] at hrun HO3
      have HE1 := Lib.hid e1
      clear ho3 hL3 hlen e1
      go_wp2_with fail
      exact ⟨⟨k + 1, L ++ [t], A3, c3, by omega, hfk.out.symm, by go_num, by rw [HE1.out], by rw [HE1.out]; exact HO3.out, HL3.out⟩, by simp [intOf]; omega⟩
    · obtain rfl : k = N := by omega
      have hji : decide ((k : Int) < (k : Int)) = false := decide_eq_false (by omega)
      have hlen : L.length = k := by rw [HL.out, upT'_len]
      have HLe := Lib.hid hlen
      clear hlen
      go_wp2_with fail
      go_ret
      have ho := HO.out
      rw [HLe.out] at ho
      exact ⟨⟨A, c, by rw [HLe.out]; rfl, by rw [← HL.out]; exact Ap.own_base ho HBk.out.size⟩, HBk.out.trans (HB.out.mono HBk.out.size)⟩

theorem rpublic_any (s : Tx) (h : Int) (w : World) (hs : s.length ≤ 300) :
    Calls Tryz.prog 16 #[.string (str s), .int .i64 h] w fun e w' => e = .returned (.tuple #[.string (str (pubS s h)), .int .i64 (hE h)]) ∧ Below w.heap.size w w' := by
  by_cases h1 : h < 0
  · have h1i : decide (h < 0) = true := decide_eq_true h1
    have e1 : Hid (hE h = 1 ∧ pubS s h = []) := ⟨if_neg (by omega), if_neg (by omega)⟩
    rw [e1.out.1, e1.out.2]
    go_enter Tryz.func16, Tryz.ntmps16
    go_wp2_with fail
    refine bodyPost_ret (v := .tuple #[.string (str []), .int .i64 1]) (by simp [results, Tryz.results16, go_sem]; rfl) rfl ⟨rfl, Below.refl _ _⟩
  have h1i : decide (h < 0) = false := decide_eq_false h1
  by_cases h2 : 8 < h
  · have h2i : decide (8 < h) = true := decide_eq_true h2
    have e1 : Hid (hE h = 1 ∧ pubS s h = []) := ⟨if_neg (by omega), if_neg (by omega)⟩
    rw [e1.out.1, e1.out.2]
    go_enter Tryz.func16, Tryz.ntmps16
    go_wp2_with fail
    refine bodyPost_ret (v := .tuple #[.string (str []), .int .i64 1]) (by simp [results, Tryz.results16, go_sem]; rfl) rfl ⟨rfl, Below.refl _ _⟩
  have h2i : decide (8 < h) = false := decide_eq_false h2
  obtain ⟨n, rfl⟩ := Int.eq_ofNat_of_zero_le (show 0 ≤ h by omega)
  have hn : n ≤ 8 := by omega
  have e1 : Hid (hE n = 0 ∧ pubS s n = pubT s n) := ⟨if_pos (by omega), by unfold pubS; rw [if_pos (by omega), Int.toNat_natCast]⟩
  rw [e1.out.1, e1.out.2]
  have HL := Lib.hid (fun W => rleaves_any s n W hs hn)
  have HR : Hid (∀ W A c, Lst W A (2 ^ n) c (leavesT s n) → Calls Tryz.prog 40 #[.slice A (2 ^ n) c] W fun e w' => e = .returned (.tuple #[.string (str (pubT s n)), .int .i64 0]) ∧ Below W.heap.size W w') := fun W A c hl => by
    have h := rRoot_L hl (by have := pow_le hn; omega) (fun t ht => isD_sh (List.all_eq_true.1 (leaves_dig s n) t ht))
    rw [leaves_dig s n, if_pos rfl] at h
    exact h
  have HN := Lib.hid (leaves_len s n)
  generalize leavesT s n = L at *
  generalize pubT s n = P at *
  generalize 2 ^ n = N at *
  clear hs e1
  go_enter Tryz.func16, Tryz.ntmps16
  go_wp2_with fail
  (with_reducible refine (HL.out _).mono ?_); rintro e w1 ⟨⟨A, c, rfl, ho⟩, hb⟩
  have HB := Lib.hid hb
  have HQ := Lib.hid (HR.out w1 A c (ho.lst' HN.out))
  clear hb ho
  go_wp2_with fail
  (with_reducible refine HQ.out.mono ?_); rintro e w2 ⟨rfl, hb⟩
  replace HB := Lib.hid (HB.out.trans (hb.mono HB.out.size))
  clear hb
  go_wp2_with fail
  refine bodyPost_ret (v := .tuple #[.string (str P), .int .i64 0]) (by simp [results, Tryz.results16, go_sem]) rfl ⟨rfl, HB.out⟩

end S
end Go.Proofs.YthdjdlndfkemiaaGreatDoor
