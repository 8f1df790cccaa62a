/- Seals, the reference: 'Verify' as a whole, 'Sign'. Printed by mkYe.py. -/
import Derived.Test.YthdjdlndfkemiaaGreatDoorYd
set_option linter.unusedSimpArgs false
set_option linter.unusedVariables false
set_option maxRecDepth 100000
namespace Go.Proofs.YthdjdlndfkemiaaGreatDoor
open Go.RowKit
namespace S

theorem verR_eq (pub m : Tx) (i : Nat) (sig p : List Tx) (h8 : sig.length = 18) (hk : p.length ≤ 8) (hi : i < 2 ^ p.length) : verB pub m i sig p = verR pub m i sig p := by
  unfold verB verR
  rw [decide_eq_true (p := sig.length = 18) h8, decide_eq_true (p := p.length ≤ 8) hk, decide_eq_true (p := (0 : Int) ≤ (i : Int)) (Int.natCast_nonneg i), decide_eq_true (p := (i : Int) < ((2 ^ p.length : Nat) : Int)) (Int.ofNat_lt.2 hi)]
  simp only [Bool.true_and]
theorem rver_agg (pub m : Tx) (i : Int) (A B : Option Addr) (n c k d : Nat) (sig p : List Tx) (w : World) (h1 : Lst w A n c sig) (h2 : Lst w B k d p) (s1 : ∀ t ∈ sig, Sh t) (s2 : ∀ t ∈ p, Sh t) (hm : m.length ≤ 140737488351232) :
    Calls Tryz.prog 19 #[.string (str pub), .string (str m), .agg #[.int .i64 i, .slice A n c, .slice B k d]] w fun e w' => e = .returned (.bool (verB pub m i sig p)) ∧ Below w.heap.size w w' := by
  have l1 := h1.len
  have l2 := h2.len
  by_cases hn : n = 18
  rotate_left
  · rw [ver_len (by omega)]
    exact rver_no1 (str pub) (str m) i A B n c k d w hn
  subst hn
  by_cases hk : k ≤ 8
  rotate_left
  · have e : verB pub m i sig p = false := by unfold verB; rw [decide_eq_false (p := p.length ≤ 8) (by omega)]; simp
    rw [e]
    exact rver_no2 (str pub) (str m) i A B c k d w (by omega)
  by_cases hi : i < 0
  · rw [ver_neg hi]
    exact rver_no3 (str pub) (str m) i A B c k d w hk hi
  by_cases hi2 : ((2 ^ k : Nat) : Int) ≤ i
  · rw [ver_far (by rw [l2]; exact hi2)]
    exact rver_no4 (str pub) (str m) i A B c k d w hk (by omega) hi2
  obtain ⟨j, rfl⟩ := Int.eq_ofNat_of_zero_le (show 0 ≤ i by omega)
  have hj : j < 2 ^ k := Int.ofNat_lt.1 (Int.not_le.1 hi2)
  rw [verR_eq pub m j sig p l1 (by omega) (by rw [l2]; exact hj)]
  exact rver_ok pub m j A B c k d sig p w h1 h2 s1 s2 hm hk hj

theorem rpath_yes {W : World} {A : Option Addr} {n c : Nat} {l : List Tx} (i : Nat) (h : Lst W A n c l) (hn : n ≤ 100000) (hs : ∀ t ∈ l, Sh t) (hd : l.all isD = true) (hi : i < n) :
    Calls Tryz.prog 45 #[.slice A n c, .int .i64 i] W fun e w' => (∃ B d, e = .returned (.tuple #[.slice B (pathT l i).length d, .int .i64 0]) ∧ Own W.heap.size w' (.slice B (pathT l i).length d) (pathT l i)) ∧ Below W.heap.size W w' := by
  obtain ⟨h1, hln, h3, h4, h5⟩ := h
  have HD := rdigests_any A c l W h1 (by omega) (fun t ht => by have := hs t ht; unfold Sh at this; omega)
  rw [hln, hd] at HD
  have HP := Lib.hid (rpath_any n l i A c W hln hi hn h1 h3 h4 h5 hs)
  have HD := Lib.hid HD
  have hi0' : ¬ (i : Int) < 0 := by omega
  have hin' : ¬ (i : Int) ≥ (n : Int) := by omega
  clear h1 h5 hs hln hd
  go_enter Tryz.func45, Tryz.ntmps45
  go_wp2_with fail
  (with_reducible refine HD.out.mono ?_); rintro e w1 ⟨rfl, rfl⟩
  go_wp2_with fail
  (with_reducible refine HP.out.mono ?_); rintro e w2 ⟨⟨v, rfl, ho⟩, hb⟩
  obtain ⟨A', c', rfl, _⟩ := ho.parts
  have HB := Lib.hid hb
  have HO := Lib.hid ho
  clear ho hb
  go_wp2_with fail
  refine bodyPost_ret (v := .tuple #[.slice A' (pathT l i).length c', .int .i64 0]) (by simp [results, Tryz.results45, go_sem]) rfl ⟨⟨A', c', rfl, HO.out⟩, HB.out⟩

set_option maxHeartbeats 4000000 in
theorem rsign_no1 (s m : ByteArray) (h i : Int) (w : World) (hh : h < 0) :
    Calls Tryz.prog 17 #[.string s, .int .i64 h, .int .i64 i, .string m] w fun e w' => e = .returned (.tuple #[.agg #[.int .i64 0, .slice none 0 0, .slice none 0 0], .int .i64 1]) ∧ Below w.heap.size w w' := by
  have h0 : decide (h < 0) = true := decide_eq_true hh
  have n8 := Reg.Blk.new w #[.int .i64 0, .slice none 0 0, .slice none 0 0] 29
  have hal : Below w.heap.size w (w.alloc (.cells #[.int .i64 0, .slice none 0 0, .slice none 0 0] 29)) := (Below.refl _ _).alloc (Nat.le_refl _) _
  go_enter Tryz.func17, Tryz.ntmps17
  obtain ⟨c8, f8, z8⟩ := n8.facts
  go_wp2_with fail
  refine bodyPost_ret (v := .tuple #[.agg #[.int .i64 0, .slice none 0 0, .slice none 0 0], .int .i64 1]) (by simp [results, Tryz.results17, go_sem, c8]) rfl ⟨rfl, hal⟩
set_option maxHeartbeats 4000000 in
theorem rsign_no2 (s m : ByteArray) (h i : Int) (w : World) (hh : 8 < h) :
    Calls Tryz.prog 17 #[.string s, .int .i64 h, .int .i64 i, .string m] w fun e w' => e = .returned (.tuple #[.agg #[.int .i64 0, .slice none 0 0, .slice none 0 0], .int .i64 1]) ∧ Below w.heap.size w w' := by
  have h0 : decide (h < 0) = false := decide_eq_false (by omega)
  have h8 : decide (8 < h) = true := decide_eq_true hh
  have n8 := Reg.Blk.new w #[.int .i64 0, .slice none 0 0, .slice none 0 0] 29
  have hal : Below w.heap.size w (w.alloc (.cells #[.int .i64 0, .slice none 0 0, .slice none 0 0] 29)) := (Below.refl _ _).alloc (Nat.le_refl _) _
  go_enter Tryz.func17, Tryz.ntmps17
  obtain ⟨c8, f8, z8⟩ := n8.facts
  go_wp2_with fail
  refine bodyPost_ret (v := .tuple #[.agg #[.int .i64 0, .slice none 0 0, .slice none 0 0], .int .i64 1]) (by simp [results, Tryz.results17, go_sem, c8]) rfl ⟨rfl, hal⟩
set_option maxHeartbeats 4000000 in
theorem rsign_no3 (s m : ByteArray) (h i : Int) (w : World) (h1 : 0 ≤ h) (h2 : h ≤ 8) (h3 : i < 0) :
    Calls Tryz.prog 17 #[.string s, .int .i64 h, .int .i64 i, .string m] w fun e w' => e = .returned (.tuple #[.agg #[.int .i64 0, .slice none 0 0, .slice none 0 0], .int .i64 1]) ∧ Below w.heap.size w w' := by
  have h0 : decide (h < 0) = false := decide_eq_false (by omega)
  have h8 : decide (8 < h) = false := decide_eq_false (by omega)
  have hi : decide (i < 0) = true := decide_eq_true h3
  have n8 := Reg.Blk.new w #[.int .i64 0, .slice none 0 0, .slice none 0 0] 29
  have hal : Below w.heap.size w (w.alloc (.cells #[.int .i64 0, .slice none 0 0, .slice none 0 0] 29)) := (Below.refl _ _).alloc (Nat.le_refl _) _
  go_enter Tryz.func17, Tryz.ntmps17
  obtain ⟨c8, f8, z8⟩ := n8.facts
  go_wp2_with fail
  refine bodyPost_ret (v := .tuple #[.agg #[.int .i64 0, .slice none 0 0, .slice none 0 0], .int .i64 1]) (by simp [results, Tryz.results17, go_sem, c8]) rfl ⟨rfl, hal⟩
set_option maxHeartbeats 4000000 in
theorem rsign_no4 (s m : ByteArray) (h : Nat) (i : Int) (w : World) (hh : h ≤ 8) (h3 : 0 ≤ i) (h4 : ((2 ^ h : Nat) : Int) ≤ i) :
    Calls Tryz.prog 17 #[.string s, .int .i64 h, .int .i64 i, .string m] w fun e w' => e = .returned (.tuple #[.agg #[.int .i64 0, .slice none 0 0, .slice none 0 0], .int .i64 1]) ∧ Below w.heap.size w w' := by
  have h0 : decide ((h : Int) < 0) = false := decide_eq_false (by omega)
  have h8 : decide ((8 : Int) < (h : Int)) = false := decide_eq_false (by omega)
  have hi : decide (i < 0) = false := decide_eq_false (by omega)
  have hin : decide (((2 ^ h : Nat) : Int) ≤ i) = true := decide_eq_true h4
  have HPw := Lib.hid (fun W => rpower_any h W hh)
  generalize 2 ^ h = N at *
  clear h4
  have n8 := Reg.Blk.new w #[.int .i64 0, .slice none 0 0, .slice none 0 0] 29
  have hal : Below w.heap.size w (w.alloc (.cells #[.int .i64 0, .slice none 0 0, .slice none 0 0] 29)) := (Below.refl _ _).alloc (Nat.le_refl _) _
  go_enter Tryz.func17, Tryz.ntmps17
  go_wp2_with fail
  have HAL := Lib.hid hal
  have N8 := Lib.hid n8
  clear hal n8
  generalize w.alloc (.cells #[.int .i64 0, .slice none 0 0, .slice none 0 0] 29) = W0 at *
  (with_reducible refine (HPw.out _).mono ?_); rintro e W1 ⟨rfl, hb⟩
  have hal := HAL.out.trans (hb.mono HAL.out.size)
  have n8 := N8.out.keep hb
  clear hb HAL N8
  obtain ⟨c8, f8, z8⟩ := n8.facts
  go_wp2_with fail
  have hu := (((Reg.Upd.refl n8).set 0 (.int .i64 0)).set 1 (.slice none 0 0)).set 2 (.slice none 0 0)
  have kA : Reg.Keep (fun k => w.heap.size ≤ k) w W1 := keep_of hal
  have kC := Reg.updK (M := fun k => w.heap.size ≤ k) (g := w.heap.size) (Nat.le_refl _) _ _ _ _ kA hu
  have hn8 : Reg.Blk w.heap.size #[.int .i64 0, .slice none 0 0, .slice none 0 0] 29 _ := hu.at_
  clear c8 f8 z8
  obtain ⟨c8, f8, z8⟩ := hn8.facts
  generalize ((W1.setCell _ _).setCell _ _).setCell _ _ = Wn at *
  refine bodyPost_ret (v := .tuple #[.agg #[.int .i64 0, .slice none 0 0, .slice none 0 0], .int .i64 1]) (by simp [results, Tryz.results17, go_sem, c8]) rfl ⟨rfl, kC.below (B := w.heap.size) fun k hk => ⟨hk, by omega⟩⟩

attribute [local go_sem ↓ high] Ap.builtin_appA in
set_option maxHeartbeats 16000000 in
theorem rsign_ok (s m : Tx) (h i : Nat) (w : World) (hs : s.length ≤ 300) (hm : m.length ≤ 140737488351232) (hh : h ≤ 8) (hi : i < 2 ^ h) :
    Calls Tryz.prog 17 #[.string (str s), .int .i64 h, .int .i64 i, .string (str m)] w fun e w' =>
      (∃ A c B d, e = .returned (.tuple #[.agg #[.int .i64 i, .slice A 18 c, .slice B h d], .int .i64 0]) ∧ Lst w' A 18 c (sigT s i m) ∧ Lst w' B h d (pathT (leavesT s h) i)) ∧ Below w.heap.size w w' := by
  have h0 : decide ((h : Int) < 0) = false := decide_eq_false (by omega)
  have h8 : decide ((8 : Int) < (h : Int)) = false := decide_eq_false (by omega)
  have hi0 : decide ((i : Int) < 0) = false := decide_eq_false (by omega)
  have hin : decide (2 ^ h ≤ i) = false := decide_eq_false (by omega)
  have hin2 : decide (((2 ^ h : Nat) : Int) ≤ (i : Int)) = false := decide_eq_false (by omega)
  have hp8 := pow_le hh
  have HPw := Lib.hid (fun W => rpower_any h W hh)
  have HDi := Lib.hid (fun W => rdigits_any m W hm)
  have HSt := Lib.hid (fun (k : Nat) W (hk : k ≤ 1000000) => rstart_any s i k W hs (by omega) hk)
  have HLv := Lib.hid (fun W => rleaves_any s h W hs hh)
  have e1 : (pathT (leavesT s h) i).length = h := path_two s h i hi
  have HPt : Hid (∀ W A c, Lst W A (2 ^ h) c (leavesT s h) → Calls Tryz.prog 45 #[.slice A (2 ^ h) c, .int .i64 i] W fun e w' => (∃ B d, e = .returned (.tuple #[.slice B h d, .int .i64 0]) ∧ Own W.heap.size w' (.slice B h d) (pathT (leavesT s h) i)) ∧ Below W.heap.size W w') := fun W A c hl => by
    have hq := rpath_yes i hl (by omega) (fun t ht => isD_sh (List.all_eq_true.1 (leaves_dig s h) t ht)) (leaves_dig s h) hi
    rw [e1] at hq
    exact hq
  have HLn := Lib.hid (And.intro e1 (And.intro (sig_len s i m) (leaves_len s h)))
  have HSg : Hid (sigT s i m = upT' (fun k => chn (startT s i k) (dk m k)) 18) := rfl
  have HE : Hid (∃ f : Nat → Tx, f = fun k => chn (startT s i k) (dk m k)) := ⟨_, rfl⟩
  obtain ⟨f, hf⟩ := HE.out
  rw [← hf] at HSg
  have HFf : Hid (∀ k, f k = chn (startT s i k) (dk m k)) := fun k => by rw [hf]
  generalize sigT s i m = Sg at *
  generalize leavesT s h = Lv at *
  generalize pathT Lv i = Pa at *
  generalize 2 ^ h = N at *
  have n8 := Reg.Blk.new w #[.int .i64 0, .slice none 0 0, .slice none 0 0] 29
  have hal : Below w.heap.size w (w.alloc (.cells #[.int .i64 0, .slice none 0 0, .slice none 0 0] 29)) := (Below.refl _ _).alloc (Nat.le_refl _) _
  clear hs hm hi hf HE e1
  go_enter Tryz.func17, Tryz.ntmps17
  go_wp2_with fail
  have HB := Lib.hid hal
  have N8 := Lib.hid n8
  clear hal n8
  generalize w.alloc (.cells #[.int .i64 0, .slice none 0 0, .slice none 0 0] 29) = W0 at *
  (with_reducible refine (HPw.out _).mono ?_); rintro e w1 ⟨rfl, hb⟩
  replace HB := Lib.hid (HB.out.trans (hb.mono HB.out.size))
  replace N8 := Lib.hid (N8.out.keep hb)
  clear hb
  go_wp2_with fail
  clear h0 h8 hi0 hin hin2
  have n10 := Reg.Blk.new w1 #[.int .i64 i, .slice none 0 0, .slice none 0 0] 29
  have hal : Below w1.heap.size w1 (w1.alloc (.cells #[.int .i64 i, .slice none 0 0, .slice none 0 0] 29)) := (Below.refl _ _).alloc (Nat.le_refl _) _
  have hg8 : w.heap.size < w1.heap.size := N8.out.lt
  replace HB := Lib.hid (HB.out.trans (hal.mono HB.out.size))
  replace N8 := Lib.hid (N8.out.keep hal)
  have N10 := Lib.hid n10
  clear hal n10
  generalize w1.alloc (.cells #[.int .i64 i, .slice none 0 0, .slice none 0 0] 29) = W1 at *
  generalize w1.heap.size = g10 at *
  (with_reducible refine (HDi.out _).mono ?_); rintro e w3 ⟨⟨A5, c5, rfl, hd⟩, hb⟩
  have HI := Lib.hid hd.ints
  have hA5 : ∀ b off, A5 = some ⟨b, off, none⟩ → g10 < b := fun b off e => by
    have h0 : w3.ownsRow W1.heap.size 3 1 (.slice A5 18 c5) (dsT m).length (iv (dsT m)) := hd
    have := (World.ownsRow.lt h0 b (by rw [e]; rfl)).1
    have := N10.out.lt
    omega
  have HA5 := Lib.hid hA5
  clear hA5
  replace HB := Lib.hid (HB.out.trans (hb.mono HB.out.size))
  replace N8 := Lib.hid (N8.out.keep hb)
  replace N10 := Lib.hid (N10.out.keep hb)
  have HG := Lib.hid (And.intro hg8 N10.out.lt)
  clear hd hb hg8
  go_wp2_with fail
  go_loopw [12] (fun x wr => ∃ (q : Nat) (L : List Tx) (A : Option Addr) (c : Nat), q ≤ 18 ∧ L = upT' f q ∧ x = .int .i64 q ∧ Reg.Blk g10 #[.int .i64 i, .slice A L.length c, .slice none 0 0] 29 wr ∧ Own w3.heap.size wr (.slice A L.length c) L ∧ Reg.Keep (fun k => k = g10) w3 wr) (fun x _ => 18 - (intOf x).toNat)
  case atStart => exact ⟨0, [], none, 0, by omega, rfl, rfl, N10.out, Own.nil _ _, keep_refl _ _⟩
  case round =>
    obtain ⟨q, L, A, c, hq, hL, rfl, hb, ho, hkp⟩ := hrel
    have HO := Lib.hid ho
    have HBk := Lib.hid hb
    have HK := Lib.hid hkp
    have HQ := Lib.hid hL
    have hlb : L.length ≤ 18 := by rw [hL, upT'_len]; exact hq
    clear ho hkp hL
    by_cases hlt : q < 18
    · have hji : decide ((q : Int) < 18) = true := decide_eq_true (by omega)
      have hq0 : (0 : Int) ≤ (q : Int) := by omega
      have hq18 : (q : Int) < 18 := by omega
      obtain ⟨c10, f10, z10⟩ := hb.facts
      obtain ⟨b5, off5, eA5, hlb5, c1⟩ := HI.out q (by rw [ds_len]; exact hlt)
      have hn5 : ¬ b5 = g10 := by have := HA5.out b5 off5 eA5; omega
      obtain ⟨M, hM⟩ : ∃ M, M = ownM (.slice A L.length c) := ⟨_, rfl⟩
      have hMge : ∀ k, M k → w3.heap.size ≤ k ∧ k < wr.heap.size := fun k hk => own_ge HO.out k (by rw [← hM]; exact hk)
      have m10 : ¬ M g10 := fun h => by have := (hMge _ h).1; have := HG.out.2; omega
      have m5 : ¬ M b5 := fun h => by have := (hMge _ h).1; omega
      have c1' : wr.cell? ⟨b5, off5 + q, none⟩ = some (.int .i64 (dk m q : Nat)) := ((Reg.kcell HK.out).1 b5 _ hlb5 hn5).trans c1
      have hlb5' : b5 < wr.heap.size := Nat.lt_of_lt_of_le hlb5 HK.out.size
      have HS := Lib.hid (fun W => HSt.out q W (by omega))
      have HC : Hid (∀ W, Calls Tryz.prog 43 #[.string (str (startT s i q)), .int .i64 (dk m q : Nat)] W fun e w' => e = .returned (.string (str (chn (startT s i q) (dk m q)))) ∧ Below W.heap.size W w') := fun W => (rchainT (startT s i q) (dk m q) W (by rw [start_len]; omega) (by have := dk_le m q; omega)).mono fun e w' ⟨h1, h2⟩ => ⟨h1, by rw [h2]; exact Below.refl _ _⟩
      have hsn : upT' f (q + 1) = L ++ [chn (startT s i q) (dk m q)] := by rw [upT'_succ, HFf.out, HQ.out]
      have HSn := Lib.hid hsn
      have HMq := Lib.hid (And.intro hM hMge)
      subst eA5
      clear c1 hlb5 hsn hM hMge hb HSg HFf HPw HDi
      generalize startT s i q = S0 at *
      generalize chn S0 (dk m q) = t at *
      generalize dk m q = D at *
      go_wp2_with fail
      refine Reg.wp_region_last M (oneF M t 11) (appT w3.heap.size (.slice A L.length c) L t) (by kernel_rfl) (by kernel_rfl) oneF_s appT_s (HO.out.below ((Below.refl _ _).drew)) ?_
      simp only
      iterate 11
        apply Reg.SeqL.val
        rotate_left 2
        · intro δ W hW hkn K hK
          obtain ⟨hc, hf, _⟩ := Reg.kcell hW
          simp only [Act.put, List.setIfInBounds_toArray, List.set_cons_zero, List.set_cons_succ] at hK
          unfold Reg.Does
          go_simp
          try simp only [IntWalk.i64_left]
          first
            | exact hK _ (Below.refl _ _)
            | (go_at_call 44; (with_reducible refine (HS.out _).mono ?_); rintro e w' ⟨rfl, hb⟩; exact hK _ hb)
            | (go_at_call 43; (with_reducible refine (HC.out _).mono ?_); rintro e w' ⟨rfl, hb⟩; exact hK _ hb)
            | (trace_state; fail)
        rotate_left 1
        · intro δ δ' hd; first | rfl | (simp only [hd _ (show Reg.reach _ 12 _ _ = true by kernel_rfl)])
        · intro x w; first | exact trivial | (intro e; exact absurd e (by decide)) | exact ⟨fun e => absurd e (by decide), fun e => absurd e (by decide)⟩
        simp only [Act.put, List.setIfInBounds_toArray, List.set_cons_zero, List.set_cons_succ, List.nil_append, List.cons_append, Nat.reduceAdd, Nat.zero_add]
      refine Reg.SeqL.new (fun δ W2 hW hkn K hK => ?_) ?_
      · simp only [Act.put, List.setIfInBounds_toArray, List.set_cons_zero, List.set_cons_succ] at hK
        unfold Reg.Does
        go_simp
        exact hK _ _ ((Below.refl _ _).alloc (Nat.le_refl _) _) (fun _ => ⟨W2.heap.size, rfl, Reg.Blk.new _ _ _, fun h => by have := (HMq.out.2 _ h).2; have := hW.size; omega⟩)
      simp only [Act.put, List.setIfInBounds_toArray, List.set_cons_zero, List.set_cons_succ, List.nil_append, List.cons_append, Nat.reduceAdd, Nat.zero_add]
      refine Reg.SeqL.eff (fun e h => by simp at h) (fun δ W2 hW hkn hT K hK => ?_) ?_
      · obtain ⟨gx, e8, hg, _⟩ := hkn 11 (by kernel_rfl) rfl
        refine does_app1 (by rfl) _ _ rfl t rfl e8 hT hg (by omega) (by have := HK.out.size; have := hW.size; omega) ?_
        intro A' c' w' ho' hk'
        exact hK _ _ (by rw [HMq.out.1]; exact hk') (fun e => absurd e (by decide)) ⟨A', c', rfl, ho'⟩
      simp only [Act.put, List.setIfInBounds_toArray, List.set_cons_zero, List.set_cons_succ, List.nil_append, List.cons_append, Nat.reduceAdd, Nat.zero_add]
      iterate 1
        apply Reg.SeqL.val
        rotate_left 2
        · intro δ W hW hkn K hK
          obtain ⟨hc, hf, _⟩ := Reg.kcell hW
          simp only [Act.put, List.setIfInBounds_toArray, List.set_cons_zero, List.set_cons_succ] at hK
          unfold Reg.Does
          go_simp
          try simp only [IntWalk.i64_left]
          first
            | exact hK _ (Below.refl _ _)
            | (trace_state; fail)
        rotate_left 1
        · intro δ δ' hd; first | rfl | (simp only [hd _ (show Reg.reach _ 12 _ _ = true by kernel_rfl)])
        · intro x w; first | exact trivial | (intro e; exact absurd e (by decide)) | exact ⟨fun e => absurd e (by decide), fun e => absurd e (by decide)⟩
        simp only [Act.put, List.setIfInBounds_toArray, List.set_cons_zero, List.set_cons_succ, List.nil_append, List.cons_append, Nat.reduceAdd, Nat.zero_add]
      refine Reg.SeqL.fin (by kernel_rfl) (fun δ W5 hW5 hF hT5 K hK => ?_)
      simp only [Act.put, List.setIfInBounds_toArray, List.set_cons_zero, List.set_cons_succ] at hK
      obtain ⟨A', c', e12, ho'⟩ := hT5
      have hl1 : (L ++ [t]).length = L.length + 1 := by rw [List.length_append]; rfl
      rw [hl1] at e12
      rw [e12] at ho'
      have HL1 := Lib.hid hl1
      clear hl1
      have b5' := keep_blk hW5 HBk.out m10
      clear c10 f10 z10
      obtain ⟨c10, f10, z10⟩ := b5'.facts
      have HB5 := Lib.hid b5'
      have HO5 := Lib.hid ho'
      have HW5 := Lib.hid hW5
      clear b5' ho' hF hW5
      rw [e12] at hK ⊢
      unfold Reg.Does
      go_simp
      refine hK undef _ ?_
      have hu := (Reg.Upd.refl HB5.out).set 1 (.slice A' (L.length + 1) c')
      have hset := own_set HO5.out (a := ⟨g10, 1, none⟩) (by have := HG.out.2; show g10 < _; omega) (.slice A' (L.length + 1) c')
      have kU : Reg.Keep (fun k => M k ∨ k = g10) wr (W5.setCell ⟨g10, 1, none⟩ (.slice A' (L.length + 1) c')) :=
        Reg.updK (M := fun k => M k ∨ k = g10) (g := g10) (.inr rfl) _ _ _ _ (keep_weak HW5.out fun k hk => .inl hk) hu
      have kV : Reg.Keep (fun k => k = g10) w3 (W5.setCell ⟨g10, 1, none⟩ (.slice A' (L.length + 1) c')) :=
        ⟨kU.os.trans HK.out.os, kU.tape.trans HK.out.tape, kU.output.trans HK.out.output, Nat.le_trans HK.out.size kU.size, fun k hk hm => (kU.block k (Nat.lt_of_lt_of_le hk HK.out.size) (fun e => by
          rcases e with e | e
          · have := (HMq.out.2 k e).1; omega
          · exact hm e)).trans (HK.out.block k hk hm)⟩
      have hbk : Reg.Blk g10 #[.int .i64 i, .slice A' (L.length + 1) c', .slice none 0 0] 29 (W5.setCell ⟨g10, 1, none⟩ (.slice A' (L.length + 1) c')) := hu.at_
      have HE5 := Lib.hid (And.intro hset (And.intro kV hbk))
      clear hu hset kU kV hbk c10 f10 z10 hK c1' hlb5'
      generalize W5.setCell ⟨g10, 1, none⟩ (.slice A' (L.length + 1) c') = W6 at *
      go_wp2_with fail
      have q3 : 18 - (intOf (Value.int IntKind.i64 ((q : Int) + 1))).toNat < 18 - (intOf (Value.int IntKind.i64 (q : Int))).toNat := by simp [intOf]; omega
      exact ⟨⟨q + 1, L ++ [t], A', c', hlt, HSn.out.symm, rfl, by rw [HL1.out]; exact HE5.out.2.2, by rw [HL1.out]; exact HE5.out.1, HE5.out.2.1⟩, q3⟩
    · obtain rfl : q = 18 := by omega
      have hji : decide (((18 : Nat) : Int) < 18) = false := decide_eq_false (by omega)
      obtain rfl : L = Sg := by rw [HQ.out, ← HSg.out]
      rw [HLn.out.2.1] at hb
      have ho := HO.out
      rw [HLn.out.2.1] at ho
      replace HBk := Lib.hid hb
      replace HO := Lib.hid ho
      replace N8 := Lib.hid (keep_blk HK.out N8.out (by have := HG.out.1; omega))
      clear hb ho hlb HI HA5 HSt HSg HFf HQ hlt hq
      have HBr := Lib.hid (HB.out.trans (HK.out.below (B := w.heap.size) fun k hk => ⟨by have := HB.out.size; omega, by have := HG.out.1; omega⟩))
      clear HK HB
      go_wp2_with fail
      (with_reducible refine (HLv.out _).mono ?_); rintro e w5 ⟨⟨Al, cl, rfl, hol⟩, hbl⟩
      have HPq := Lib.hid (HPt.out w5 Al cl (hol.lst' HLn.out.2.2))
      replace HBr := Lib.hid (HBr.out.trans (hbl.mono HBr.out.size))
      replace HBk := Lib.hid (HBk.out.keep hbl)
      replace HO := Lib.hid (HO.out.below hbl)
      replace N8 := Lib.hid (N8.out.keep hbl)
      have hg5 := HBk.out.lt
      have HG5 := Lib.hid hg5
      clear hbl hol HLv HPt hg5
      go_wp2_with fail
      (with_reducible refine HPq.out.mono ?_); rintro e w6 ⟨⟨Bp, dp, rfl, hop⟩, hbp⟩
      replace HBr := Lib.hid (HBr.out.trans (hbp.mono HBr.out.size))
      replace HBk := Lib.hid (HBk.out.keep hbp)
      replace HO := Lib.hid (HO.out.below hbp)
      replace N8 := Lib.hid (N8.out.keep hbp)
      have HOp := Lib.hid hop
      clear hbp hop HPq
      obtain ⟨c10, f10, z10⟩ := HBk.out.facts
      obtain ⟨c8, f8, z8⟩ := N8.out.facts
      have ne1 : ¬ w.heap.size = g10 := by have := HG.out.1; omega
      have ne2 : ¬ g10 = w.heap.size := by have := HG.out.1; omega
      go_wp2_with fail
      clear c10 f10 z10 c8 f8 z8
      have hu1 := (Reg.Upd.refl HBk.out).set 2 (.slice Bp h dp)
      have k8 : Reg.Blk w.heap.size #[.int .i64 0, .slice none 0 0, .slice none 0 0] 29 (w6.setCell ⟨g10, 2, none⟩ (.slice Bp h dp)) := (hu1.far _ ne1).trans N8.out
      have hu2 := (((Reg.Upd.refl k8).set 0 (.int .i64 i)).set 1 (.slice A 18 c)).set 2 (.slice Bp h dp)
      have kA1 : Reg.Keep (fun q => q = g10) w6 (w6.setCell ⟨g10, 2, none⟩ (.slice Bp h dp)) := Reg.updK (M := fun q => q = g10) (g := g10) rfl _ _ _ _ (keep_refl _ _) hu1
      have kA2 := Reg.updK (M := fun q => q = w.heap.size) (g := w.heap.size) rfl _ _ _ _ (keep_refl _ _) hu2
      have hn8 : Reg.Blk w.heap.size #[.int .i64 i, .slice A 18 c, .slice Bp h dp] 29 _ := hu2.at_
      have o1 := own_keepM (own_keepM HO.out kA1 (by intro q e; have := HG.out.2; omega)) kA2 (by intro q e; have := HG.out; omega)
      have o2 := own_keepM (own_keepM HOp.out kA1 (by intro q e; have := HG5.out; omega)) kA2 (by intro q e; have := HG5.out; have := HG.out.1; omega)
      have hbn := (HBr.out.trans (kA1.below (B := w.heap.size) fun k hk => ⟨by have := HBr.out.size; omega, by have := HG.out.1; omega⟩)).trans (kA2.below (B := w.heap.size) fun k hk => ⟨by have := HBr.out.size; have := hu1.size; omega, by omega⟩)
      clear hu1 hu2 k8 kA1 kA2
      generalize (((w6.setCell ⟨g10, 2, none⟩ (.slice Bp h dp)).setCell _ _).setCell _ _).setCell _ _ = Wn at *
      obtain ⟨c9, f9, z9⟩ := hn8.facts
      refine bodyPost_ret (v := .tuple #[.agg #[.int .i64 i, .slice A 18 c, .slice Bp h dp], .int .i64 0]) (by simp [results, Tryz.results17, go_sem, c9]) rfl ⟨⟨A, c, Bp, dp, rfl, o1.lst' HLn.out.2.1, o2.lst' HLn.out.1⟩, hbn⟩
theorem rsign_any (s m : Tx) (h i : Int) (w : World) (hs : s.length ≤ 300) (hm : m.length ≤ 140737488351232) :
    Calls Tryz.prog 17 #[.string (str s), .int .i64 h, .int .i64 i, .string (str m)] w fun e w' =>
      (∃ v, e = .returned (.tuple #[v, .int .i64 (sgnE h i)]) ∧ SealAt w' v (sgnI h i) (sgnS s h i m) (sgnP s h i)) ∧ Below w.heap.size w w' := by
  have no : sgnB h i = false → (Calls Tryz.prog 17 #[.string (str s), .int .i64 h, .int .i64 i, .string (str m)] w fun e w' => e = .returned (.tuple #[.agg #[.int .i64 0, .slice none 0 0, .slice none 0 0], .int .i64 1]) ∧ Below w.heap.size w w') →
      Calls Tryz.prog 17 #[.string (str s), .int .i64 h, .int .i64 i, .string (str m)] w fun e w' => (∃ v, e = .returned (.tuple #[v, .int .i64 (sgnE h i)]) ∧ SealAt w' v (sgnI h i) (sgnS s h i m) (sgnP s h i)) ∧ Below w.heap.size w w' := fun hf hc => by
    refine hc.mono ?_
    rintro e w' ⟨rfl, hb⟩
    unfold sgnE sgnI sgnS sgnP
    rw [hf]
    exact ⟨⟨_, rfl, none, 0, 0, none, 0, 0, rfl, Lst.empty _, Lst.empty _⟩, hb⟩
  by_cases h1 : h < 0
  · exact no (by unfold sgnB; rw [decide_eq_false (p := 0 ≤ h) (by omega)]; rfl) (rsign_no1 _ _ h i w h1)
  by_cases h2 : 8 < h
  · exact no (by unfold sgnB; rw [decide_eq_false (p := h ≤ 8) (by omega)]; simp) (rsign_no2 _ _ h i w h2)
  by_cases h3 : i < 0
  · exact no (by unfold sgnB; rw [decide_eq_false (p := 0 ≤ i) (by omega)]; simp) (rsign_no3 _ _ h i w (by omega) (by omega) h3)
  obtain ⟨n, rfl⟩ := Int.eq_ofNat_of_zero_le (show 0 ≤ h by omega)
  by_cases h4 : ((2 ^ n : Nat) : Int) ≤ i
  · exact no (by unfold sgnB; rw [Int.toNat_natCast, decide_eq_false (p := i < ((2 ^ n : Nat) : Int)) (by omega)]; simp) (rsign_no4 _ _ n i w (by omega) (by omega) h4)
  obtain ⟨j, rfl⟩ := Int.eq_ofNat_of_zero_le (show 0 ≤ i by omega)
  have hy : sgnB n j = true := by
    unfold sgnB
    rw [Int.toNat_natCast, decide_eq_true (p := (0 : Int) ≤ (n : Int)) (by omega), decide_eq_true (p := (n : Int) ≤ 8) (by omega), decide_eq_true (p := (0 : Int) ≤ (j : Int)) (by omega), decide_eq_true (p := (j : Int) < ((2 ^ n : Nat) : Int)) (by omega)]
    rfl
  refine (rsign_ok s m n j w hs hm (by omega) (by omega)).mono ?_
  rintro e w' ⟨⟨A, c, B, d, rfl, l1, l2⟩, hb⟩
  unfold sgnE sgnI sgnS sgnP
  rw [hy, Int.toNat_natCast, Int.toNat_natCast]
  exact ⟨⟨_, rfl, A, 18, c, B, n, d, rfl, l1, l2⟩, hb⟩

end S
end Go.Proofs.YthdjdlndfkemiaaGreatDoor
