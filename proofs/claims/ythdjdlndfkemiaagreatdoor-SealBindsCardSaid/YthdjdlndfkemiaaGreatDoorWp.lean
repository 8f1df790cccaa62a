/- Seals, the reference: 'Power', 'chained', 'node'. -/
import Derived.Test.YthdjdlndfkemiaaGreatDoorWj
import Derived.Test.YthdjdlndfkemiaaGreatDoorRet
set_option linter.unusedSimpArgs false
set_option linter.unusedVariables false
set_option maxRecDepth 100000
namespace Go.Proofs.YthdjdlndfkemiaaGreatDoor
open Go.RowKit
namespace S

theorem short2 (a b : Tx) : shortB [a, b] = (decide (a.length ≤ 300) && decide (b.length ≤ 300)) := by simp [shortB]
theorem is_yes (t : Tx) (w : World) (h : isD t = true) : Calls Tryz.prog 31 #[.string (str t)] w fun e w' => e = .returned (.bool true) ∧ Below w.heap.size w w' := by
  have k := is_str t w (by have := isD_len h; omega)
  rw [h] at k
  exact k
theorem rem_nat {n : Int} {N : Nat} (h : 0 ≤ n) (hN : 0 < N) : ∃ i : Nat, i < N ∧ Int.tmod n (N : Int) = (i : Int) := by
  have h0 := Int.emod_nonneg n (b := (N : Int)) (by omega)
  have h1 := Int.emod_lt_of_pos n (b := (N : Int)) (by omega)
  exact ⟨(n % (N : Int)).toNat, by omega, by rw [Int.tmod_eq_emod_of_nonneg h]; omega⟩

/-! Power. -/
theorem pow_step {k n : Nat} (hk : k < n) (hn : n ≤ 8) : wrap64 (2 * ((2 ^ k : Nat) : Int)) = ((2 ^ (k + 1) : Nat) : Int) ∧ 2 ^ k ≤ 256 := by
  have h := pow_le (show k ≤ 8 by omega)
  have e : 2 ^ (k + 1) = 2 * 2 ^ k := by rw [Nat.pow_succ, Nat.mul_comm]
  rw [e]
  clear e
  generalize 2 ^ k = P at *
  refine ⟨?_, h⟩
  rw [IntWalk.wrap64_in _ (by omega)]
  omega
theorem rpower_any (n : Nat) (w : World) (hn : n ≤ 8) : Calls Tryz.prog 35 #[.int .i64 n] w fun e w' => e = .returned (.int .i64 ((2 ^ n : Nat) : Int)) ∧ Below w.heap.size w w' := by
  have HN := Lib.hid hn
  clear hn
  go_enter Tryz.func35, Tryz.ntmps35
  go_wp2_with fail
  go_loopw [3, 4] (fun x y wr => ∃ k : Nat, k ≤ n ∧ x = .int .i64 ((2 ^ k : Nat) : Int) ∧ y = .int .i64 k ∧ Below w.heap.size w wr) (fun _ y _ => n - (intOf y).toNat)
  case atStart => exact ⟨0, Nat.zero_le _, by rfl, rfl, Below.refl _ _⟩
  case round =>
    obtain ⟨k, hk, rfl, rfl, hbw⟩ := hrel
    have HB := Lib.hid hbw
    clear hbw
    by_cases hlt : k < n
    · obtain ⟨h1, h2⟩ := pow_step hlt HN.out
      have hji : decide ((k : Int) < (n : Int)) = true := decide_eq_true (by omega)
      obtain ⟨P, hP⟩ : ∃ P, P = 2 ^ k := ⟨_, rfl⟩
      obtain ⟨Q, hQ⟩ : ∃ Q, Q = 2 ^ (k + 1) := ⟨_, rfl⟩
      rw [← hP, ← hQ] at h1
      rw [← hP] at h2
      have HQ := Lib.hid hQ
      have H1 : Hid (Q = 2 * P) := by
        unfold Hid; rw [IntWalk.wrap64_in _ (by omega)] at h1; omega
      have h1' : IntKind.i64.wrap (2 * (P : Int)) = (Q : Int) := by rw [IntWalk.i64_left]; exact h1
      rw [← hP]
      have hk9 : k ≤ 8 := by have := HN.out; omega
      clear hP hQ
      go_wp2_with fail
      exact ⟨⟨k + 1, by omega, by rw [← HQ.out], by go_num, HB.out⟩, by simp [intOf]; omega⟩
    · obtain rfl : n = k := by omega
      have hji : decide ((n : Int) < (n : Int)) = false := decide_eq_false (by omega)
      obtain ⟨P, hP⟩ : ∃ P, P = 2 ^ n := ⟨_, rfl⟩
      rw [← hP]
      have HPn := Lib.hid hP
      clear hP
      go_wp2_with fail
      go_ret
      exact ⟨by rw [← HPn.out]; rfl, HB.out⟩

/-! A chain. -/
theorem own_lit1 (w : World) (t : Tx) : Own w.heap.size (w.alloc (.cells #[.string (str t)] 9)) (.slice (some ⟨w.heap.size, 0, none⟩) 1 1) [t] :=
  ⟨rfl, .inr ⟨w.heap.size, 1, #[.string (str t)], rfl, Nat.le_refl _, Reg.heap_new w _, Nat.le_refl _, by decide, rfl, rfl⟩⟩
theorem chs_snoc (t : Tx) (n : Nat) : chs t (n + 1) = chs t n ++ [chn t (n + 1)] := by unfold chs; rw [List.range_succ, List.map_append]; rfl
theorem chs_len (t : Tx) (n : Nat) : (chs t n).length = n + 1 := by simp [chs]
theorem chn_zero (t : Tx) : chn t 0 = t := rfl
theorem chs_zero (t : Tx) : chs t 0 = [t] := by unfold chs; rw [List.range_one, List.map_singleton, chn_zero]
theorem chn_next (t : Tx) (n : Nat) : chn t (n + 1) = sumL (chn t n) := rfl
theorem rsumS (t : Tx) (w : World) (h : t.length ≤ 140737488351232) : Calls Tryz.prog 21 #[.string (str t)] w fun e w' => e = .returned (.string (str (sumL t))) ∧ w' = w := by
  have k := rsum_any (str t) w (by rw [str_size]; exact h)
  rw [str_data] at k
  exact k
attribute [local go_sem ↓ high] Ap.builtin_appA in
set_option maxHeartbeats 4000000 in
theorem chained_any (t : Tx) (n : Nat) (w : World) (hn : n ≤ 1000) (ht : t.length ≤ 140737488351232) :
    Calls Tryz.prog 38 #[.string (str t), .int .i64 n] w fun e w' => (∃ A c, e = .returned (.slice A (n + 1) c) ∧ Own w.heap.size w' (.slice A (n + 1) c) (chs t n)) ∧ Below w.heap.size w w' := by
  have HS := Lib.hid (fun k W => rsumS (chn t k) W (chn_len t ht k))
  have HN := Lib.hid hn
  have ho := own_lit1 w t
  have hal : Below w.heap.size w (w.alloc (.cells #[.string (str t)] 9)) := (Below.refl _ _).alloc (Nat.le_refl _) _
  clear ht hn
  go_enter Tryz.func38, Tryz.ntmps38
  go_wp2_with fail
  go_loopw [0, 5, 6] (fun x v y wr => ∃ (k : Nat) (A : Option Addr) (c : Nat) (L : List Tx), k ≤ n ∧ x = .string (str (chn t k)) ∧ v = .slice A L.length c ∧ y = .int .i64 k ∧ L = chs t k ∧ Own w.heap.size wr (.slice A L.length c) L ∧ Below w.heap.size w wr) (fun _ _ y _ => n - (intOf y).toNat)
  case atStart => exact ⟨0, _, 1, [t], Nat.zero_le _, by rw [chn_zero], rfl, rfl, (chs_zero t).symm, ho, hal⟩
  case round =>
    obtain ⟨k, A, c, L, hk, rfl, rfl, rfl, hL, ho, hbw⟩ := hrel
    have HB := Lib.hid hbw
    have HO := Lib.hid ho
    have HL := Lib.hid hL
    clear hbw ho hL
    by_cases hlt : k < n
    · have hji : decide ((k : Int) < (n : Int)) = true := decide_eq_true (by omega)
      have hk9 : k ≤ 1000 := by have := HN.out; omega
      have hq := HS.out k wr
      have HX := Lib.hid (chn_next t k)
      rw [← HX.out] at hq
      have HQ := Lib.hid hq
      have hlen : L.length = k + 1 := by rw [HL.out, chs_len]
      obtain ⟨A3, c3, w3, hrun, ho3, hL3⟩ := app1 (chn t (k + 1)) HO.out (by have := HN.out; omega) HB.out HB.out.size
      have e1 : (L ++ [chn t (k + 1)]).length = L.length + 1 := by simp
      have HL2 : Hid (L ++ [chn t (k + 1)] = chs t (k + 1)) := by unfold Hid; rw [chs_snoc, HL.out]
      rw [e1] at hrun
      have HO3 := Lib.hid ho3
      have HL3 := Lib.hid hL3
      have HE1 := Lib.hid e1
      have HLn := Lib.hid hlen
      clear hq ho3 hL3 e1 hlen HX
      generalize hc1 : chn t (k + 1) = t1 at *
      have HC1 := Lib.hid hc1
      clear hc1
      generalize chn t k = t0 at *
      go_wp2_with fail
      (with_reducible refine HQ.out.mono ?_); rintro e w1 ⟨rfl, rfl⟩
      go_wp2_with fail
      have q1 : Value.string (str t1) = Value.string (str (chn t (k + 1))) := congrArg (fun z => Value.string (str z)) HC1.out.symm
      have q2 : Value.int IntKind.i64 ((k : Int) + 1) = Value.int IntKind.i64 ((k + 1 : Nat) : Int) := rfl
      have q3 : n - (intOf (Value.int IntKind.i64 ((k : Int) + 1))).toNat < n - (intOf (Value.int IntKind.i64 (k : Int))).toNat := by simp [intOf]; omega
      have q4 : Value.slice A3 (L.length + 1) c3 = Value.slice A3 (L ++ [t1]).length c3 := by rw [HE1.out]
      exact ⟨⟨k + 1, A3, c3, L ++ [t1], hlt, q1, q4, q2, HL2.out, HO3.out, HL3.out⟩, q3⟩
    · obtain rfl : n = k := by omega
      have hji : decide ((n : Int) < (n : Int)) = false := decide_eq_false (by omega)
      have hlen : L.length = n + 1 := by rw [HL.out, chs_len]
      have ho : Own w.heap.size wr (.slice A (n + 1) c) (chs t n) := by
        have h := HO.out
        rw [hlen] at h
        rwa [HL.out] at h
      have HX := Lib.hid ho
      have HLn := Lib.hid hlen
      clear ho hlen
      generalize (chn t n) = t0 at *
      go_wp2_with fail
      go_ret
      exact ⟨⟨A, c, by rw [HLn.out]; rfl, HX.out⟩, HB.out⟩

/-! A node. -/
theorem rsnode_any (a b : Tx) (ha : Sh a) (hb : Sh b) (w : World) : Calls Tryz.prog 39 #[.string (str a), .string (str b)] w fun e w' => e = .returned (.string (str (jn a b))) ∧ Below w.heap.size w w' := by
  have HJ := Lib.hid (joinedN a b ha hb w)
  clear ha hb
  generalize jn a b = R at *
  go_enter Tryz.func39, Tryz.ntmps39
  go_wp2_with fail
  (with_reducible refine HJ.out.mono ?_); rintro e w1 ⟨rfl, hb⟩
  go_wp2_with fail
  go_ret
  exact ⟨rfl, hb⟩

end S
end Go.Proofs.YthdjdlndfkemiaaGreatDoor

/- Seals, the reference: appends to one row beside others. -/
namespace Go.Proofs.YthdjdlndfkemiaaGreatDoor
open Go.RowKit
namespace S

/-- Two rows that share no block. -/
def Dis (v u : Value) : Prop := ∀ k, u.ownBlock = some k → v.ownBlock ≠ some k
theorem Dis.symm {v u : Value} (h : Dis v u) : Dis u v := fun k hv hu => h k hu hv
theorem Dis.nil (v : Value) : Dis v (.slice none 0 0) := fun k h => by simp [Value.ownBlock] at h
theorem own_len {B : Nat} {w : World} {v : Value} {l : List Tx} (h : Own B w v l) {k : Nat} (hk : v.ownBlock = some k) : B ≤ k ∧ k < w.heap.size := by
  have h0 : w.ownsRow B 9 1 v l.length (sv l) := h
  exact World.ownsRow.lt h0 k hk
theorem app2d {w : World} {B cap c n : Nat} {A0 A : Option Addr} {l m : List Tx} (hown : Own B w (.slice A0 l.length cap) l) (hm : Lst w A n c m) (hn : l.length + n ≤ 1000000) (hBw : B ≤ w.heap.size) :
    ∃ A' c' w', (Ap.appA #[27, 27] 27 #[.slice A0 l.length cap, .slice A n c]).run Tryz.prog w = .ok (.slice A' (l ++ m).length c') w' ∧
      Own B w' (.slice A' (l ++ m).length c') (l ++ m) ∧ Below B w w' ∧ ∀ v q, Own B w v q → Dis v (.slice A0 l.length cap) → Own B w' v q ∧ Dis v (.slice A' (l ++ m).length c') := by
  obtain ⟨i0, hi0, hz⟩ := Option.map_eq_some_iff.1 info_str
  simp only [Prod.mk.injEq] at hz
  obtain ⟨hz0, hz1, hz2⟩ := hz
  obtain ⟨h1, rfl, h3, h4, h5⟩ := hm
  obtain ⟨A', c', w', hrun, ho, hgr, hat⟩ := Ap.run_appG (c := c) Tryz.underlying27 hi0 hz0 hz1 hz2 rfl (by omega) (by omega) 27 hown (src_of h1) h5 hn hBw
  have e1 : (l ++ m).length = l.length + m.length := by simp
  have hbB : Below B w w' := (Below.refl B w).grown hgr hBw (fun k e => (own_len hown e).1)
  refine ⟨A', c', w', by rw [e1]; exact hrun, ?_, hbB, fun v q hv hd => ⟨Ap.own_beside hv hgr hd, fun k hk hvk => ?_⟩⟩
  · show World.ownsRow _ _ _ _ _ _ _
    rw [e1, show sv (l ++ m) = sv l ++ sv m by simp [sv]]
    exact ho
  · rw [e1] at hk
    rcases hat with e | e
    · rw [e] at hk; exact hd k hk hvk
    · rw [e] at hk
      injection hk with hk
      have := (own_len hv hvk).2
      omega
theorem app1d {w : World} {B cap : Nat} {A0 : Option Addr} {l : List Tx} (x : Tx) (hown : Own B w (.slice A0 l.length cap) l) (hn : l.length + 1 ≤ 1000000) (hBw : B ≤ w.heap.size) :
    ∃ A' c' w', (Ap.appA #[27, 27] 27 #[.slice A0 l.length cap, .slice (some ⟨w.heap.size, 0, none⟩) 1 1]).run Tryz.prog (w.alloc (.cells #[.string (str x)] 9)) = .ok (.slice A' (l ++ [x]).length c') w' ∧
      Own B w' (.slice A' (l ++ [x]).length c') (l ++ [x]) ∧ Below B w w' ∧ ∀ v q, Own B w v q → Dis v (.slice A0 l.length cap) → Own B w' v q ∧ Dis v (.slice A' (l ++ [x]).length c') := by
  have hb1 : Below w.heap.size w (w.alloc (.cells #[.string (str x)] 9)) := (Below.refl _ _).alloc (Nat.le_refl _) _
  have hl : Lst (w.alloc (.cells #[.string (str x)] 9)) (some ⟨w.heap.size, 0, none⟩) 1 1 [x] := Lst.lit (n := 1) [x] rfl (by decide) (Reg.Blk.new w #[.string (str x)] 9)
  obtain ⟨A', c', w', h1, h2, h3, h4⟩ := app2d (hown.below hb1) hl (by simp; omega) (by simp; omega)
  refine ⟨A', c', w', h1, h2, (hb1.mono hBw).trans h3, fun v q hv hd => h4 v q (hv.below hb1) hd⟩
theorem app12d {w : World} {B cap : Nat} {A0 : Option Addr} {l : List Tx} (x y : Tx) (hown : Own B w (.slice A0 l.length cap) l) (hn : l.length + 2 ≤ 1000000) (hBw : B ≤ w.heap.size) :
    ∃ A' c' w', (Ap.appA #[27, 27] 27 #[.slice A0 l.length cap, .slice (some ⟨w.heap.size, 0, none⟩) 2 2]).run Tryz.prog (w.alloc (.cells #[.string (str x), .string (str y)] 9)) = .ok (.slice A' (l ++ [x, y]).length c') w' ∧
      Own B w' (.slice A' (l ++ [x, y]).length c') (l ++ [x, y]) ∧ Below B w w' ∧ ∀ v q, Own B w v q → Dis v (.slice A0 l.length cap) → Own B w' v q ∧ Dis v (.slice A' (l ++ [x, y]).length c') := by
  have hb1 : Below w.heap.size w (w.alloc (.cells #[.string (str x), .string (str y)] 9)) := (Below.refl _ _).alloc (Nat.le_refl _) _
  have hl : Lst (w.alloc (.cells #[.string (str x), .string (str y)] 9)) (some ⟨w.heap.size, 0, none⟩) 2 2 [x, y] := Lst.lit (n := 2) [x, y] rfl (by decide) (Reg.Blk.new w #[.string (str x), .string (str y)] 9)
  obtain ⟨A', c', w', h1, h2, h3, h4⟩ := app2d (hown.below hb1) hl (by simp; omega) (by simp; omega)
  refine ⟨A', c', w', h1, h2, (hb1.mono hBw).trans h3, fun v q hv hd => h4 v q (hv.below hb1) hd⟩

end S
end Go.Proofs.YthdjdlndfkemiaaGreatDoor

/- Seals, the reference: 'Made'. -/
namespace Go.Proofs.YthdjdlndfkemiaaGreatDoor
open Go.RowKit
namespace S

def inK (s : Tx) (n i k : Nat) : List Tx := ((List.range k).map fun k => startX s i k :: chs (startT s i k) n).flatten
theorem inK_succ (s : Tx) (n i k : Nat) : inK s n i (k + 1) = (inK s n i k ++ [startX s i k]) ++ chs (startT s i k) n := by
  unfold inK
  rw [List.range_succ, List.map_append, List.flatten_append, List.append_assoc]
  congr 1
  rw [List.map_singleton, List.flatten_singleton]
  rfl
def endK (s : Tx) (i k : Nat) : List Tx := (List.range k).map fun k => chn (startT s i k) 15
theorem endK_succ (s : Tx) (i k : Nat) : endK s i (k + 1) = endK s i k ++ [chn (startT s i k) 15] := by
  unfold endK
  rw [List.range_succ, List.map_append, List.map_singleton]
theorem endK_len (s : Tx) (i k : Nat) : (endK s i k).length = k := by unfold endK; rw [List.length_map, List.length_range]
def outK (s : Tx) (n i : Nat) : List Tx := ((List.range i).map (madeK s n)).flatten
theorem outK_succ (s : Tx) (n i : Nat) : outK s n (i + 1) = (outK s n i ++ inK s n i 18) ++ [joinT (endK s i 18), joinT [leafT, keyT s i]] := by
  unfold outK
  rw [List.range_succ, List.map_append, List.flatten_append, List.append_assoc]
  congr 1
  rw [List.map_singleton, List.flatten_singleton]
  rfl
def levK (s : Tx) (i : Nat) : List Tx := (List.range i).map (leafK s)
theorem levK_succ (s : Tx) (i : Nat) : levK s (i + 1) = levK s i ++ [leafK s i] := by
  unfold levK
  rw [List.range_succ, List.map_append, List.map_singleton]
theorem levK_len (s : Tx) (i : Nat) : (levK s i).length = i := by unfold levK; rw [List.length_map, List.length_range]
theorem inK_len (s : Tx) (n i : Nat) : ∀ k, (inK s n i k).length = k * (n + 2)
  | 0 => by unfold inK; simp
  | k + 1 => by
    rw [inK_succ, List.length_append, List.length_append, inK_len s n i k, chs_len, Nat.succ_mul k]
    simp only [List.length_cons, List.length_nil]
    omega
theorem outK_len (s : Tx) (n : Nat) : ∀ i, (outK s n i).length = i * (18 * (n + 2) + 2)
  | 0 => by unfold outK; simp
  | i + 1 => by
    rw [outK_succ, List.length_append, List.length_append, inK_len, outK_len s n i, Nat.succ_mul i]
    simp only [List.length_cons, List.length_nil]
    omega
theorem out_bound {n i : Nat} (hn : n ≤ 30) (hi : i ≤ 4) : i * (18 * (n + 2) + 2) ≤ 3000 := by
  have h : i * (18 * (n + 2) + 2) ≤ 4 * (18 * 32 + 2) := Nat.mul_le_mul hi (by omega)
  omega
theorem leaf_sum (s : Tx) (i : Nat) : leafK s i = sumL (joinT [leafT, keyT s i]) := rfl
theorem key_sum (s : Tx) (i : Nat) : keyT s i = sumL (joinT (endK s i 18)) := rfl
theorem start_sum (s : Tx) (i k : Nat) : startT s i k = sumL (startX s i k) := rfl
theorem chs_get (t : Tx) (n k : Nat) (hk : k ≤ n) : (chs t n)[k]? = some (chn t k) := by
  unfold chs
  rw [List.getElem?_map, List.getElem?_range (by omega), Option.map_some]

/-- Three rows, apart from one another, that own their blocks. -/
structure St3 (w0 w : World) (v7 v8 v10 : Value) (L7 L8 L10 : List Tx) : Prop where
  o7 : Own w0.heap.size w v7 L7
  o8 : Own w0.heap.size w v8 L8
  o10 : Own w0.heap.size w v10 L10
  d87 : Dis v8 v7
  d107 : Dis v10 v7
  d810 : Dis v8 v10
  blw : Below w0.heap.size w0 w
theorem St3.below {w0 w w' : World} {v7 v8 v10 : Value} {L7 L8 L10 : List Tx} (h : St3 w0 w v7 v8 v10 L7 L8 L10) (hb : Below w.heap.size w w') : St3 w0 w' v7 v8 v10 L7 L8 L10 :=
  ⟨h.o7.below hb, h.o8.below hb, h.o10.below hb, h.d87, h.d107, h.d810, h.blw.trans (hb.mono h.blw.size)⟩
theorem St3.swap10 {w0 w : World} {v7 v8 v10 : Value} {L7 L8 L10 : List Tx} (h : St3 w0 w v7 v8 v10 L7 L8 L10) : St3 w0 w v10 v8 v7 L10 L8 L7 := ⟨h.o10, h.o8, h.o7, h.d810, h.d107.symm, h.d87, h.blw⟩
theorem St3.swap8 {w0 w : World} {v7 v8 v10 : Value} {L7 L8 L10 : List Tx} (h : St3 w0 w v7 v8 v10 L7 L8 L10) : St3 w0 w v8 v7 v10 L8 L7 L10 := ⟨h.o8, h.o7, h.o10, h.d87.symm, h.d810.symm, h.d107.symm, h.blw⟩
theorem St3.drop {w0 w : World} {v7 v8 v10 : Value} {L7 L8 L10 : List Tx} (h : St3 w0 w v7 v8 v10 L7 L8 L10) : St3 w0 w v7 v8 (.slice none 0 0) L7 L8 [] := ⟨h.o7, h.o8, Own.nil _ _, h.d87, (Dis.nil _).symm, Dis.nil _, h.blw⟩
theorem St3.push {w0 w : World} {A7 : Option Addr} {c7 : Nat} {v8 v10 : Value} {L7 L8 L10 : List Tx} (h : St3 w0 w (.slice A7 L7.length c7) v8 v10 L7 L8 L10) {A : Option Addr} {n c : Nat} {M : List Tx} (hm : Lst w A n c M) (hn : L7.length + n ≤ 1000000) :
    ∃ A' c' w', (Ap.appA #[27, 27] 27 #[.slice A7 L7.length c7, .slice A n c]).run Tryz.prog w = .ok (.slice A' (L7 ++ M).length c') w' ∧
      St3 w0 w' (.slice A' (L7 ++ M).length c') v8 v10 (L7 ++ M) L8 L10 ∧ ∀ v q, Own w0.heap.size w v q → Dis v (.slice A7 L7.length c7) → Own w0.heap.size w' v q := by
  obtain ⟨A', c', w', hr, ho, hb, hx⟩ := app2d h.o7 hm hn h.blw.size
  obtain ⟨e8, f8⟩ := hx _ _ h.o8 h.d87
  obtain ⟨e10, f10⟩ := hx _ _ h.o10 h.d107
  exact ⟨A', c', w', hr, ⟨ho, e8, e10, f8, f10, h.d810, h.blw.trans hb⟩, fun v q hv hd => (hx v q hv hd).1⟩
theorem St3.push1 {w0 w : World} {A7 : Option Addr} {c7 : Nat} {v8 v10 : Value} {L7 L8 L10 : List Tx} (h : St3 w0 w (.slice A7 L7.length c7) v8 v10 L7 L8 L10) (x : Tx) (hn : L7.length + 1 ≤ 1000000) :
    ∃ A' c' w', (Ap.appA #[27, 27] 27 #[.slice A7 L7.length c7, .slice (some ⟨w.heap.size, 0, none⟩) 1 1]).run Tryz.prog (w.alloc (.cells #[.string (str x)] 9)) = .ok (.slice A' (L7 ++ [x]).length c') w' ∧
      St3 w0 w' (.slice A' (L7 ++ [x]).length c') v8 v10 (L7 ++ [x]) L8 L10 := by
  have hb1 : Below w.heap.size w (w.alloc (.cells #[.string (str x)] 9)) := (Below.refl _ _).alloc (Nat.le_refl _) _
  have hl : Lst (w.alloc (.cells #[.string (str x)] 9)) (some ⟨w.heap.size, 0, none⟩) 1 1 [x] := Lst.lit (n := 1) [x] rfl (by decide) (Reg.Blk.new w #[.string (str x)] 9)
  obtain ⟨A', c', w', h1, h2, _⟩ := (h.below hb1).push hl hn
  exact ⟨A', c', w', h1, h2⟩
theorem St3.push2 {w0 w : World} {A7 : Option Addr} {c7 : Nat} {v8 v10 : Value} {L7 L8 L10 : List Tx} (h : St3 w0 w (.slice A7 L7.length c7) v8 v10 L7 L8 L10) (x y : Tx) (hn : L7.length + 2 ≤ 1000000) :
    ∃ A' c' w', (Ap.appA #[27, 27] 27 #[.slice A7 L7.length c7, .slice (some ⟨w.heap.size, 0, none⟩) 2 2]).run Tryz.prog (w.alloc (.cells #[.string (str x), .string (str y)] 9)) = .ok (.slice A' (L7 ++ [x, y]).length c') w' ∧
      St3 w0 w' (.slice A' (L7 ++ [x, y]).length c') v8 v10 (L7 ++ [x, y]) L8 L10 := by
  have hb1 : Below w.heap.size w (w.alloc (.cells #[.string (str x), .string (str y)] 9)) := (Below.refl _ _).alloc (Nat.le_refl _) _
  have hl : Lst (w.alloc (.cells #[.string (str x), .string (str y)] 9)) (some ⟨w.heap.size, 0, none⟩) 2 2 [x, y] := Lst.lit (n := 2) [x, y] rfl (by decide) (Reg.Blk.new w #[.string (str x), .string (str y)] 9)
  obtain ⟨A', c', w', h1, h2, _⟩ := (h.below hb1).push hl hn
  exact ⟨A', c', w', h1, h2⟩
/-- A fresh row is apart from the older ones. -/
theorem dis_fresh {B : Nat} {w w' : World} {v u : Value} {l q : List Tx} (hu : Own B w u q) (hv : Own w.heap.size w' v l) : Dis v u := fun k hk hvk => by
  have h1 := (own_len hu hk).2
  have h2 := (own_len hv hvk).1
  omega
theorem joinedK_lit (l : List Tx) (w : World) (hf : fewB l 1000 = true) : Calls Tryz.prog 36 #[.slice (some ⟨w.heap.size, 0, none⟩) l.length l.length] (w.alloc (.cells (l.map fun t => Value.string (str t)).toArray 9)) fun e w' => e = .returned (.string (str (joinT l))) ∧ Below w.heap.size w w' := by
  have hb : Below w.heap.size w (w.alloc (.cells (l.map fun t => Value.string (str t)).toArray 9)) := (Below.refl _ _).alloc (Nat.le_refl _) _
  refine (joinedK_any (some ⟨w.heap.size, 0, none⟩) l.length l _ (strs_lit l (Reg.heap_new w _)) hf).mono ?_
  rintro e w' ⟨rfl, hb2⟩
  exact ⟨rfl, hb.trans (hb2.mono hb.size)⟩
theorem start_few {s : Tx} {i k : Nat} (hs : s.length ≤ 300) : fewB [s, dec i, dec k] 1000 = true := by
  have h1 := dec_le i
  have h2 := dec_le k
  unfold fewB
  simp
  omega
theorem startX_any (s : Tx) (i k : Nat) (w : World) (hs : s.length ≤ 300) : Calls Tryz.prog 36 #[.slice (some ⟨w.heap.size, 0, none⟩) 3 3] (w.alloc (.cells #[.string (str s), .string (str (dec i)), .string (str (dec k))] 9)) fun e w' => e = .returned (.string (str (startX s i k))) ∧ Below w.heap.size w w' :=
  joinedK_lit [s, dec i, dec k] w (start_few hs)
theorem startX_len {s : Tx} {i k : Nat} (hs : s.length ≤ 300) : (startX s i k).length ≤ 140737488351232 := few_joinK (start_few hs)
theorem ends_few (s : Tx) (i : Nat) : fewB (endK s i 18) 200 = true := by
  unfold fewB
  rw [endK_len, Bool.and_eq_true]
  refine ⟨List.all_eq_true.2 fun t ht => ?_, rfl⟩
  obtain ⟨k, _, rfl⟩ := List.mem_map.1 ht
  have h := isD_len (isD_chn' (isD_start s i k) 15)
  simp only [decide_eq_true_eq]
  omega
theorem leafK_few (s : Tx) (i : Nat) : fewB [leafT, keyT s i] 200 = true := by
  have h : (keyT s i).length = 16 := isD_len (isD_list _)
  unfold fewB
  simp [leafT, h]

theorem does_push {ops : Array Oper} {o : Oper} {a : Act} {K : Act → World → Prop} {w0 w : World} (hw : Region.wanted o (yielded ops a.tmps) = true) (s x : Operand) (ho : o.op = .call { callee := .builtin .append, args := #[s, x], argTypes := #[27, 27] }) (hty : o.type = 27)
    {A7 A : Option Addr} {c7 n c : Nat} {v8 v10 : Value} {L7 L8 L10 M : List Tx} (hs : a.eval s = .slice A7 L7.length c7) (hx : a.eval x = .slice A n c) (h : St3 w0 w (.slice A7 L7.length c7) v8 v10 L7 L8 L10) (hm : Lst w A n c M) (hn : L7.length + n ≤ 1000000)
    (hk : ∀ A' c' w', St3 w0 w' (.slice A' (L7 ++ M).length c') v8 v10 (L7 ++ M) L8 L10 → K (a.put o.dst (.slice A' (L7 ++ M).length c')) w') : Reg.Does Tryz.prog ops o a w K := by
  obtain ⟨A', c', w', hr, h2, _⟩ := h.push hm hn
  unfold Ap.appA at hr
  unfold Reg.Does
  rw [if_pos hw]
  unfold Oper.wp execOp
  simp only [ho, hty, resolve, invoke, builtin, Sem.run_bind, Sem.run_pure, Result.andThen_ok, List.map_toArray, List.map_cons, List.map_nil, hs, hx, hr]
  exact hk A' c' w' h2
def bxF (x : Tx) (b : Nat) (d : Nat) (v : Value) (w : World) : Prop := d = b → ∃ g, v = .slice (some ⟨g, 0, none⟩) 1 1 ∧ Reg.Blk g #[.string (str x)] 9 w
theorem below_no {w w' : World} (h : Reg.Keep (fun _ => False) w w') : Below w.heap.size w w' := h.below fun k hk => ⟨hk, fun e => e⟩
theorem bxF_s {x : Tx} {b : Nat} : ∀ d v w w', bxF x b d v w → Reg.Keep (fun _ => False) w w' → bxF x b d v w' := fun _ _ _ _ h k e => by
  obtain ⟨g, e1, hg⟩ := h e
  exact ⟨g, e1, hg.keep (below_no k)⟩
/-! The levels. -/
def prK (l : List Tx) (k : Nat) : List Tx := (List.range k).map fun j => jn (l[2 * j]?.getD []) (l[2 * j + 1]?.getD [])
def ndK (l : List Tx) (k : Nat) : List Tx := (List.range k).map fun j => node (l[2 * j]?.getD []) (l[2 * j + 1]?.getD [])
theorem prK_succ (l : List Tx) (k : Nat) : prK l (k + 1) = prK l k ++ [jn (l[2 * k]?.getD []) (l[2 * k + 1]?.getD [])] := by
  unfold prK; rw [List.range_succ, List.map_append, List.map_singleton]
theorem ndK_succ (l : List Tx) (k : Nat) : ndK l (k + 1) = ndK l k ++ [node (l[2 * k]?.getD []) (l[2 * k + 1]?.getD [])] := by
  unfold ndK; rw [List.range_succ, List.map_append, List.map_singleton]
theorem prK_len (l : List Tx) (k : Nat) : (prK l k).length = k := by unfold prK; rw [List.length_map, List.length_range]
theorem ndK_len (l : List Tx) (k : Nat) : (ndK l k).length = k := by unfold ndK; rw [List.length_map, List.length_range]
theorem ndK_sh (l : List Tx) (k : Nat) : ∀ t ∈ ndK l k, Sh t := fun t ht => by
  obtain ⟨j, _, rfl⟩ := List.mem_map.1 ht
  exact node_sh _ _
theorem lvT_more (f : Nat) (l : List Tx) (h : ¬ l.length ≤ 1) : lvT (f + 1) l = prK l (l.length / 2) ++ lvT f (ndK l (l.length / 2)) := by
  rw [lvT, if_neg h]; rfl
theorem lvT_end (f : Nat) (l : List Tx) (h : l.length ≤ 1) : lvT f l = [] := by
  cases f with
  | zero => rfl
  | succ f => rw [lvT, if_pos h]
theorem node_sum (a b : Tx) : node a b = sumL (jn a b) := rfl
theorem levK_sh (s : Tx) (i : Nat) : ∀ t ∈ levK s i, Sh t := fun t ht => by
  obtain ⟨j, _, rfl⟩ := List.mem_map.1 ht
  exact isD_sh (isD_sum _)

end S
end Go.Proofs.YthdjdlndfkemiaaGreatDoor
