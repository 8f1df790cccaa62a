/- Seals: 'of', 'start', 'key'. -/
import Derived.Test.YthdjdlndfkemiaaDoorUa
import Derived.Test.YthdjdlndfkemiaaDoorWa
import Derived.Test.YthdjdlndfkemiaaDoorSm
set_option linter.unusedSimpArgs false
set_option linter.unusedVariables false
set_option maxRecDepth 100000
namespace Go.Proofs.YthdjdlndfkemiaaDoor
open Go.RowKit
namespace S

theorem joinT_b (l : List Tx) (h : ∀ t ∈ l, t.length ≤ 1000000) : (joinT l).length ≤ 1000021 * l.length := by
  induction l with
  | nil => simp [joinT]
  | cons t l ih =>
    have h1 := ih fun x hx => h x (List.mem_cons_of_mem _ hx)
    have h2 := h t List.mem_cons_self
    have h3 := dec_le t.length
    simp only [joinT, List.length_append, List.length_cons, List.length_nil]
    omega
theorem of_any (l : List Tx) (A : Option Addr) (c n : Nat) (w : World) (hl : StrsAt w A l) (hn : l.length = n) (hn1 : n ≤ 1000) (h1 : ∀ t ∈ l, t.length ≤ 1000000) (ht : Tabs w) :
    Calls Tryd.prog 21 #[.slice A n c] w fun e w' => e = .returned (.string (str (listL l))) ∧ Below w.heap.size w w' := by
  have hj := joinT_b l h1
  have hq := list_any A c l w hl (by omega) h1 (by omega) ht
  rw [hn] at hq
  have HQ := Lib.hid hq
  clear hq hl hn h1 hj
  go_enter Tryd.func21, Tryd.ntmps21
  go_wp2_with fail
  (with_reducible refine HQ.out.mono ?_); rintro e w1 ⟨rfl, hb1⟩
  have HB := Lib.hid hb1
  clear hb1
  go_wp2_with fail
  go_ret
  exact ⟨rfl, HB.out⟩
theorem of_lit (l : List Tx) (n : Nat) (w : World) (hn : l.length = n) (hn1 : n ≤ 1000) (h1 : ∀ t ∈ l, t.length ≤ 1000000) (ht : Tabs w) :
    Calls Tryd.prog 21 #[.slice (some ⟨w.heap.size, 0, none⟩) n n] (w.alloc (.cells (l.map fun t => Value.string (str t)).toArray 9)) fun e w' => e = .returned (.string (str (listL l))) ∧ Below w.heap.size w w' := by
  have hb : Below w.heap.size w (w.alloc (.cells (l.map fun t => Value.string (str t)).toArray 9)) := (Below.refl _ _).alloc (Nat.le_refl _) _
  refine (of_any l (some ⟨w.heap.size, 0, none⟩) n n _ (strs_lit l (Reg.heap_new w _)) hn hn1 h1 (ht.below hb)).mono ?_
  rintro e w' ⟨rfl, hb2⟩
  exact ⟨rfl, hb.trans (hb2.mono hb.size)⟩

theorem dec_b (n : Nat) : (dec n).length ≤ 1000000 := by have := dec_le n; omega
theorem start_any (s : Tx) (i k : Nat) (w : World) (hs : s.length ≤ 1000000) (hi : i ≤ 1000000) (hk : k ≤ 1000000) (ht : Tabs w) :
    Calls Tryd.prog 25 #[.string (str s), .int .i64 i, .int .i64 k] w fun e w' => e = .returned (.string (str (startT s i k))) ∧ Below w.heap.size w w' := by
  have HI := Lib.hid (fun W (ht : Tabs W) => itoa_any i W hi ht)
  have HK := Lib.hid (fun W (ht : Tabs W) => itoa_any k W hk ht)
  have HO : Hid (∀ W, Tabs W → Calls Tryd.prog 21 #[.slice (some ⟨W.heap.size, 0, none⟩) 3 3] (W.alloc (.cells #[.string (str s), .string (str (dec i)), .string (str (dec k))] 9)) fun e w' => e = .returned (.string (str (startT s i k))) ∧ Below W.heap.size W w') :=
    fun W ht => of_lit [s, dec i, dec k] 3 W rfl (by omega) (by
      intro t h
      simp only [List.mem_cons, List.not_mem_nil, or_false] at h
      rcases h with rfl | rfl | rfl
      · exact hs
      · exact dec_b _
      · exact dec_b _) ht
  have HT := Lib.hid ht
  generalize startT s i k = R at *
  clear ht hs hi hk
  go_enter Tryd.func25, Tryd.ntmps25
  go_wp2_with fail
  (with_reducible refine (HI.out _ HT.out).mono ?_); rintro e w1 ⟨rfl, hb1⟩
  have HB := Lib.hid hb1
  clear hb1
  go_wp2_with fail
  (with_reducible refine (HK.out _ (HT.out.below HB.out)).mono ?_); rintro e w2 ⟨rfl, hb2⟩
  replace HB := Lib.hid (HB.out.trans (hb2.mono HB.out.size))
  clear hb2
  go_wp2_with fail
  (with_reducible refine (HO.out _ (HT.out.below HB.out)).mono ?_); rintro e w3 ⟨rfl, hb3⟩
  replace HB := Lib.hid (HB.out.trans (hb3.mono HB.out.size))
  clear hb3
  go_wp2_with fail
  go_ret
  exact ⟨rfl, HB.out⟩

theorem chainT (t : Tx) (k : Nat) (w : World) (hs : t.length ≤ 140737488351232) (hk : k ≤ 1000) (ht : Tabs w) :
    Calls Tryd.prog 18 #[.string (str t), .int .i64 (k : Int)] w fun e w' => e = .returned (.string (str (chn t k))) ∧ Below w.heap.size w w' := by
  have h := chainK (str t) k w (by rw [str_size]; exact hs) hk ht
  rw [str_data] at h
  exact h
theorem chain15 (t : Tx) (w : World) (hs : t.length ≤ 140737488351232) (ht : Tabs w) :
    Calls Tryd.prog 18 #[.string (str t), .int .i64 15] w fun e w' => e = .returned (.string (str (chn t 15))) ∧ Below w.heap.size w w' := chainT t 15 w hs (by omega) ht
theorem start_len (s : Tx) (i k : Nat) : (startT s i k).length = 16 := sumL_len _
def upT' {α : Type} (f : Nat → α) (k : Nat) : List α := (List.range k).map f
theorem upT'_succ {α : Type} (f : Nat → α) (k : Nat) : upT' f (k + 1) = upT' f k ++ [f k] := by simp [upT', List.range_succ]
theorem upT'_len {α : Type} (f : Nat → α) (k : Nat) : (upT' f k).length = k := by simp [upT']

attribute [local go_sem ↓ high] Ap.builtin_appA in
set_option maxHeartbeats 4000000 in
theorem key_any (s : Tx) (i : Nat) (w : World) (hs : s.length ≤ 1000000) (hi : i ≤ 1000000) (ht : Tabs w) :
    Calls Tryd.prog 47 #[.string (str s), .int .i64 i] w fun e w' => e = .returned (.string (str (keyT s i))) ∧ Below w.heap.size w w' := by
  have HT := Lib.hid ht
  have HS := Lib.hid (fun (k : Nat) W (hk : k ≤ 1000000) (ht : Tabs W) => start_any s i k W hs hi hk ht)
  have HF : Hid (keyT s i = listL (upT' (fun k => chn (startT s i k) 15) 18) ∧ ∀ t ∈ upT' (fun k => chn (startT s i k) 15) 18, t.length ≤ 1000000) := ⟨rfl, fun t h => by
    have := isD_len (ends_dig s i t h); omega⟩
  have HC := Lib.hid (fun (k : Nat) W (ht : Tabs W) => chain15 (startT s i k) W (by rw [start_len]; omega) ht)
  generalize keyT s i = R at *
  have HE : Hid (∃ f : Nat → Tx, f = fun k => chn (startT s i k) 15) := ⟨_, rfl⟩
  obtain ⟨f, hf⟩ := HE.out
  rw [← hf] at HF
  have HFf := Lib.hid hf
  clear ht hs hi hf HE
  go_enter Tryd.func47, Tryd.ntmps47
  go_wp2_with fail
  go_loopw [5, 7] (fun v x wr => ∃ (k : Nat) (L : List Tx) (A : Option Addr) (c : Nat), k ≤ 18 ∧ L = upT' f k ∧ x = .int .i64 k ∧ v = .slice A L.length c ∧ Own w.heap.size wr (.slice A L.length c) L ∧ Below w.heap.size w wr) (fun _ x _ => 18 - (intOf x).toNat)
  case atStart => exact ⟨0, [], none, 0, by omega, rfl, rfl, rfl, Own.nil _ _, Below.refl _ _⟩
  case round =>
    obtain ⟨k, L, A, c, hk, hL, rfl, rfl, ho, hbw⟩ := hrel
    have HO := Lib.hid ho
    have HB := Lib.hid hbw
    have HL := Lib.hid hL
    clear ho hbw hL
    by_cases hlt : k < 18
    · have hlti : (k : Int) < 18 := by omega
      go_wp2_with fail
      (with_reducible refine (HS.out k _ (by omega) (HT.out.below HB.out)).mono ?_); rintro e w1 ⟨rfl, hb1⟩
      have HB1 := Lib.hid (HB.out.trans (hb1.mono HB.out.size))
      have HO1 := Lib.hid (HO.out.below hb1)
      clear hb1
      go_wp2_with fail
      (with_reducible refine (HC.out k _ (HT.out.below HB1.out)).mono ?_); rintro e w2 ⟨rfl, hb2⟩
      have HB2 := Lib.hid (HB1.out.trans (hb2.mono HB1.out.size))
      have ho2 := HO1.out.below hb2
      have hlen : L.length = k := by rw [HL.out, upT'_len]
      obtain ⟨A3, c3, w3, hrun, ho3, hL3⟩ := app1 (chn (startT s i k) 15) ho2 (by omega) HB2.out HB2.out.size
      have HO3 := Lib.hid ho3
      have HL3 := Lib.hid hL3
      have e1 : (L ++ [chn (startT s i k) 15]).length = L.length + 1 := by simp
      have HL2 : Hid (L ++ [chn (startT s i k) 15] = upT' f (k + 1)) := by unfold Hid; rw [upT'_succ, HL.out, HFf.out]
      rw [e1] at hrun HO3
      have HE1 := Lib.hid e1
      clear hb2 ho2 ho3 hL3 hlen e1
      generalize chn (startT s i k) 15 = t at *
      go_wp2_with fail
      exact ⟨⟨k + 1, L ++ [t], A3, c3, by omega, HL2.out, by go_num, by rw [HE1.out], by rw [HE1.out]; exact HO3.out, HL3.out⟩, by simp [intOf]; omega⟩
    · obtain rfl : k = 18 := by omega
      obtain ⟨A', c', hv, hst, _⟩ := HO.out.parts
      injection hv with h1 h2 h3
      subst h1 h3
      have hq := of_any L A c L.length wr hst rfl (by rw [HL.out, upT'_len]; omega) (by rw [HL.out]; exact HF.out.2) (HT.out.below HB.out)
      have HR : Hid (R = listL L) := by unfold Hid; rw [HL.out]; exact HF.out.1
      rw [← HR.out] at hq
      have HQ := Lib.hid hq
      clear hst hq h2
      go_wp2_with fail
      (with_reducible refine HQ.out.mono ?_); rintro e w1 ⟨rfl, hb1⟩
      have HB1 := Lib.hid (HB.out.trans (hb1.mono HB.out.size))
      clear hb1
      go_wp2_with fail
      go_ret
      exact ⟨rfl, HB1.out⟩

end S
end Go.Proofs.YthdjdlndfkemiaaDoor

/- Seals: 'keys', 'Public'. -/
namespace Go.Proofs.YthdjdlndfkemiaaDoor
open Go.RowKit
namespace S

theorem wrap_pow (h : Nat) (hh : h ≤ 8) : wrap64 ((2 : Int) ^ h) = ((2 ^ h : Nat) : Int) := by
  rcases (by omega : h = 0 ∨ h = 1 ∨ h = 2 ∨ h = 3 ∨ h = 4 ∨ h = 5 ∨ h = 6 ∨ h = 7 ∨ h = 8) with rfl | rfl | rfl | rfl | rfl | rfl | rfl | rfl | rfl <;> decide +kernel
theorem pow_le {h : Nat} (hh : h ≤ 8) : 2 ^ h ≤ 256 := Nat.pow_le_pow_right (n := 2) (by omega) hh
theorem make_strs (n : Nat) (hn : n ≤ 4000) (w : World) : (Instr.makeSlice 22 (.int .i64 (n : Int)) (.int .i64 (n : Int))).run Tryd.prog w =
    .ok (.slice (some ⟨w.heap.size, 0, none⟩) n n) (w.alloc (.cells (sv (List.replicate n [])).toArray 9)) := by
  obtain ⟨i0, hi, hz0, hz1, hz2⟩ := info_parts info_str
  have hr := run_make (P := Tryd.prog) w 22 9 i0 _ Tryd.underlying22 hi hz0 .i64 .i64 (n : Int) (n : Int) (by omega) (Int.le_refl _) (by rw [hz2]; omega) (by omega)
  rw [hr]
  have e : (n : Int).toNat = n := by omega
  rw [e, hz1]
  congr 3
  apply Array.ext'
  simp only [Nat.mul_one]
  show (madeCells #[Value.string ByteArray.empty] n).toList = _
  rw [toList_madeCells_one]
  simp [sv]
  right; rfl
def halfL (f : Nat → Tx) (N k : Nat) : List Tx := upT' f k ++ List.replicate (N - k) []
theorem halfL_len (f : Nat → Tx) {N k : Nat} (h : k ≤ N) : (halfL f N k).length = N := by simp [halfL, upT'_len]; omega
theorem halfL_set (f : Nat → Tx) {N k : Nat} (h : k < N) : (halfL f N k).set k (f k) = halfL f N (k + 1) := by
  unfold halfL
  rw [List.set_append_right _ _ (by rw [upT'_len]; omega), upT'_len, Nat.sub_self, upT'_succ, List.append_assoc]
  obtain ⟨m, hm⟩ : ∃ m, N - k = m + 1 := ⟨N - k - 1, by omega⟩
  rw [hm, show N - (k + 1) = m by omega, List.replicate_succ]
  rfl
theorem halfL_end (f : Nat → Tx) (N : Nat) : halfL f N N = upT' f N := by simp [halfL]
theorem sv_set (l : List Tx) (k : Nat) (t : Tx) : (sv l).toArray.setIfInBounds k (.string (str t)) = (sv (l.set k t)).toArray := by simp [sv]

set_option maxHeartbeats 4000000 in
theorem keys_any (s : Tx) (h : Nat) (w : World) (hs : s.length ≤ 1000000) (hh : h ≤ 8) (ht : Tabs w) :
    Calls Tryd.prog 24 #[.string (str s), .int .i64 h] w fun e w' => (∃ A c, e = .returned (.slice A (2 ^ h) c) ∧ Lst w' A (2 ^ h) c (leavesT s h) ∧ ∀ b off, A = some ⟨b, off, none⟩ → w.heap.size ≤ b) ∧ Below w.heap.size w w' := by
  have HT := Lib.hid ht
  have HK := Lib.hid (fun (i : Nat) W (hi : i ≤ 1000000) (ht : Tabs W) => key_any s i W hs hi ht)
  have HLf := Lib.hid (fun (i : Nat) W (ht : Tabs W) => leaf_any (keyT s i) W ht (by unfold keyT; rw [isD_len (isD_list _)]; omega))
  have hshl := wrap_pow h hh
  have hN := pow_le hh
  have HR : Hid (leavesT s h = upT' (fun i => leaf (keyT s i)) (2 ^ h)) := by unfold Hid; rfl
  generalize leavesT s h = R at *
  generalize 2 ^ h = N at *
  have hmk := make_strs N (by omega)
  obtain ⟨f, hf⟩ : ∃ f : Nat → Tx, f = fun i => leaf (keyT s i) := ⟨_, rfl⟩
  rw [← hf] at HR
  have HF : Hid (∀ i, f i = leaf (keyT s i)) := fun i => by rw [hf]
  clear ht hs hf
  go_enter Tryd.func24, Tryd.ntmps24
  go_wp2_with fail
  simp only [hshl]
  clear hshl
  go_loopw [12] (fun x wr => ∃ k : Nat, k ≤ N ∧ x = .int .i64 k ∧ Reg.Blk w.heap.size (sv (halfL f N k)).toArray 9 wr ∧ Below w.heap.size w wr) (fun x _ => N - (intOf x).toNat)
  case atStart => exact ⟨0, by omega, rfl, by have := Reg.Blk.new w (sv (List.replicate N [])).toArray 9; simpa [halfL, upT'] using this, (Below.refl _ _).alloc (Nat.le_refl _) _⟩
  case round =>
    obtain ⟨k, hk, rfl, hblk, hbw⟩ := hrel
    have HBk := Lib.hid hblk
    have HB := Lib.hid hbw
    clear hblk hbw
    by_cases hlt : k < N
    · have hlti : (k : Int) < (N : Int) := by omega
      have hk0 : (0 : Int) ≤ (k : Int) := by omega
      go_wp2_with fail
      (with_reducible refine (HK.out k _ (by omega) (HT.out.below HB.out)).mono ?_); rintro e w1 ⟨rfl, hb1⟩
      have HB1 := Lib.hid (HB.out.trans (hb1.mono HB.out.size))
      have HBk1 := Lib.hid (HBk.out.keep hb1)
      clear hb1
      go_wp2_with fail
      (with_reducible refine (HLf.out k _ (HT.out.below HB1.out)).mono ?_); rintro e w2 ⟨rfl, hb2⟩
      have HB2 := Lib.hid (HB1.out.trans (hb2.mono HB1.out.size))
      have HBk2 := Lib.hid (HBk1.out.keep hb2)
      clear hb2
      obtain ⟨cc, ff, zz⟩ := HBk2.out.facts
      have hck : (sv (halfL f N k)).toArray[k]? = some (.string (str ((halfL f N k)[k]'(by rw [halfL_len f hk]; exact hlt)))) := by
        simp [sv, List.getElem?_eq_getElem (show k < (halfL f N k).length by rw [halfL_len f hk]; exact hlt)]
      have hcell : w2.cell? ⟨w.heap.size, k, none⟩ = some (.string (str ((halfL f N k)[k]'(by rw [halfL_len f hk]; exact hlt)))) := (cc k).trans hck
      generalize (str ((halfL f N k)[k]'(by rw [halfL_len f hk]; exact hlt))) = old at *
      clear hck cc
      have hfz := ff k
      clear ff
      go_wp2_with fail
      have hset := ((Reg.Upd.refl HBk2.out).set k (.string (str (leaf (keyT s k))))).at_
      rw [sv_set, ← HF.out k, halfL_set f hlt] at hset
      exact ⟨⟨k + 1, by omega, by go_num, by rw [← HF.out k]; exact hset, HB2.out.setCell (Nat.le_refl _) _⟩, by simp [intOf]; omega⟩
    · obtain rfl : k = N := by omega
      go_wp2_with fail
      go_ret
      refine ⟨⟨_, _, rfl, ?_, fun b off e => by simp only [Option.some.injEq, Addr.mk.injEq] at e; omega⟩, HB.out⟩
      rw [HR.out, ← halfL_end]
      exact Lst.lit _ (halfL_len f (Nat.le_refl _)) (by omega) HBk.out

end S
end Go.Proofs.YthdjdlndfkemiaaDoor
