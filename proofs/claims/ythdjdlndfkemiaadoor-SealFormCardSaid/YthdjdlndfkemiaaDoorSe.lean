/- Digests: 'FormatUint', 'Sum'. -/
import Derived.Test.YthdjdlndfkemiaaDoorSd
import Derived.Test.YthdjdlndfkemiaaDoorShelf
import Derived.Shelf.Strings.SlTrimAscii
set_option linter.unusedSimpArgs false
set_option linter.unusedVariables false
set_option maxRecDepth 100000
namespace Go.Proofs.YthdjdlndfkemiaaDoor
open Go.RowKit
namespace S

theorem fmtI_any (n : Nat) (hn : n < 18446744073709551616) (w : World) (ht : Tabs w) : Calls Tryd.prog 67 #[.int .u64 n, .int .i64 16] w fun e w' =>
    ∃ j, j < 16 ∧ n < 16 ^ (j + 1) ∧ e = .returned (.string ⟨(hexs (j + 1) n).toArray⟩) ∧ Below w.heap.size w w' := by
  have HT := Lib.hid (formatBits_any n hn w ht)
  clear ht hn
  go_enter Tryd.func67, Tryd.ntmps67
  go_wp2_with fail
  (with_reducible refine HT.out.mono ?_); rintro e w' ⟨j, hj, hn, rfl, hb⟩
  have HB := Lib.hid hb
  have HJ := Lib.hid (And.intro hj hn)
  clear hb hj hn
  go_wp2_with fail
  go_ret
  exact ⟨j, HJ.out.1, HJ.out.2, rfl, HB.out⟩
theorem fmt_any (n : Nat) (hn : n < 18446744073709551616) (w : World) (ht : Tabs w) : Calls Tryd.prog 52 #[.int .u64 n, .int .i64 16] w fun e w' =>
    ∃ j, j < 16 ∧ n < 16 ^ (j + 1) ∧ e = .returned (.string ⟨(hexs (j + 1) n).toArray⟩) ∧ Below w.heap.size w w' := by
  have HT := Lib.hid (fmtI_any n hn w ht)
  clear ht hn
  go_enter Tryd.func52, Tryd.ntmps52
  go_wp2_with fail
  (with_reducible refine HT.out.mono ?_); rintro e w' ⟨j, hj, hn, rfl, hb⟩
  have HB := Lib.hid hb
  have HJ := Lib.hid (And.intro hj hn)
  clear hb hj hn
  go_wp2_with fail
  go_ret
  exact ⟨j, HJ.out.1, HJ.out.2, rfl, HB.out⟩

def str (l : Tx) : ByteArray := ⟨l.toArray⟩
theorem str_size (l : Tx) : (str l).size = l.length := by simp [str, ByteArray.size]
theorem str_data (l : Tx) : (str l).data.toList = l := by simp [str]
theorem str_inj {a b : Tx} (h : str a = str b) : a = b := by rw [← str_data a, h, str_data]
theorem str_of (s : ByteArray) : str s.data.toList = s := by simp [str]
theorem str_app (a b : Tx) : str a ++ str b = str (a ++ b) := by
  apply ByteArray.ext
  simp [str]
theorem rep_any (c : Int) (w : World) (h0 : 0 ≤ c) (h1 : c ≤ 16) : Calls Tryd.prog 53 #[.string { data := #[48] }, .int .i64 c] w fun e w' => e = .returned (.string (str (List.replicate c.toNat 48))) ∧ Below w.heap.size w w' := by
  obtain ⟨m, rfl⟩ := Int.eq_ofNat_of_zero_le h0
  have hs : ({ data := #[48] } : ByteArray).size = 1 := rfl
  refine (Tryd.strings_Repeat { data := #[48] } m w (by omega) (by rw [hs]; omega)).mono ?_
  rintro e w' ⟨rfl, hb⟩
  refine ⟨ret_str ?_, hb⟩
  have e : ∀ m, Lib.repeatL [48] m = List.replicate m 48 := fun m => by
    induction m with
    | zero => rfl
    | succ m ih => rw [Lib.repeatL, ih]; rfl
  rw [show ({ data := #[48] } : ByteArray).data.toList = [48] from rfl, e]
  rfl

theorem sum_any (s : ByteArray) (w : World) (hs : s.size ≤ 140737488351232) (ht : Tabs w) :
    Calls Tryd.prog 29 #[.string s] w fun e w' => e = .returned (.string (str (sumL s.data.toList))) ∧ Below w.heap.size w w' := by
  have hx : bits .xor .u64 7640891576956012809 (s.size : Int) = ((st s.data.toList 0 : Nat) : Int) := by
    have h := xorI (a := 7640891576956012809) (b := s.size) (by omega) (by omega)
    rw [Lib.size_eq] at h
    rw [Lib.size_eq]
    exact h
  have HT := Lib.hid ht
  clear ht
  go_enter Tryd.func29, Tryd.ntmps29
  go_wp2_with fail
  refine (blocks_any s w.heap.size _ hs (Reg.Blk.new w _ _)).mono ?_
  rintro e w1 ⟨rfl, hk, kb⟩
  have hb1 : Below w.heap.size w w1 := ((Below.refl _ _).alloc (Nat.le_refl _) _).trans (hk.below fun k hk => ⟨by simp; omega, by omega⟩)
  have HF := Lib.hid (fmt_any (sumN s.data.toList) (sumN_lt _) w1 (HT.out.below hb1))
  have HB1 := Lib.hid hb1
  obtain ⟨ckb, fkb, zkb⟩ := Reg.Blk.facts kb
  clear hk hb1 hx
  go_wp2_with fail
  (with_reducible refine HF.out.mono ?_); rintro e w2 ⟨j, hj, hn, rfl, hb2⟩
  have HB2 := Lib.hid (HB1.out.trans (hb2.mono HB1.out.size))
  obtain ⟨F, hF⟩ : ∃ F, F = str (hexs (j + 1) (sumN s.data.toList)) := ⟨_, rfl⟩
  have hF' : ({ data := (hexs (j + 1) (sumN s.data.toList)).toArray } : ByteArray) = F := hF.symm
  rw [hF']
  have hsz : F.size = j + 1 := by rw [hF, str_size, hexs_len]
  have f1 : (F.size : Int) ≤ 16 := by omega
  have f0 : (1 : Int) ≤ (F.size : Int) := by omega
  have HFF := Lib.hid (And.intro hF (And.intro hsz (And.intro hj hn)))
  have HR := Lib.hid (rep_any (16 - (F.size : Int)) w2 (by omega) (by omega))
  clear hb2 hF hF' hsz hj hn ckb fkb zkb kb HF
  go_wp2_with fail
  (with_reducible refine HR.out.mono ?_); rintro e w3 ⟨rfl, hb3⟩
  obtain ⟨R, hR⟩ : ∃ R, R = str (List.replicate (16 - (F.size : Int)).toNat 48) := ⟨_, rfl⟩
  rw [← hR]
  have hRs : ¬ 9223372036854775807 < R.size + F.size := by rw [hR, str_size]; simp; omega
  have HRR := Lib.hid hR
  have HB3 := Lib.hid (HB2.out.trans (hb3.mono HB2.out.size))
  clear hR hb3
  go_wp2_with fail
  go_ret
  refine ⟨ret_str ?_, HB3.out⟩
  obtain ⟨e1, e2, e3, e4⟩ := HFF.out
  rw [HRR.out, e2, e1, str_app]
  congr 1
  have e5 : (16 - ((j + 1 : Nat) : Int)).toNat = 15 - j := by omega
  rw [e5, ← hexs_pad _ _ _ e4]
  congr 1
  omega

end S
end Go.Proofs.YthdjdlndfkemiaaDoor

/- Digests: 'Chain', 'Is'. -/
namespace Go.Proofs.YthdjdlndfkemiaaDoor
open Go.RowKit
namespace S

def chainN (n : Int) : Nat := (max 0 (min n 1000)).toNat
theorem chn_len (l : Tx) (hl : l.length ≤ 140737488351232) : ∀ k, (chn l k).length ≤ 140737488351232
  | 0 => hl
  | k + 1 => by simp [chn, sumL_len]
theorem chain_any (s : ByteArray) (n : Int) (w : World) (hs : s.size ≤ 140737488351232) (ht : Tabs w) :
    Calls Tryd.prog 18 #[.string s, .int .i64 n] w fun e w' => e = .returned (.string (str (chn s.data.toList (chainN n)))) ∧ Below w.heap.size w w' := by
  have HT := Lib.hid ht
  obtain ⟨N, hN⟩ : ∃ N : Nat, max 0 (min n 1000) = (N : Int) := Int.eq_ofNat_of_zero_le (by omega)
  have hN1 : N ≤ 1000 := by omega
  have HN := Lib.hid (show chainN n = N by unfold chainN; rw [hN]; rfl)
  have HS : Hid (s.data.toList.length ≤ 140737488351232) := by rw [← Lib.size_eq]; exact hs
  clear ht
  go_enter Tryd.func18, Tryd.ntmps18
  go_wp2_with fail
  clear hN
  go_loopw [0, 8] (fun x i wr => ∃ k : Nat, k ≤ N ∧ i = .int .i64 k ∧ x = .string (str (chn s.data.toList k)) ∧ Below w.heap.size w wr) (fun _ i _ => N - (intOf i).toNat)
  case atStart => exact ⟨0, by omega, rfl, by rw [show chn s.data.toList 0 = s.data.toList from rfl, str_of], Below.refl _ _⟩
  case round =>
    obtain ⟨k, hk, rfl, rfl, hlow⟩ := hrel
    have HL := Lib.hid hlow
    by_cases hlt : k < N
    · have hq := sum_any (str (chn s.data.toList k)) wr (by rw [str_size]; exact chn_len _ HS.out k) (HT.out.below hlow)
      rw [str_data] at hq
      have HQ := Lib.hid hq
      have hk0 : (0 : Int) ≤ (k : Int) := by omega
      have hk4 : (k : Int) < (N : Int) := by omega
      clear hq hlow
      go_wp2_with fail
      (with_reducible refine HQ.out.mono ?_); rintro e w2 ⟨rfl, hb⟩
      have HB := Lib.hid (HL.out.trans (hb.mono HL.out.size))
      clear hb
      go_wp2_with fail
      exact ⟨⟨k + 1, by omega, by go_num, rfl, HB.out⟩, by simp [intOf]; omega⟩
    · obtain rfl : k = N := by omega
      clear hlow
      go_wp2_with fail
      go_ret
      exact ⟨by rw [HN.out]; rfl, HL.out⟩

def hexC : Tx := [48, 49, 50, 51, 52, 53, 54, 55, 56, 57, 97, 98, 99, 100, 101, 102]
theorem hexC_dig : ∀ n, n < 256 → hexC.contains (UInt8.ofNat n) = digB (UInt8.ofNat n) := by decide +kernel
theorem hexC_eq (b : UInt8) : hexC.contains b = digB b := by
  have h := hexC_dig b.toNat (UInt8.toNat_lt b)
  rwa [UInt8.ofNat_toNat] at h
theorem dropWhile_nil {p : UInt8 → Bool} : ∀ l : Tx, l.dropWhile p = [] ↔ l.all p = true
  | [] => by simp
  | a :: l => by
    rw [List.dropWhile_cons]
    cases h : p a <;> simp [h, dropWhile_nil l]
theorem dropWhile_all {p : UInt8 → Bool} : ∀ l : Tx, (l.dropWhile p).all p = true → l.dropWhile p = []
  | [], _ => rfl
  | a :: l, h => by
    rw [List.dropWhile_cons] at h ⊢
    cases hp : p a
    · simp [hp] at h
    · simp only [hp, if_true] at h ⊢
      exact dropWhile_all l h
theorem trim_nil (l : Tx) : Lib.trimS l hexC = [] ↔ l.all digB = true := by
  unfold Lib.trimS Lib.trimRightS Lib.trimLeftS
  have hp : (fun b => List.contains hexC b) = digB := funext hexC_eq
  rw [hp]
  constructor
  · intro h
    rw [dropWhile_nil, List.all_reverse] at h
    have h2 := (dropWhile_nil _).1 (dropWhile_all _ h)
    rwa [List.all_reverse] at h2
  · intro h
    have h2 : l.reverse.dropWhile digB = [] := (dropWhile_nil _).2 (by rw [List.all_reverse]; exact h)
    rw [h2]; rfl
theorem trim_any (s : ByteArray) (w : World) (hs : s.size ≤ 140737488351232) :
    Calls Tryd.prog 22 #[.string s, .string { data := #[48, 49, 50, 51, 52, 53, 54, 55, 56, 57, 97, 98, 99, 100, 101, 102] }] w fun e w' => e = .returned (.string (str (Lib.trimS s.data.toList hexC))) ∧ Below w.heap.size w w' :=
  Any.strings_Trim_laid Tryd.lays160 (by kernel_rfl) s _ w (by omega) (by decide) (ascii_of_all (by decide))

theorem toList_data (a : ByteArray) : a.toList = a.data.toList := ByteArray.toList_eq a
theorem run_eql_str (a b : ByteArray) (w : World) : (binOp .eql 9 (.string a) (.string b)).run Tryd.prog w = .ok (.bool (decide (a = b))) w := by
  by_cases h : a = b
  · subst h; go_simp
  · have h2 : ¬ a.toList = b.toList := fun e => h (by
      rw [toList_data, toList_data] at e
      cases a; cases b; simp_all)
    go_simp
theorem is_any (s : ByteArray) (w : World) (hs : s.size ≤ 9223372036854775807) :
    Calls Tryd.prog 9 #[.string s] w fun e w' => e = .returned (.bool (isD s.data.toList)) ∧ Below w.heap.size w w' := by
  have HR : Hid (isD s.data.toList = (decide (s.size = 16) && s.data.toList.all digB)) := by rw [Lib.size_eq]; exact rfl
  have HE := Lib.hid run_eql_str
  by_cases h16 : s.size = 16
  · have hti := (trim_nil s.data.toList)
    have HQ := Lib.hid (trim_any s w (by omega))
    have h1 : ((s.size : Int) == 16) = true := by simp [h16]
    have h1' : decide ((s.size : Int) = 16) = true := by simp [h16]
    have h1n : (s.size : Int) = 16 := by omega
    have HD : Hid ((str (Lib.trimS s.data.toList hexC)).toList.isEmpty = isD s.data.toList) := by
      rw [show isD s.data.toList = _ from HR.out, toList_data, str_data]
      have e16 : decide (s.size = 16) = true := by simp [h16]
      rw [e16, Bool.true_and]
      show _ = _
      rw [Bool.eq_iff_iff, List.isEmpty_iff]
      exact hti
    obtain ⟨T, hT⟩ : ∃ T, T = str (Lib.trimS s.data.toList hexC) := ⟨_, rfl⟩
    rw [← hT] at HQ HD
    clear hti hT h16
    go_enter Tryd.func9, Tryd.ntmps9
    go_wp2_with fail
    (with_reducible refine HQ.out.mono ?_); rintro e w2 ⟨rfl, hb⟩
    go_wp2_with fail
    go_ret
    exact ⟨ret_bool HD.out, hb⟩
  · have h1 : ((s.size : Int) == 16) = false := by simp; omega
    have h1n : ¬ (s.size : Int) = 16 := by omega
    have HD : Hid (isD s.data.toList = false) := by rw [show isD s.data.toList = _ from HR.out]; simp [h16, Hid]
    clear h16
    go_enter Tryd.func9, Tryd.ntmps9
    go_wp2_with fail
    go_ret
    exact ⟨ret_bool HD.out.symm, Below.refl _ _⟩

end S
end Go.Proofs.YthdjdlndfkemiaaDoor
