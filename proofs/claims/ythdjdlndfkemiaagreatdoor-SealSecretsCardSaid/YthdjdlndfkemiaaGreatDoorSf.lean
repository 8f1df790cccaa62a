/- Digests: 'Chain', 'Is'. -/
import Derived.Test.YthdjdlndfkemiaaGreatDoorSe
import Derived.Shelf.Strings.SlTrimAscii
set_option linter.unusedSimpArgs false
set_option linter.unusedVariables false
set_option maxRecDepth 100000
namespace Go.Proofs.YthdjdlndfkemiaaGreatDoor
open Go.RowKit
namespace S

def chainN (n : Int) : Nat := (max 0 (min n 1000)).toNat
theorem chn_len (l : Tx) (hl : l.length ≤ 140737488351232) : ∀ k, (chn l k).length ≤ 140737488351232
  | 0 => hl
  | k + 1 => by simp [chn, sumL_len]
theorem chain_any (s : ByteArray) (n : Int) (w : World) (hs : s.size ≤ 140737488351232) (ht : Tabs w) :
    Calls Tryz.prog 25 #[.string s, .int .i64 n] w fun e w' => e = .returned (.string (str (chn s.data.toList (chainN n)))) ∧ Below w.heap.size w w' := by
  have HT := Lib.hid ht
  obtain ⟨N, hN⟩ : ∃ N : Nat, max 0 (min n 1000) = (N : Int) := Int.eq_ofNat_of_zero_le (by omega)
  have hN1 : N ≤ 1000 := by omega
  have HN := Lib.hid (show chainN n = N by unfold chainN; rw [hN]; rfl)
  have HS : Hid (s.data.toList.length ≤ 140737488351232) := by rw [← Lib.size_eq]; exact hs
  clear ht
  go_enter Tryz.func25, Tryz.ntmps25
  go_wp2_with fail
  clear hN
  go_loopw [0, 8] (fun x i wr => ∃ k : Nat, k ≤ N ∧ i = .int .i64 k ∧ x = .string (str (chn s.data.toList k)) ∧ Below w.heap.size w wr) (fun _ i _ => N - (intOf i).toNat)
  case atStart => exact ⟨0, by omega, rfl, by rw [show chn s.data.toList 0 = s.data.toList from rfl, str_of], Below.refl _ _⟩
  case round =>
    obtain ⟨k, hk, rfl, rfl, hlow⟩ := hrel
    have HL := Lib.hid hlow
    by_cases hlt : k < N
    · have hq := sum_any (str (chn s.data.toList k)) wr (by rw [str_size]; exact chn_len _ HS.out k) (HT.out.below hlow)
      rw [str_data] at hq
      have HQ := Lib.hid hq
      have hk0 : (0 : Int) ≤ (k : Int) := by omega
      have hk4 : (k : Int) < (N : Int) := by omega
      clear hq hlow
      go_wp2_with fail
      (with_reducible refine HQ.out.mono ?_); rintro e w2 ⟨rfl, hb⟩
      have HB := Lib.hid (HL.out.trans (hb.mono HL.out.size))
      clear hb
      go_wp2_with fail
      exact ⟨⟨k + 1, by omega, by go_num, rfl, HB.out⟩, by simp [intOf]; omega⟩
    · obtain rfl : k = N := by omega
      clear hlow
      go_wp2_with fail
      go_ret
      exact ⟨by rw [HN.out]; rfl, HL.out⟩

def hexC : Tx := [48, 49, 50, 51, 52, 53, 54, 55, 56, 57, 97, 98, 99, 100, 101, 102]
theorem hexC_dig : ∀ n, n < 256 → hexC.contains (UInt8.ofNat n) = digB (UInt8.ofNat n) := by decide +kernel
theorem hexC_eq (b : UInt8) : hexC.contains b = digB b := by
  have h := hexC_dig b.toNat (UInt8.toNat_lt b)
  rwa [UInt8.ofNat_toNat] at h
theorem dropWhile_nil {p : UInt8 → Bool} : ∀ l : Tx, l.dropWhile p = [] ↔ l.all p = true
  | [] => by simp
  | a :: l => by
    rw [List.dropWhile_cons]
    cases h : p a <;> simp [h, dropWhile_nil l]
theorem dropWhile_all {p : UInt8 → Bool} : ∀ l : Tx, (l.dropWhile p).all p = true → l.dropWhile p = []
  | [], _ => rfl
  | a :: l, h => by
    rw [List.dropWhile_cons] at h ⊢
    cases hp : p a
    · simp [hp] at h
    · simp only [hp, if_true] at h ⊢
      exact dropWhile_all l h
theorem trim_nil (l : Tx) : Lib.trimS l hexC = [] ↔ l.all digB = true := by
  unfold Lib.trimS Lib.trimRightS Lib.trimLeftS
  have hp : (fun b => List.contains hexC b) = digB := funext hexC_eq
  rw [hp]
  constructor
  · intro h
    rw [dropWhile_nil, List.all_reverse] at h
    have h2 := (dropWhile_nil _).1 (dropWhile_all _ h)
    rwa [List.all_reverse] at h2
  · intro h
    have h2 : l.reverse.dropWhile digB = [] := (dropWhile_nil _).2 (by rw [List.all_reverse]; exact h)
    rw [h2]; rfl
theorem trim_any (s : ByteArray) (w : World) (hs : s.size ≤ 140737488351232) :
    Calls Tryz.prog 62 #[.string s, .string { data := #[48, 49, 50, 51, 52, 53, 54, 55, 56, 57, 97, 98, 99, 100, 101, 102] }] w fun e w' => e = .returned (.string (str (Lib.trimS s.data.toList hexC))) ∧ Below w.heap.size w w' :=
  Any.strings_Trim_laid Tryz.lays160 (by kernel_rfl) s _ w (by omega) (by decide) (ascii_of_all (by decide))

theorem toList_data (a : ByteArray) : a.toList = a.data.toList := ByteArray.toList_eq a
theorem run_eql_str (a b : ByteArray) (w : World) : (binOp .eql 9 (.string a) (.string b)).run Tryz.prog w = .ok (.bool (decide (a = b))) w := by
  by_cases h : a = b
  · subst h; go_simp
  · have h2 : ¬ a.toList = b.toList := fun e => h (by
      rw [toList_data, toList_data] at e
      cases a; cases b; simp_all)
    go_simp
theorem is_any (s : ByteArray) (w : World) (hs : s.size ≤ 9223372036854775807) :
    Calls Tryz.prog 31 #[.string s] w fun e w' => e = .returned (.bool (isD s.data.toList)) ∧ Below w.heap.size w w' := by
  have HR : Hid (isD s.data.toList = (decide (s.size = 16) && s.data.toList.all digB)) := by rw [Lib.size_eq]; exact rfl
  have HE := Lib.hid run_eql_str
  by_cases h16 : s.size = 16
  · have hti := (trim_nil s.data.toList)
    have HQ := Lib.hid (trim_any s w (by omega))
    have h1 : ((s.size : Int) == 16) = true := by simp [h16]
    have h1' : decide ((s.size : Int) = 16) = true := by simp [h16]
    have h1n : (s.size : Int) = 16 := by omega
    have HD : Hid ((str (Lib.trimS s.data.toList hexC)).toList.isEmpty = isD s.data.toList) := by
      rw [show isD s.data.toList = _ from HR.out, toList_data, str_data]
      have e16 : decide (s.size = 16) = true := by simp [h16]
      rw [e16, Bool.true_and]
      show _ = _
      rw [Bool.eq_iff_iff, List.isEmpty_iff]
      exact hti
    obtain ⟨T, hT⟩ : ∃ T, T = str (Lib.trimS s.data.toList hexC) := ⟨_, rfl⟩
    rw [← hT] at HQ HD
    clear hti hT h16
    go_enter Tryz.func31, Tryz.ntmps31
    go_wp2_with fail
    (with_reducible refine HQ.out.mono ?_); rintro e w2 ⟨rfl, hb⟩
    go_wp2_with fail
    go_ret
    exact ⟨ret_bool HD.out, hb⟩
  · have h1 : ((s.size : Int) == 16) = false := by simp; omega
    have h1n : ¬ (s.size : Int) = 16 := by omega
    have HD : Hid (isD s.data.toList = false) := by rw [show isD s.data.toList = _ from HR.out]; simp [h16, Hid]
    clear h16
    go_enter Tryz.func31, Tryz.ntmps31
    go_wp2_with fail
    go_ret
    exact ⟨ret_bool HD.out.symm, Below.refl _ _⟩

end S
end Go.Proofs.YthdjdlndfkemiaaGreatDoor
