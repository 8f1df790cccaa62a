/- Digests: 'FormatUint', 'Sum'. -/
import Derived.Test.YthdjdlndfkemiaaGreatDoorSd
import Derived.Test.YthdjdlndfkemiaaGreatDoorShelf
set_option linter.unusedSimpArgs false
set_option linter.unusedVariables false
set_option maxRecDepth 100000
namespace Go.Proofs.YthdjdlndfkemiaaGreatDoor
open Go.RowKit
namespace S

theorem fmtI_any (n : Nat) (hn : n < 18446744073709551616) (w : World) (ht : Tabs w) : Calls Tryz.prog 102 #[.int .u64 n, .int .i64 16] w fun e w' =>
    ∃ j, j < 16 ∧ n < 16 ^ (j + 1) ∧ e = .returned (.string ⟨(hexs (j + 1) n).toArray⟩) ∧ Below w.heap.size w w' := by
  have HT := Lib.hid (formatBits_any n hn w ht)
  clear ht hn
  go_enter Tryz.func102, Tryz.ntmps102
  go_wp2_with fail
  (with_reducible refine HT.out.mono ?_); rintro e w' ⟨j, hj, hn, rfl, hb⟩
  have HB := Lib.hid hb
  have HJ := Lib.hid (And.intro hj hn)
  clear hb hj hn
  go_wp2_with fail
  go_ret
  exact ⟨j, HJ.out.1, HJ.out.2, rfl, HB.out⟩
theorem fmt_any (n : Nat) (hn : n < 18446744073709551616) (w : World) (ht : Tabs w) : Calls Tryz.prog 82 #[.int .u64 n, .int .i64 16] w fun e w' =>
    ∃ j, j < 16 ∧ n < 16 ^ (j + 1) ∧ e = .returned (.string ⟨(hexs (j + 1) n).toArray⟩) ∧ Below w.heap.size w w' := by
  have HT := Lib.hid (fmtI_any n hn w ht)
  clear ht hn
  go_enter Tryz.func82, Tryz.ntmps82
  go_wp2_with fail
  (with_reducible refine HT.out.mono ?_); rintro e w' ⟨j, hj, hn, rfl, hb⟩
  have HB := Lib.hid hb
  have HJ := Lib.hid (And.intro hj hn)
  clear hb hj hn
  go_wp2_with fail
  go_ret
  exact ⟨j, HJ.out.1, HJ.out.2, rfl, HB.out⟩

def str (l : Tx) : ByteArray := ⟨l.toArray⟩
theorem str_size (l : Tx) : (str l).size = l.length := by simp [str, ByteArray.size]
theorem str_data (l : Tx) : (str l).data.toList = l := by simp [str]
theorem str_inj {a b : Tx} (h : str a = str b) : a = b := by rw [← str_data a, h, str_data]
theorem str_of (s : ByteArray) : str s.data.toList = s := by simp [str]
theorem str_app (a b : Tx) : str a ++ str b = str (a ++ b) := by
  apply ByteArray.ext
  simp [str]
theorem rep_any (c : Int) (w : World) (h0 : 0 ≤ c) (h1 : c ≤ 16) : Calls Tryz.prog 83 #[.string { data := #[48] }, .int .i64 c] w fun e w' => e = .returned (.string (str (List.replicate c.toNat 48))) ∧ Below w.heap.size w w' := by
  obtain ⟨m, rfl⟩ := Int.eq_ofNat_of_zero_le h0
  have hs : ({ data := #[48] } : ByteArray).size = 1 := rfl
  refine (Tryz.strings_Repeat { data := #[48] } m w (by omega) (by rw [hs]; omega)).mono ?_
  rintro e w' ⟨rfl, hb⟩
  refine ⟨ret_str ?_, hb⟩
  have e : ∀ m, Lib.repeatL [48] m = List.replicate m 48 := fun m => by
    induction m with
    | zero => rfl
    | succ m ih => rw [Lib.repeatL, ih]; rfl
  rw [show ({ data := #[48] } : ByteArray).data.toList = [48] from rfl, e]
  rfl

theorem sum_any (s : ByteArray) (w : World) (hs : s.size ≤ 140737488351232) (ht : Tabs w) :
    Calls Tryz.prog 56 #[.string s] w fun e w' => e = .returned (.string (str (sumL s.data.toList))) ∧ Below w.heap.size w w' := by
  have hx : bits .xor .u64 7640891576956012809 (s.size : Int) = ((st s.data.toList 0 : Nat) : Int) := by
    have h := xorI (a := 7640891576956012809) (b := s.size) (by omega) (by omega)
    rw [Lib.size_eq] at h
    rw [Lib.size_eq]
    exact h
  have HT := Lib.hid ht
  clear ht
  go_enter Tryz.func56, Tryz.ntmps56
  go_wp2_with fail
  refine (blocks_any s w.heap.size _ hs (Reg.Blk.new w _ _)).mono ?_
  rintro e w1 ⟨rfl, hk, kb⟩
  have hb1 : Below w.heap.size w w1 := ((Below.refl _ _).alloc (Nat.le_refl _) _).trans (hk.below fun k hk => ⟨by simp; omega, by omega⟩)
  have HF := Lib.hid (fmt_any (sumN s.data.toList) (sumN_lt _) w1 (HT.out.below hb1))
  have HB1 := Lib.hid hb1
  obtain ⟨ckb, fkb, zkb⟩ := Reg.Blk.facts kb
  clear hk hb1 hx
  go_wp2_with fail
  (with_reducible refine HF.out.mono ?_); rintro e w2 ⟨j, hj, hn, rfl, hb2⟩
  have HB2 := Lib.hid (HB1.out.trans (hb2.mono HB1.out.size))
  obtain ⟨F, hF⟩ : ∃ F, F = str (hexs (j + 1) (sumN s.data.toList)) := ⟨_, rfl⟩
  have hF' : ({ data := (hexs (j + 1) (sumN s.data.toList)).toArray } : ByteArray) = F := hF.symm
  rw [hF']
  have hsz : F.size = j + 1 := by rw [hF, str_size, hexs_len]
  have f1 : (F.size : Int) ≤ 16 := by omega
  have f0 : (1 : Int) ≤ (F.size : Int) := by omega
  have HFF := Lib.hid (And.intro hF (And.intro hsz (And.intro hj hn)))
  have HR := Lib.hid (rep_any (16 - (F.size : Int)) w2 (by omega) (by omega))
  clear hb2 hF hF' hsz hj hn ckb fkb zkb kb HF
  go_wp2_with fail
  (with_reducible refine HR.out.mono ?_); rintro e w3 ⟨rfl, hb3⟩
  obtain ⟨R, hR⟩ : ∃ R, R = str (List.replicate (16 - (F.size : Int)).toNat 48) := ⟨_, rfl⟩
  rw [← hR]
  have hRs : ¬ 9223372036854775807 < R.size + F.size := by rw [hR, str_size]; simp; omega
  have HRR := Lib.hid hR
  have HB3 := Lib.hid (HB2.out.trans (hb3.mono HB2.out.size))
  clear hR hb3
  go_wp2_with fail
  go_ret
  refine ⟨ret_str ?_, HB3.out⟩
  obtain ⟨e1, e2, e3, e4⟩ := HFF.out
  rw [HRR.out, e2, e1, str_app]
  congr 1
  have e5 : (16 - ((j + 1 : Nat) : Int)).toNat = 15 - j := by omega
  rw [e5, ← hexs_pad _ _ _ e4]
  congr 1
  omega

end S
end Go.Proofs.YthdjdlndfkemiaaGreatDoor
