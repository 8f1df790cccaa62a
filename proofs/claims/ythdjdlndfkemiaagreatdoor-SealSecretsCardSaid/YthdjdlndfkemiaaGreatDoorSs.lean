/- Digests: the reference's 'digits', 'Decimal', 'Digit', 'Is'. -/
import Derived.Test.YthdjdlndfkemiaaGreatDoorSp
set_option linter.unusedSimpArgs false
set_option linter.unusedVariables false
set_option maxRecDepth 100000
namespace Go.Proofs.YthdjdlndfkemiaaGreatDoor
open Go.RowKit
namespace S

def dgt (d : Nat) : UInt8 := UInt8.ofNat (48 + d)
def decS : ByteArray := { data := #[48, 49, 50, 51, 52, 53, 54, 55, 56, 57] }
theorem decS_ext : ∀ d, d < 10 → (decS.extract d (d + 1)).data.toList = [dgt d] := by decide +kernel
theorem decS_str (d : Nat) (h : d < 10) : decS.extract d (d + 1) = str [dgt d] := by rw [← decS_ext d h, str_of]
def decR (u : Nat) : Tx := if u = 0 then [] else dec u
theorem dec_step (u : Nat) (h : u ≤ 1000000) : dec u = decR (u / 10) ++ [dgt (u % 10)] := by
  unfold dec decR
  rw [show (20 : Nat) = 19 + 1 from rfl]
  conv => lhs; rw [decs]
  show _ ++ [dgt (u % 10)] = _
  by_cases h1 : u < 10
  · rw [if_pos h1, if_pos (by omega)]
  · rw [if_neg h1, if_neg (by omega)]
    unfold dec
    rw [show (20 : Nat) = 19 + 1 from rfl, decs_lib 19 (u / 10) (by omega), show (19 : Nat) = 18 + 1 from rfl, decs_lib 18 (u / 10) (by omega)]
theorem digits_any (n : Nat) (w : World) (hn : n ≤ 1000000) : Calls Tryz.prog 69 #[.int .u64 n] w fun e w' => e = .returned (.string (str (dec n))) ∧ w' = w := by
  obtain ⟨d, hd⟩ : ∃ d, d = n % 10 := ⟨_, rfl⟩
  have hdm : (n : Int) % 10 = (d : Int) := by omega
  have hd10 : d < 10 := by omega
  have hd0 : (0 : Int) ≤ (d : Int) := by omega
  have hdI : (d : Int) + 1 ≤ 10 := by omega
  have hsl := decS_str d hd10
  unfold decS at hsl
  have HD : Hid (decR (n / 10) ++ [dgt d] = dec n) := by unfold Hid; rw [hd, ← dec_step n hn]
  clear hd
  go_enter Tryz.func69, Tryz.ntmps69
  go_wp2_with fail
  go_loop [0, 3] (fun x t => ∃ (u : Nat) (s : Tx), u ≤ 1000000 ∧ x = .int .u64 u ∧ t = .string (str s) ∧ decR u ++ s = dec n) (fun x _ => (intOf x).toNat)
  case atStart => exact ⟨n / 10, _, by omega, by go_num, rfl, HD.out⟩
  case round =>
    obtain ⟨u, s, hu, rfl, rfl, hs⟩ := hrel
    have hsl2 : s.length ≤ 20 := by have := dec_le n; rw [← hs, List.length_append] at this; omega
    by_cases h0 : 0 < u
    · have h0' : (0 : Int) < (u : Int) := by omega
      clear hsl hdm hd10 hd0 hdI HD
      obtain ⟨d, hd⟩ : ∃ d, d = u % 10 := ⟨_, rfl⟩
      have hdm : (u : Int) % 10 = (d : Int) := by omega
      have hd10 : d < 10 := by omega
      have hd0 : (0 : Int) ≤ (d : Int) := by omega
      have hdI : (d : Int) + 1 ≤ 10 := by omega
      have hsl := decS_str d hd10
      unfold decS at hsl
      have ho : ¬ 9223372036854775807 < (str [dgt d]).size + (str s).size := by rw [str_size, str_size]; simp; omega
      have HD : Hid (decR (u / 10) ++ ([dgt d] ++ s) = dec n) := by
        unfold Hid
        rw [← hs, hd, ← List.append_assoc, ← dec_step u hu]
        unfold decR; rw [if_neg (by omega)]
      clear hd hs
      go_wp2_with fail
      refine ⟨⟨u / 10, _, by omega, by go_num, by rw [str_app], HD.out⟩, by simp [intOf]; omega⟩
    · obtain rfl : u = 0 := by omega
      have HS : Hid (s = dec n) := by unfold Hid; rw [← hs]; rfl
      clear hs hsl hdm hd10 hd0 hdI HD
      go_wp2_with fail
      go_ret
      exact ⟨by rw [← HS.out]; rfl, rfl⟩
theorem decimal_any (n : Nat) (w : World) (hn : n ≤ 1000000) : Calls Tryz.prog 37 #[.int .i64 n] w fun e w' => e = .returned (.string (str (dec n))) ∧ w' = w := by
  have hn0 : ¬ (n : Int) < 0 := by omega
  have HQ := Lib.hid (digits_any n w hn)
  go_enter Tryz.func37, Tryz.ntmps37
  go_wp2_with fail
  (with_reducible refine HQ.out.mono ?_); rintro e w2 ⟨rfl, rfl⟩
  go_wp2_with fail
  go_ret
  exact ⟨rfl, rfl⟩

def digV (c : UInt8) : Int := if 48 ≤ c ∧ c ≤ 57 then (c.toNat : Int) - 48 else if 97 ≤ c ∧ c ≤ 102 then (c.toNat : Int) - 97 + 10 else -1
theorem digV_nat : ∀ n, n < 256 → ((digV (UInt8.ofNat n) < 0) ↔ digB (UInt8.ofNat n) = false) := by decide +kernel
theorem digV_neg (c : UInt8) : (digV c < 0) ↔ digB c = false := by
  have h := digV_nat c.toNat (UInt8.toNat_lt c)
  rwa [UInt8.ofNat_toNat] at h
theorem digit_any (c : UInt8) (w : World) : Calls Tryz.prog 73 #[.int .u8 (c.toNat : Int)] w fun e w' => e = .returned (.int .i64 (digV c)) ∧ w' = w := by
  obtain ⟨n, hn⟩ : ∃ n, n = c.toNat := ⟨_, rfl⟩
  have h8 : n < 256 := by rw [hn]; exact UInt8.toNat_lt c
  have HV : Hid (digV c = if 48 ≤ n ∧ n ≤ 57 then (n : Int) - 48 else if 97 ≤ n ∧ n ≤ 102 then (n : Int) - 97 + 10 else -1) := by unfold Hid digV; simp only [UInt8.le_iff_toNat_le, hn]; rfl
  rw [← hn]
  clear hn
  by_cases h1 : 48 ≤ n
  · have h1' : (48 : Int) ≤ (n : Int) := by omega
    by_cases h2 : n ≤ 57
    · have h2' : (n : Int) ≤ 57 := by omega
      have HR := Lib.hid (HV.out.trans (if_pos ⟨h1, h2⟩))
      go_enter Tryz.func73, Tryz.ntmps73
      go_wp2_with fail
      go_ret
      exact ⟨by rw [HR.out]; go_num, rfl⟩
    · have h2' : ¬ (n : Int) ≤ 57 := by omega
      have hr := HV.out.trans (if_neg (fun h => h2 h.2))
      by_cases h3 : 97 ≤ n
      · have h3' : (97 : Int) ≤ (n : Int) := by omega
        by_cases h4 : n ≤ 102
        · have h4' : (n : Int) ≤ 102 := by omega
          have HR := Lib.hid (hr.trans (if_pos ⟨h3, h4⟩))
          clear hr
          go_enter Tryz.func73, Tryz.ntmps73
          go_wp2_with fail
          go_ret
          exact ⟨by rw [HR.out]; go_num, rfl⟩
        · have h4' : ¬ (n : Int) ≤ 102 := by omega
          have HR := Lib.hid (hr.trans (if_neg (fun h => h4 h.2)))
          clear hr
          go_enter Tryz.func73, Tryz.ntmps73
          go_wp2_with fail
          go_ret
          exact ⟨by rw [HR.out]; rfl, rfl⟩
      · have h3' : ¬ (97 : Int) ≤ (n : Int) := by omega
        have HR := Lib.hid (hr.trans (if_neg (fun h => h3 h.1)))
        clear hr
        go_enter Tryz.func73, Tryz.ntmps73
        go_wp2_with fail
        go_ret
        exact ⟨by rw [HR.out]; rfl, rfl⟩
  · have h1' : ¬ (48 : Int) ≤ (n : Int) := by omega
    have h3' : ¬ (97 : Int) ≤ (n : Int) := by omega
    have HR := Lib.hid ((HV.out.trans (if_neg (fun h => h1 h.1))).trans (if_neg (fun h => by omega)))
    go_enter Tryz.func73, Tryz.ntmps73
    go_wp2_with fail
    go_ret
    exact ⟨by rw [HR.out]; rfl, rfl⟩

theorem ris_any (s : ByteArray) (w : World) (hs : s.size ≤ 140737488351232) :
    Calls Tryz.prog 47 #[.string s] w fun e w' => e = .returned (.bool (isD s.data.toList)) ∧ w' = w := by
  have HZ : Hid (s.data.toList.length = s.size) := by unfold Hid; rw [Lib.size_eq]
  go_enter Tryz.func47, Tryz.ntmps47
  go_wp2_with fail
  go_loop [3] (fun i => ∃ k : Nat, k ≤ 16 ∧ k ≤ s.size ∧ i = .int .i64 k ∧ (s.data.toList.take k).all digB = true) (fun i => 16 - (intOf i).toNat)
  case atStart => exact ⟨0, by omega, by omega, rfl, by simp⟩
  case round =>
    obtain ⟨k, hk16, hk, rfl, hall⟩ := hrel
    have HA := Lib.hid hall
    have hk0 : (0 : Int) ≤ (k : Int) := by omega
    clear hall
    by_cases hlt : k < s.size
    · have hki : (k : Int) < (s.size : Int) := by omega
      by_cases hlt16 : k < 16
      · have hk4 : (k : Int) < 16 := by omega
        have hlt' : k < s.data.toList.length := by rw [HZ.out]; exact hlt
        have HT : Hid (s.data.toList.take (k + 1) = s.data.toList.take k ++ [s[k]]) := (List.take_append_getElem hlt').symm
        have HM : Hid (s[k] ∈ s.data.toList) := List.getElem_mem hlt'
        have HQ := Lib.hid (digit_any s[k] w)
        by_cases hd : digV s[k] < 0
        · have hb := (digV_neg s[k]).1 hd
          have HF : Hid (isD s.data.toList = false) := by
            unfold Hid isD
            rw [Bool.and_eq_false_iff]; right
            rw [List.all_eq_false]
            exact ⟨s[k], HM.out, by simp [hb]⟩
          clear hb
          go_wp2_with fail
          (with_reducible refine HQ.out.mono ?_); rintro e w2 ⟨rfl, rfl⟩
          go_wp2_with fail
          go_ret
          exact ⟨by rw [HF.out]; rfl, rfl⟩
        · have HB : Hid (digB s[k] = true) := by
            unfold Hid
            cases h : digB s[k] with
            | true => rfl
            | false => exact absurd ((digV_neg s[k]).2 h) hd
          go_wp2_with fail
          (with_reducible refine HQ.out.mono ?_); rintro e w2 ⟨rfl, rfl⟩
          go_wp2_with fail
          refine ⟨⟨k + 1, by omega, by omega, by go_num, ?_⟩, by simp [intOf]; omega⟩
          rw [HT.out, List.all_append, HA.out]
          simp [HB.out]
      · obtain rfl : k = 16 := by omega
        have HF : Hid (isD s.data.toList = decide ((s.size : Int) = 16)) := by
          unfold Hid isD
          have e1 : decide (s.data.toList.length = 16) = false := by rw [HZ.out]; exact decide_eq_false (by omega)
          have e2 : decide ((s.size : Int) = 16) = false := decide_eq_false (by omega)
          rw [e1, e2]; rfl
        go_wp2_with fail
        go_ret
        exact ⟨by rw [HF.out]; rfl, rfl⟩
    · obtain rfl : k = s.size := by omega
      have hki : ¬ (s.size : Int) < (s.size : Int) := by omega
      have ha := HA.out
      rw [List.take_of_length_le (by rw [HZ.out]; exact Nat.le_refl _)] at ha
      have HF : Hid (isD s.data.toList = decide ((s.size : Int) = 16)) := by
        unfold Hid isD
        rw [ha, Bool.and_true, HZ.out]
        exact decide_eq_decide.2 (by omega)
      clear ha
      go_wp2_with fail
      go_ret
      exact ⟨by rw [HF.out]; rfl, rfl⟩

end S
end Go.Proofs.YthdjdlndfkemiaaGreatDoor
