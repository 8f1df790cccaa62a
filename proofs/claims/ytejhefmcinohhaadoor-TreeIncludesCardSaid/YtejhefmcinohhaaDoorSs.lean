/- Digests: the reference's 'digits', 'Decimal', 'Digit', 'Is'. -/
import Derived.Test.YtejhefmcinohhaaDoorSq
set_option linter.unusedSimpArgs false
set_option linter.unusedVariables false
set_option maxRecDepth 100000
namespace Go.Proofs.YtejhefmcinohhaaDoor
open Go.RowKit
namespace S

def dgt (d : Nat) : UInt8 := UInt8.ofNat (48 + d)
def decS : ByteArray := { data := #[48, 49, 50, 51, 52, 53, 54, 55, 56, 57] }
theorem decS_ext : ∀ d, d < 10 → (decS.extract d (d + 1)).data.toList = [dgt d] := by decide +kernel
theorem decS_str (d : Nat) (h : d < 10) : decS.extract d (d + 1) = str [dgt d] := by rw [← decS_ext d h, str_of]
def decR (u : Nat) : Tx := if u = 0 then [] else dec u
theorem dec_step (u : Nat) (h : u ≤ 1000000) : dec u = decR (u / 10) ++ [dgt (u % 10)] := by
  unfold dec decR
  rw [show (20 : Nat) = 19 + 1 from rfl]
  conv => lhs; rw [decs]
  show _ ++ [dgt (u % 10)] = _
  by_cases h1 : u < 10
  · rw [if_pos h1, if_pos (by omega)]
  · rw [if_neg h1, if_neg (by omega)]
    unfold dec
    rw [show (20 : Nat) = 19 + 1 from rfl, decs_lib 19 (u / 10) (by omega), show (19 : Nat) = 18 + 1 from rfl, decs_lib 18 (u / 10) (by omega)]
theorem digits_any (n : Nat) (w : World) (hn : n ≤ 1000000) : Calls Tryd.prog 70 #[.int .u64 n] w fun e w' => e = .returned (.string (str (dec n))) ∧ w' = w := by
  obtain ⟨d, hd⟩ : ∃ d, d = n % 10 := ⟨_, rfl⟩
  have hdm : (n : Int) % 10 = (d : Int) := by omega
  have hd10 : d < 10 := by omega
  have hd0 : (0 : Int) ≤ (d : Int) := by omega
  have hdI : (d : Int) + 1 ≤ 10 := by omega
  have hsl := decS_str d hd10
  unfold decS at hsl
  have HD : Hid (decR (n / 10) ++ [dgt d] = dec n) := by unfold Hid; rw [hd, ← dec_step n hn]
  clear hd
  go_enter Tryd.func70, Tryd.ntmps70
  go_wp2_with fail
  go_loop [0, 3] (fun x t => ∃ (u : Nat) (s : Tx), u ≤ 1000000 ∧ x = .int .u64 u ∧ t = .string (str s) ∧ decR u ++ s = dec n) (fun x _ => (intOf x).toNat)
  case atStart => exact ⟨n / 10, _, by omega, by go_num, rfl, HD.out⟩
  case round =>
    obtain ⟨u, s, hu, rfl, rfl, hs⟩ := hrel
    have hsl2 : s.length ≤ 20 := by have := dec_le n; rw [← hs, List.length_append] at this; omega
    by_cases h0 : 0 < u
    · have h0' : (0 : Int) < (u : Int) := by omega
      clear hsl hdm hd10 hd0 hdI HD
      obtain ⟨d, hd⟩ : ∃ d, d = u % 10 := ⟨_, rfl⟩
      have hdm : (u : Int) % 10 = (d : Int) := by omega
      have hd10 : d < 10 := by omega
      have hd0 : (0 : Int) ≤ (d : Int) := by omega
      have hdI : (d : Int) + 1 ≤ 10 := by omega
      have hsl := decS_str d hd10
      unfold decS at hsl
      have ho : ¬ 9223372036854775807 < (str [dgt d]).size + (str s).size := by rw [str_size, str_size]; simp; omega
      have HD : Hid (decR (u / 10) ++ ([dgt d] ++ s) = dec n) := by
        unfold Hid
        rw [← hs, hd, ← List.append_assoc, ← dec_step u hu]
        unfold decR; rw [if_neg (by omega)]
      clear hd hs
      go_wp2_with fail
      refine ⟨⟨u / 10, _, by omega, by go_num, by rw [str_app], HD.out⟩, by simp [intOf]; omega⟩
    · obtain rfl : u = 0 := by omega
      have HS : Hid (s = dec n) := by unfold Hid; rw [← hs]; rfl
      clear hs hsl hdm hd10 hd0 hdI HD
      go_wp2_with fail
      go_ret
      exact ⟨by rw [← HS.out]; rfl, rfl⟩
theorem decimal_any (n : Nat) (w : World) (hn : n ≤ 1000000) : Calls Tryd.prog 53 #[.int .i64 n] w fun e w' => e = .returned (.string (str (dec n))) ∧ w' = w := by
  have hn0 : ¬ (n : Int) < 0 := by omega
  have HQ := Lib.hid (digits_any n w hn)
  go_enter Tryd.func53, Tryd.ntmps53
  go_wp2_with fail
  (with_reducible refine HQ.out.mono ?_); rintro e w2 ⟨rfl, rfl⟩
  go_wp2_with fail
  go_ret
  exact ⟨rfl, rfl⟩

def digV (c : UInt8) : Int := if 48 ≤ c ∧ c ≤ 57 then (c.toNat : Int) - 48 else if 97 ≤ c ∧ c ≤ 102 then (c.toNat : Int) - 97 + 10 else -1
theorem digV_nat : ∀ n, n < 256 → ((digV (UInt8.ofNat n) < 0) ↔ digB (UInt8.ofNat n) = false) := by decide +kernel
theorem digV_neg (c : UInt8) : (digV c < 0) ↔ digB c = false := by
  have h := digV_nat c.toNat (UInt8.toNat_lt c)
  rwa [UInt8.ofNat_toNat] at h
end S
end Go.Proofs.YtejhefmcinohhaaDoor
