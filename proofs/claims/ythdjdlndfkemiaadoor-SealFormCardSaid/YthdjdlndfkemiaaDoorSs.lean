/- Digests: the reference's 'digits', 'Decimal', 'Digit', 'Is'. -/
import Derived.Test.YthdjdlndfkemiaaDoorSq
set_option linter.unusedSimpArgs false
set_option linter.unusedVariables false
set_option maxRecDepth 100000
namespace Go.Proofs.YthdjdlndfkemiaaDoor
open Go.RowKit
namespace S

def dgt (d : Nat) : UInt8 := UInt8.ofNat (48 + d)
def decS : ByteArray := { data := #[48, 49, 50, 51, 52, 53, 54, 55, 56, 57] }
theorem decS_ext : ∀ d, d < 10 → (decS.extract d (d + 1)).data.toList = [dgt d] := by decide +kernel
theorem decS_str (d : Nat) (h : d < 10) : decS.extract d (d + 1) = str [dgt d] := by rw [← decS_ext d h, str_of]
def decR (u : Nat) : Tx := if u = 0 then [] else dec u
theorem dec_step (u : Nat) (h : u ≤ 1000000) : dec u = decR (u / 10) ++ [dgt (u % 10)] := by
  unfold dec decR
  rw [show (20 : Nat) = 19 + 1 from rfl]
  conv => lhs; rw [decs]
  show _ ++ [dgt (u % 10)] = _
  by_cases h1 : u < 10
  · rw [if_pos h1, if_pos (by omega)]
  · rw [if_neg h1, if_neg (by omega)]
    unfold dec
    rw [show (20 : Nat) = 19 + 1 from rfl, decs_lib 19 (u / 10) (by omega), show (19 : Nat) = 18 + 1 from rfl, decs_lib 18 (u / 10) (by omega)]
def digV (c : UInt8) : Int := if 48 ≤ c ∧ c ≤ 57 then (c.toNat : Int) - 48 else if 97 ≤ c ∧ c ≤ 102 then (c.toNat : Int) - 97 + 10 else -1
theorem digV_nat : ∀ n, n < 256 → ((digV (UInt8.ofNat n) < 0) ↔ digB (UInt8.ofNat n) = false) := by decide +kernel
theorem digV_neg (c : UInt8) : (digV c < 0) ↔ digB c = false := by
  have h := digV_nat c.toNat (UInt8.toNat_lt c)
  rwa [UInt8.ofNat_toNat] at h
end S
end Go.Proofs.YthdjdlndfkemiaaDoor
