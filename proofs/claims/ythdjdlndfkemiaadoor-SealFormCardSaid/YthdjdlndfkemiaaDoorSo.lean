/- Digests: the reference's 'mix', 'Sum'. -/
import Derived.Test.YthdjdlndfkemiaaDoorSi
set_option linter.unusedSimpArgs false
set_option linter.unusedVariables false
set_option maxRecDepth 100000
namespace Go.Proofs.YthdjdlndfkemiaaDoor
open Go.RowKit
namespace S

theorem mixI {x : Nat} (hx : x < 18446744073709551616) :
    bits .xor .u64 (IntKind.u64.wrap (bits .xor .u64 (IntKind.u64.wrap (bits .xor .u64 (x : Int) ((x : Int) / 2147483648) * 11400714819323198485)) (IntKind.u64.wrap (bits .xor .u64 (x : Int) ((x : Int) / 2147483648) * 11400714819323198485) / 134217728) * 15074714826142052245))
      (IntKind.u64.wrap (bits .xor .u64 (IntKind.u64.wrap (bits .xor .u64 (x : Int) ((x : Int) / 2147483648) * 11400714819323198485)) (IntKind.u64.wrap (bits .xor .u64 (x : Int) ((x : Int) / 2147483648) * 11400714819323198485) / 134217728) * 15074714826142052245) / 8589934592) = ((mixN x : Nat) : Int) := by
  have h := takeI (s := x) (b := 0) hx (by omega)
  have e : bits .xor .u64 (x : Int) ((0 : Nat) : Int) = (x : Int) := by rw [xorI hx (by omega), Nat.xor_zero]
  rw [e, Nat.xor_zero] at h
  exact h
def hexS : ByteArray := { data := #[48, 49, 50, 51, 52, 53, 54, 55, 56, 57, 97, 98, 99, 100, 101, 102] }
theorem hexS_ext : ∀ d, d < 16 → (hexS.extract d (d + 1)).data.toList = [hexd d] := by decide +kernel
theorem hexS_str (d : Nat) (h : d < 16) : hexS.extract d (d + 1) = str [hexd d] := by rw [← hexS_ext d h, str_of]
theorem byt_at (s : ByteArray) (i : Nat) (h : i < s.size) : byt s.data.toList i = s[i].toNat := by
  have h' : i < s.data.toList.length := by rw [← Lib.size_eq]; exact h
  unfold byt
  rw [List.getElem?_eq_getElem h']
  rfl

theorem byt_out' (s : ByteArray) (i : Nat) (h : s.size ≤ i) : byt s.data.toList i = 0 := by
  unfold byt; rw [List.getElem?_eq_none (by rw [← Lib.size_eq]; exact h)]; rfl
end S
end Go.Proofs.YthdjdlndfkemiaaDoor
