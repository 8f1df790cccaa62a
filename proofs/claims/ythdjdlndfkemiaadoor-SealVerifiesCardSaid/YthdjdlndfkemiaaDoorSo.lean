/- Digests: the reference's 'mix', 'Sum'. -/
import Derived.Test.YthdjdlndfkemiaaDoorSg
import Derived.Test.YthdjdlndfkemiaaDoorSm
set_option linter.unusedSimpArgs false
set_option linter.unusedVariables false
set_option maxRecDepth 100000
namespace Go.Proofs.YthdjdlndfkemiaaDoor
open Go.RowKit
namespace S

theorem mixI {x : Nat} (hx : x < 18446744073709551616) :
    bits .xor .u64 (IntKind.u64.wrap (bits .xor .u64 (IntKind.u64.wrap (bits .xor .u64 (x : Int) ((x : Int) / 2147483648) * 11400714819323198485)) (IntKind.u64.wrap (bits .xor .u64 (x : Int) ((x : Int) / 2147483648) * 11400714819323198485) / 134217728) * 15074714826142052245))
      (IntKind.u64.wrap (bits .xor .u64 (IntKind.u64.wrap (bits .xor .u64 (x : Int) ((x : Int) / 2147483648) * 11400714819323198485)) (IntKind.u64.wrap (bits .xor .u64 (x : Int) ((x : Int) / 2147483648) * 11400714819323198485) / 134217728) * 15074714826142052245) / 8589934592) = ((mixN x : Nat) : Int) := by
  have h := takeI (s := x) (b := 0) hx (by omega)
  have e : bits .xor .u64 (x : Int) ((0 : Nat) : Int) = (x : Int) := by rw [xorI hx (by omega), Nat.xor_zero]
  rw [e, Nat.xor_zero] at h
  exact h
def hexS : ByteArray := { data := #[48, 49, 50, 51, 52, 53, 54, 55, 56, 57, 97, 98, 99, 100, 101, 102] }
theorem hexS_ext : ∀ d, d < 16 → (hexS.extract d (d + 1)).data.toList = [hexd d] := by decide +kernel
theorem hexS_str (d : Nat) (h : d < 16) : hexS.extract d (d + 1) = str [hexd d] := by rw [← hexS_ext d h, str_of]
theorem byt_at (s : ByteArray) (i : Nat) (h : i < s.size) : byt s.data.toList i = s[i].toNat := by
  have h' : i < s.data.toList.length := by rw [← Lib.size_eq]; exact h
  unfold byt
  rw [List.getElem?_eq_getElem h']
  rfl

theorem byt_out' (s : ByteArray) (i : Nat) (h : s.size ≤ i) : byt s.data.toList i = 0 := by
  unfold byt; rw [List.getElem?_eq_none (by rw [← Lib.size_eq]; exact h)]; rfl
end S
end Go.Proofs.YthdjdlndfkemiaaDoor

/- Digests: the reference's 'Few', 'Chain'; the walk of 'DigestLong'. -/
namespace Go.Proofs.YthdjdlndfkemiaaDoor
open Go.RowKit
namespace S

def fewB (l : List Tx) (m : Int) : Bool := l.all (fun t => decide ((t.length : Int) ≤ m)) && decide (l.length ≤ 30)
theorem fewB_len {l : List Tx} {m : Int} (h : fewB l m = true) : l.length ≤ 30 := by unfold fewB at h; simp at h; omega
theorem fewB_all {l : List Tx} {m : Int} (h : fewB l m = true) : ∀ t ∈ l, (t.length : Int) ≤ m := by unfold fewB at h; simp at h; exact h.1
end S
end Go.Proofs.YthdjdlndfkemiaaDoor

/- Digests: the walk of 'DigestForm'. -/
namespace Go.Proofs.YthdjdlndfkemiaaDoor
open Go.RowKit
namespace S

theorem decs_le : ∀ k n, (decs k n).length ≤ k
  | 0, _ => by simp [decs]
  | k + 1, n => by
    have := decs_le k (n / 10)
    unfold decs
    split <;> simp <;> omega
theorem dec_le (n : Nat) : (dec n).length ≤ 20 := decs_le 20 n
theorem joinT_le : ∀ l : List Tx, (∀ t ∈ l, t.length ≤ 200) → (joinT l).length ≤ 221 * l.length
  | [], _ => by simp [joinT]
  | t :: l, h => by
    have h1 := joinT_le l fun t ht => h t (List.mem_cons_of_mem _ ht)
    have h2 := h t List.mem_cons_self
    have h3 : (dec t.length).length ≤ 20 := dec_le _
    simp only [joinT, List.length_append, List.length_cons, List.length_nil]; omega
theorem few_join {l : List Tx} (h : fewB l 200 = true) : (joinT l).length ≤ 140737488351232 := by
  have := joinT_le l fun t ht => by have := fewB_all h t ht; omega
  have := fewB_len h
  omega
theorem few_small {l : List Tx} (h : fewB l 200 = true) : ∀ t ∈ l, t.length ≤ 1000000 := fun t ht => by have := fewB_all h t ht; omega
theorem list_few {A : Option Addr} {c : Nat} {l : List Tx} {w : World} (hl : StrsAt w A l) (h : fewB l 200 = true) (ht : Tabs w) :
    Calls Tryd.prog 38 #[.slice A l.length c] w fun e w' => e = .returned (.string (str (listL l))) ∧ Below w.heap.size w w' :=
  list_any A c l w hl (by have := fewB_len h; omega) (few_small h) (few_join h) ht
theorem isT (t : Tx) (w : World) (hn : t.length ≤ 140737488351232) (h : isD t = true) : Calls Tryd.prog 9 #[.string (str t)] w fun e w' => e = .returned (.bool true) ∧ Below w.heap.size w w' := isC t true w hn h

end S
end Go.Proofs.YthdjdlndfkemiaaDoor
