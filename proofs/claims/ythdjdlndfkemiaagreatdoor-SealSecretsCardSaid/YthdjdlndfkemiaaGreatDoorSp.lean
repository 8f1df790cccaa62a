/- Digests: the reference's 'Few', 'Chain'; the walk of 'DigestLong'. -/
import Derived.Test.YthdjdlndfkemiaaGreatDoorSm
import Derived.Test.YthdjdlndfkemiaaGreatDoorSo
set_option linter.unusedSimpArgs false
set_option linter.unusedVariables false
set_option maxRecDepth 100000
namespace Go.Proofs.YthdjdlndfkemiaaGreatDoor
open Go.RowKit
namespace S

def fewB (l : List Tx) (m : Int) : Bool := l.all (fun t => decide ((t.length : Int) ≤ m)) && decide (l.length ≤ 30)
theorem fewB_len {l : List Tx} {m : Int} (h : fewB l m = true) : l.length ≤ 30 := by unfold fewB at h; simp at h; omega
theorem fewB_all {l : List Tx} {m : Int} (h : fewB l m = true) : ∀ t ∈ l, (t.length : Int) ≤ m := by unfold fewB at h; simp at h; exact h.1
theorem rchain_any (s : ByteArray) (n : Int) (w : World) (hs : s.size ≤ 140737488351232) :
    Calls Tryz.prog 43 #[.string s, .int .i64 n] w fun e w' => e = .returned (.string (str (chn s.data.toList (chainN n)))) ∧ w' = w := by
  obtain ⟨N, hN⟩ : ∃ N : Nat, max 0 (min n 1000) = (N : Int) := Int.eq_ofNat_of_zero_le (by omega)
  have hN1 : N ≤ 1000 := by omega
  have HN := Lib.hid (show chainN n = N by unfold chainN; rw [hN]; rfl)
  have HS : Hid (s.data.toList.length ≤ 140737488351232) := by rw [← Lib.size_eq]; exact hs
  have hnk : ∀ k : Nat, k < N → (k : Int) < min n 1000 := by omega
  have hnn : ¬ (N : Int) < min n 1000 := by omega
  clear hN
  go_enter Tryz.func43, Tryz.ntmps43
  go_wp2_with fail
  go_loop [0, 5] (fun x i => ∃ k : Nat, k ≤ N ∧ i = .int .i64 k ∧ x = .string (str (chn s.data.toList k))) (fun _ i => N - (intOf i).toNat)
  case atStart => exact ⟨0, by omega, rfl, by rw [show chn s.data.toList 0 = s.data.toList from rfl, str_of]⟩
  case round =>
    obtain ⟨k, hk, rfl, rfl⟩ := hrel
    by_cases hlt : k < N
    · have hq := rsum_any (str (chn s.data.toList k)) w (by rw [str_size]; exact chn_len _ HS.out k)
      rw [str_data] at hq
      have HQ := Lib.hid hq
      have hk0 : (0 : Int) ≤ (k : Int) := by omega
      have hk4 := hnk k hlt
      clear hq hnk hnn
      go_wp2_with fail
      (with_reducible refine HQ.out.mono ?_); rintro e w2 ⟨rfl, rfl⟩
      go_wp2_with fail
      exact ⟨⟨k + 1, by omega, by go_num, rfl⟩, by simp [intOf]; omega⟩
    · obtain rfl : k = N := by omega
      clear hnk
      go_wp2_with fail
      go_ret
      exact ⟨by rw [HN.out]; rfl, rfl⟩

end S
end Go.Proofs.YthdjdlndfkemiaaGreatDoor

/- Digests: the walk of 'DigestForm'. -/
namespace Go.Proofs.YthdjdlndfkemiaaGreatDoor
open Go.RowKit
namespace S

theorem decs_le : ∀ k n, (decs k n).length ≤ k
  | 0, _ => by simp [decs]
  | k + 1, n => by
    have := decs_le k (n / 10)
    unfold decs
    split <;> simp <;> omega
theorem dec_le (n : Nat) : (dec n).length ≤ 20 := decs_le 20 n
theorem joinT_le : ∀ l : List Tx, (∀ t ∈ l, t.length ≤ 200) → (joinT l).length ≤ 221 * l.length
  | [], _ => by simp [joinT]
  | t :: l, h => by
    have h1 := joinT_le l fun t ht => h t (List.mem_cons_of_mem _ ht)
    have h2 := h t List.mem_cons_self
    have h3 : (dec t.length).length ≤ 20 := dec_le _
    simp only [joinT, List.length_append, List.length_cons, List.length_nil]; omega
theorem few_join {l : List Tx} (h : fewB l 200 = true) : (joinT l).length ≤ 140737488351232 := by
  have := joinT_le l fun t ht => by have := fewB_all h t ht; omega
  have := fewB_len h
  omega
theorem few_small {l : List Tx} (h : fewB l 200 = true) : ∀ t ∈ l, t.length ≤ 1000000 := fun t ht => by have := fewB_all h t ht; omega
theorem list_few {A : Option Addr} {c : Nat} {l : List Tx} {w : World} (hl : StrsAt w A l) (h : fewB l 200 = true) (ht : Tabs w) :
    Calls Tryz.prog 68 #[.slice A l.length c] w fun e w' => e = .returned (.string (str (listL l))) ∧ Below w.heap.size w w' :=
  list_any A c l w hl (by have := fewB_len h; omega) (few_small h) (few_join h) ht
theorem isT (t : Tx) (w : World) (hn : t.length ≤ 140737488351232) (h : isD t = true) : Calls Tryz.prog 31 #[.string (str t)] w fun e w' => e = .returned (.bool true) ∧ Below w.heap.size w w' := isC t true w hn h

end S
end Go.Proofs.YthdjdlndfkemiaaGreatDoor
