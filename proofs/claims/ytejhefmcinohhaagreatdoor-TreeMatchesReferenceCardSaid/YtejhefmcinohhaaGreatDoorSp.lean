/- Digests: the reference's 'Few', 'Chain'; the walk of 'DigestLong'. -/
import Derived.Test.YtejhefmcinohhaaGreatDoorSm
import Derived.Test.YtejhefmcinohhaaGreatDoorSo
set_option linter.unusedSimpArgs false
set_option linter.unusedVariables false
set_option maxRecDepth 100000
namespace Go.Proofs.YtejhefmcinohhaaGreatDoor
open Go.RowKit
namespace S

def fewB (l : List Tx) (m : Int) : Bool := l.all (fun t => decide ((t.length : Int) ≤ m)) && decide (l.length ≤ 30)
theorem fewB_len {l : List Tx} {m : Int} (h : fewB l m = true) : l.length ≤ 30 := by unfold fewB at h; simp at h; omega
theorem fewB_all {l : List Tx} {m : Int} (h : fewB l m = true) : ∀ t ∈ l, (t.length : Int) ≤ m := by unfold fewB at h; simp at h; exact h.1
theorem few_any (A : Option Addr) (c : Nat) (l : List Tx) (m : Int) (w : World) (hl : StrsAt w A l) (hn : l.length ≤ 9223372036854775807) :
    Calls Tryz.prog 21 #[.slice A l.length c, .int .i64 m] w fun e w' => e = .returned (.bool (fewB l m)) ∧ w' = w := by
  have HL := Lib.hid hl
  have HN := Lib.hid hn
  clear hl
  go_enter Tryz.func21, Tryz.ntmps21
  go_wp2_with fail
  go_loop [5] (fun i => ∃ k : Nat, k ≤ l.length ∧ i = .int .i64 k ∧ ∀ t ∈ l.take k, (t.length : Int) ≤ m) (fun i => l.length - (intOf i).toNat)
  case atStart => exact ⟨0, Nat.zero_le _, rfl, by simp⟩
  case round =>
    obtain ⟨k, hk, rfl, hall⟩ := hrel
    have HA := Lib.hid hall
    clear hall
    by_cases hlt : k < l.length
    · obtain ⟨bs, off, hA, hbs, c0⟩ := HL.out k hlt
      subst hA
      have hki : (k : Int) < (l.length : Int) := by omega
      have hk0 : (0 : Int) ≤ (k : Int) := by omega
      have HT : Hid (l.take (k + 1) = l.take k ++ [l[k]]) := (List.take_append_getElem hlt).symm
      have HM : Hid (l[k] ∈ l) := List.getElem_mem hlt
      obtain ⟨x, hx⟩ : ∃ x, x = l[k] := ⟨_, rfl⟩
      rw [← hx] at c0 HT HM
      clear hx
      have hsz := str_size x
      by_cases hm : m < (x.length : Int)
      · have hm' : m < ((str x).size : Int) := by rw [str_size]; exact hm
        clear hsz
        go_wp2_with fail
        go_ret
        refine ⟨?_, rfl⟩
        rw [show fewB l m = false by
          unfold fewB
          rw [Bool.and_eq_false_iff]; left
          rw [List.all_eq_false]
          exact ⟨x, HM.out, by simp; omega⟩]
        rfl
      · have hm' : ¬ m < ((str x).size : Int) := by rw [str_size]; exact hm
        clear hsz
        go_wp2_with fail
        refine ⟨⟨k + 1, by omega, by go_num, ?_⟩, by simp [intOf]; omega⟩
        intro t ht
        rw [HT.out, List.mem_append] at ht
        rcases ht with ht | ht
        · exact HA.out t ht
        · rw [List.mem_singleton.1 ht]; omega
    · obtain rfl : k = l.length := by omega
      have ha := HA.out
      rw [List.take_length] at ha
      have HF : Hid (fewB l m = decide ((l.length : Int) ≤ 30)) := by
        unfold Hid fewB
        rw [show l.all (fun t => decide ((t.length : Int) ≤ m)) = true from List.all_eq_true.2 fun t ht => by simpa using ha t ht]
        simp only [Bool.true_and]
        exact decide_eq_decide.2 (by omega)
      clear ha
      go_wp2_with fail
      go_ret
      exact ⟨by rw [HF.out]; rfl, rfl⟩

end S
end Go.Proofs.YtejhefmcinohhaaGreatDoor
