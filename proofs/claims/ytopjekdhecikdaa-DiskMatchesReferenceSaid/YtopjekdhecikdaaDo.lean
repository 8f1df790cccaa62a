/- Disk's law: 'text', 'fill', 'size'. -/
import Derived.Test.YtopjekdhecikdaaDw
import Derived.Test.YtopjekdhecikdaaDn
set_option linter.unusedSimpArgs false
set_option linter.unusedVariables false
set_option maxRecDepth 100000
namespace Go.Proofs.Ytopjekdhecikdaa
open Go.RowKit
namespace D

def actV (a : AV) : Value := .agg #[.int .i64 a.kind, .int .i64 a.sec, .int .i64 a.byt, .string (str a.text), .bool a.odd, .int .i64 a.aft]

theorem str_append (a b : Tx) : str a ++ str b = str (a ++ b) := by
  unfold str
  apply ByteArray.ext
  simp
theorem str_nil : (str []) = ⟨#[]⟩ := rfl
theorem str_eq (a b : Tx) : (str a == str b) = (a == b) := by
  show (a.toArray == b.toArray) = _
  simp
theorem str_toList (l : Tx) : (str l).toList = l := by rw [ByteArray.toList_eq]; simp [str]
theorem str_emp (l : Tx) : (str l).toList.isEmpty = l.isEmpty := by rw [str_toList]

def slen : Value → Nat | .string b => b.size | _ => 0

theorem text_plain (a : AV) (w : World) (h : a.odd = true ∨ a.text = []) :
    Calls Try.prog 24 #[actV a] w fun e w' => e = .returned (.string (str (atext a.text a.odd))) ∧ Below w.heap.size w w' := by
  have Ht : Hid (atext a.text a.odd = a.text) := by unfold Hid atext; rw [if_pos h]
  obtain ⟨kind, sec, byt, text, odd, aft⟩ := a
  simp only at h Ht ⊢
  unfold actV
  cases odd
  · obtain rfl : text = [] := by simpa using h
    have hb1 : (str []).toList.isEmpty = true := str_emp []
    go_enter Try.func24, Try.ntmps24
    go_wp2
    go_ret
    rw [Ht.out]
    exact ⟨rfl, (Below.refl _ _).alloc (Nat.le_refl _) _⟩
  · go_enter Try.func24, Try.ntmps24
    go_wp2
    go_ret
    rw [Ht.out]
    exact ⟨rfl, (Below.refl _ _).alloc (Nat.le_refl _) _⟩

theorem text_long (a : AV) (w : World) (h : ¬ (a.odd = true ∨ a.text = [])) (hl : a.text.length ≤ 1000000) :
    Calls Try.prog 24 #[actV a] w fun e w' => e = .returned (.string (str (atext a.text a.odd))) ∧ Below w.heap.size w w' := by
  have Ht : Hid (atext a.text a.odd = (rep 64 a.text).take 64) := by unfold Hid atext; rw [if_neg h]
  obtain ⟨kind, sec, byt, text, odd, aft⟩ := a
  simp only at h Ht hl ⊢
  unfold actV
  have hne : text ≠ [] := fun e => h (.inr e)
  obtain rfl : odd = false := by cases odd; rfl; exact absurd (.inl rfl) h
  have h1 : 1 ≤ text.length := List.length_pos_iff.2 hne
  have hb1 : (str text).toList.isEmpty = false := by rw [str_emp]; cases text with
    | nil => exact absurd rfl hne
    | cons => rfl
  have hs1 : (str text).size = text.length := str_size _
  clear h hne
  go_enter Try.func24, Try.ntmps24
  go_wp2_with fail
  go_loop [3] (fun s => ∃ k : Nat, k ≤ 64 ∧ s = .string (str (rep k text)) ∧ (rep k text).length ≤ 64 + text.length) (fun s => 64 - slen s)
  case atStart => exact ⟨0, by omega, rfl, by simp [rep]⟩
  case round =>
    obtain ⟨k, hk, rfl, hkl⟩ := hrel
    have hs2 : (str (rep k text)).size = (rep k text).length := str_size _
    have hrl := rep_len k text
    have hrs := rep_succ k text
    have hsa := str_append (rep k text) text
    have Hrs := Lib.hid hrs
    have Hsa := Lib.hid hsa
    have Hrl := Lib.hid hrl
    clear hrs hsa hrl
    by_cases hlt : (rep k text).length < 64
    · have hlt2 : ((rep k text).length : Int) < 64 := by omega
      go_wp2
      go_round
      case rel => exact ⟨k + 1, by have := Hrl.out; rcases Nat.lt_or_ge k 64 with h | h; omega; (have := Nat.mul_le_mul_right text.length h; omega), by rw [Hrs.out, Hsa.out], by rw [Hrs.out, List.length_append]; omega⟩
      case measure => simp only [slen, hs2, Hsa.out]; rw [str_size, List.length_append]; omega
    · have hge : (64 : Int) ≤ ((rep k text).length : Int) := by omega
      go_wp2
      go_ret
      refine ⟨?_, (Below.refl _ _).alloc (Nat.le_refl _) _⟩
      rw [Ht.out, rep_take hk (by omega), ← str_take]
      rfl

theorem text_any (ki se by' : Int) (t : Tx) (od : Bool) (af : Int) (w : World) (hl : t.length ≤ 1000000) :
    Calls Try.prog 24 #[.agg #[.int .i64 ki, .int .i64 se, .int .i64 by', .string (str t), .bool od, .int .i64 af]] w fun e w' => e = .returned (.string (str (atext t od))) ∧ Below w.heap.size w w' := by
  by_cases h : od = true ∨ t = []
  · exact text_plain ⟨ki, se, by', t, od, af⟩ w h
  · exact text_long ⟨ki, se, by', t, od, af⟩ w h hl

theorem fill_any (t : Tx) (w : World) (hl : t.length ≤ 1000000) :
    Calls Try.prog 28 #[.string (str t)] w fun e w' => e = .returned (.string (str (atext t false))) ∧ Below w.heap.size w w' := by
  go_enter Try.func28, Try.ntmps28
  go_wp2_with fail
  (with_reducible refine (text_any _ _ _ _ _ _ _ hl).mono ?_); rintro e w1 ⟨rfl, hb⟩
  go_wp2
  go_ret
  exact ⟨rfl, hb⟩

theorem size_any (n : Int) (w : World) (h0 : 0 ≤ n) (h1 : n ≤ 255) :
    Calls Try.prog 14 #[.int .u8 n] w fun e w' => e = .returned (.int .i64 (1 + n % 12)) ∧ w = w' := by
  go_enter Try.func14, Try.ntmps14
  go_wp2
  go_ret
  exact ⟨rfl, rfl⟩

end D
end Go.Proofs.Ytopjekdhecikdaa
