/- Digests: the reference's 'mix', 'Sum'. -/
import Derived.Test.YthdjdlndfkemiaaGreatDoorSg
import Derived.Test.YthdjdlndfkemiaaGreatDoorSm
set_option linter.unusedSimpArgs false
set_option linter.unusedVariables false
set_option maxRecDepth 100000
namespace Go.Proofs.YthdjdlndfkemiaaGreatDoor
open Go.RowKit
namespace S

theorem mixI {x : Nat} (hx : x < 18446744073709551616) :
    bits .xor .u64 (IntKind.u64.wrap (bits .xor .u64 (IntKind.u64.wrap (bits .xor .u64 (x : Int) ((x : Int) / 2147483648) * 11400714819323198485)) (IntKind.u64.wrap (bits .xor .u64 (x : Int) ((x : Int) / 2147483648) * 11400714819323198485) / 134217728) * 15074714826142052245))
      (IntKind.u64.wrap (bits .xor .u64 (IntKind.u64.wrap (bits .xor .u64 (x : Int) ((x : Int) / 2147483648) * 11400714819323198485)) (IntKind.u64.wrap (bits .xor .u64 (x : Int) ((x : Int) / 2147483648) * 11400714819323198485) / 134217728) * 15074714826142052245) / 8589934592) = ((mixN x : Nat) : Int) := by
  have h := takeI (s := x) (b := 0) hx (by omega)
  have e : bits .xor .u64 (x : Int) ((0 : Nat) : Int) = (x : Int) := by rw [xorI hx (by omega), Nat.xor_zero]
  rw [e, Nat.xor_zero] at h
  exact h
theorem rmix_any (x : Nat) (w : World) (hx : x < 18446744073709551616) : Calls Tryz.prog 51 #[.int .u64 (x : Int)] w fun e w' => e = .returned (.int .u64 (mixN x : Nat)) ∧ w' = w := by
  have HM := Lib.hid (mixI hx)
  go_enter Tryz.func51, Tryz.ntmps51
  go_wp2_with fail
  go_ret
  exact ⟨by rw [HM.out]; rfl, rfl⟩

def hexS : ByteArray := { data := #[48, 49, 50, 51, 52, 53, 54, 55, 56, 57, 97, 98, 99, 100, 101, 102] }
theorem hexS_ext : ∀ d, d < 16 → (hexS.extract d (d + 1)).data.toList = [hexd d] := by decide +kernel
theorem hexS_str (d : Nat) (h : d < 16) : hexS.extract d (d + 1) = str [hexd d] := by rw [← hexS_ext d h, str_of]
theorem byt_at (s : ByteArray) (i : Nat) (h : i < s.size) : byt s.data.toList i = s[i].toNat := by
  have h' : i < s.data.toList.length := by rw [← Lib.size_eq]; exact h
  unfold byt
  rw [List.getElem?_eq_getElem h']
  rfl

theorem byt_out' (s : ByteArray) (i : Nat) (h : s.size ≤ i) : byt s.data.toList i = 0 := by
  unfold byt; rw [List.getElem?_eq_none (by rw [← Lib.size_eq]; exact h)]; rfl
set_option maxHeartbeats 2000000 in
theorem rsum_any (s : ByteArray) (w : World) (hs : s.size ≤ 140737488351232) : Calls Tryz.prog 21 #[.string s] w fun e w' => e = .returned (.string (str (sumL s.data.toList))) ∧ w' = w := by
  have hx : bits .xor .u64 7640891576956012809 (s.size : Int) = ((st s.data.toList 0 : Nat) : Int) := by
    have h := xorI (a := 7640891576956012809) (b := s.size) (by omega) (by omega)
    rw [Lib.size_eq] at h
    rw [Lib.size_eq]
    exact h
  go_enter Tryz.func21, Tryz.ntmps21
  go_wp2_with fail
  clear hx
  go_loop [3, 4] (fun x i => ∃ k : Nat, k ≤ s.size / 8 + 1 ∧ i = .int .i64 ((8 * k : Nat) : Int) ∧ x = .int .u64 (st s.data.toList k : Nat)) (fun _ i => s.size + 8 - (intOf i).toNat)
  case atStart => exact ⟨0, by omega, rfl, rfl⟩
  case round =>
    obtain ⟨k, hk, rfl, rfl⟩ := hrel
    obtain ⟨f, hf⟩ : ∃ f, f = 8 * k := ⟨_, rfl⟩
    obtain ⟨z, hz⟩ : ∃ z, z = st s.data.toList k := ⟨_, rfl⟩
    rw [← hf, ← hz]
    have HF := Lib.hid hf
    have HZ := Lib.hid hz
    have hz0 : z < 18446744073709551616 := by rw [hz]; exact st_lt _ (by rw [← Lib.size_eq]; omega) _
    have hk0 : (0 : Int) ≤ (f : Int) := by omega
    by_cases hlt : f ≤ s.size
    · have hki : (f : Int) ≤ (s.size : Int) := by omega
      have hk8 : k + 1 ≤ s.size / 8 + 1 := by omega
      clear hf hz
      go_wp2_with fail
      go_loop [5, 6] (fun b i => ∃ j : Nat, j ≤ 8 ∧ i = .int .i64 ((f + j : Nat) : Int) ∧ b = .int .u64 (bl (fun t => byt s.data.toList (f + t)) j : Nat)) (fun _ i => f + 8 - (intOf i).toNat)
      case atStart => exact ⟨0, by omega, rfl, rfl⟩
      case round =>
        obtain ⟨j, hj, rfl, rfl⟩ := hrel
        have hbl := bl_lt (fun t => byt s.data.toList (f + t)) (fun t => byt_lt _ _) j
        obtain ⟨q, hq⟩ : ∃ q, q = bl (fun t => byt s.data.toList (f + t)) j := ⟨_, rfl⟩
        obtain ⟨g, hg⟩ : ∃ g, g = f + j := ⟨_, rfl⟩
        rw [← hq] at hbl
        rw [← hq, ← hg]
        have hgf : (g : Int) < (f : Int) + 8 ↔ j < 8 := by omega
        by_cases hj8 : j < 8
        · have hq3 : q * 256 + 255 < 18446744073709551616 := by
            have : 256 ^ j ≤ 256 ^ 7 := Nat.pow_le_pow_right (by omega) (by omega)
            omega
          have hg8 : (g : Int) < (f : Int) + 8 := hgf.2 hj8
          have hg0 : (0 : Int) ≤ (g : Int) := by omega
          have hgM : (g : Int) ≤ 140737488351240 := by omega
          have HQ := Lib.hid hq
          have HG := Lib.hid hg
          clear hq hg hgf hbl
          by_cases hin : g < s.size
          · have hin' : (g : Int) < (s.size : Int) := by omega
            have HBY := Lib.hid (byt_at s g hin)
            have hb8 : s[g].toNat < 256 := UInt8.toNat_lt _
            go_wp2_with fail
            refine ⟨⟨j + 1, by omega, by rw [HG.out]; go_num, ?_⟩, by simp [intOf]; omega⟩
            rw [show bl (fun t => byt s.data.toList (f + t)) (j + 1) = bl (fun t => byt s.data.toList (f + t)) j * 256 + byt s.data.toList (f + j) from rfl, ← HQ.out, ← HG.out, HBY.out]
            go_num
          · have hin' : ¬ (g : Int) < (s.size : Int) := by omega
            have HBY := Lib.hid (byt_out' s g (by omega))
            go_wp2_with fail
            refine ⟨⟨j + 1, by omega, by rw [HG.out]; go_num, ?_⟩, by simp [intOf]; omega⟩
            rw [show bl (fun t => byt s.data.toList (f + t)) (j + 1) = bl (fun t => byt s.data.toList (f + t)) j * 256 + byt s.data.toList (f + j) from rfl, ← HQ.out, ← HG.out, HBY.out]
            go_num
        · obtain rfl : j = 8 := by omega
          have hg8 : ¬ (g : Int) < (f : Int) + 8 := fun h => by have := hgf.1 h; omega
          have hq64 : q < 18446744073709551616 := hbl
          have hxq : bits .xor .u64 (z : Int) (q : Int) = ((z ^^^ q : Nat) : Int) := xorI hz0 hq64
          have HMX := Lib.hid (rmix_any (z ^^^ q) w (xor_lt hz0 hq64))
          have HQ := Lib.hid hq
          clear hq hg hgf hbl
          go_wp2_with fail
          (with_reducible refine HMX.out.mono ?_); rintro e w' ⟨rfl, rfl⟩
          go_wp2_with fail
          refine ⟨⟨k + 1, hk8, by rw [HF.out]; go_num, ?_⟩, by simp [intOf]; omega⟩
          rw [HZ.out, HQ.out, HF.out]
          rfl
    · obtain rfl : k = s.size / 8 + 1 := by omega
      have hki : ¬ (f : Int) ≤ (s.size : Int) := by omega
      have HSN : Hid (z = sumN s.data.toList) := by unfold Hid sumN; rw [hz, ← Lib.size_eq]
      clear hf hz HF HZ
      go_wp2_with fail
      go_loop [3, 7, 8] (fun x t i => ∃ j : Nat, j ≤ 16 ∧ i = .int .i64 j ∧ x = .int .u64 ((z / 16 ^ j : Nat) : Int) ∧ t = .string (str (hexs j z))) (fun _ _ i => 16 - (intOf i).toNat)
      case atStart => exact ⟨0, by omega, rfl, by simp, rfl⟩
      case round =>
        obtain ⟨j, hj, rfl, rfl, rfl⟩ := hrel
        by_cases hj16 : j < 16
        · have hj16' : (j : Int) < 16 := by omega
          have hj0 : (0 : Int) ≤ (j : Int) := by omega
          obtain ⟨u, hu⟩ : ∃ u, u = z / 16 ^ j := ⟨_, rfl⟩
          rw [← hu]
          have hu64 : u < 18446744073709551616 := by rw [hu]; exact div_lt' hz0
          have HU := Lib.hid hu
          obtain ⟨d, hd⟩ : ∃ d, d = u % 16 := ⟨_, rfl⟩
          have hdm : (u : Int) % 16 = (d : Int) := by omega
          have hd16 : d < 16 := by omega
          have hdI : (d : Int) + 1 ≤ 16 := by omega
          have hd0 : (0 : Int) ≤ (d : Int) := by omega
          have hsl := hexS_str d hd16
          unfold hexS at hsl
          have ho : ¬ 9223372036854775807 < (str [hexd d]).size + (str (hexs j z)).size := by rw [str_size, str_size, hexs_len]; simp; omega
          have HD := Lib.hid hd
          clear hu hd
          go_wp2_with fail
          refine ⟨⟨j + 1, by omega, by go_num, ?_, ?_⟩, by simp [intOf]; omega⟩
          · rw [HU.out, Nat.pow_succ, ← Nat.div_div_eq_div_mul]; rfl
          · rw [str_app, show [hexd d] ++ hexs j z = hexs (j + 1) z by rw [hexs_cons, HD.out, HU.out]; rfl]
        · obtain rfl : j = 16 := by omega
          go_wp2_with fail
          go_ret
          exact ⟨by rw [HSN.out]; rfl, rfl⟩

end S
end Go.Proofs.YthdjdlndfkemiaaGreatDoor

/- Digests: the reference's 'Few', 'Chain'; the walk of 'DigestLong'. -/
namespace Go.Proofs.YthdjdlndfkemiaaGreatDoor
open Go.RowKit
namespace S

def fewB (l : List Tx) (m : Int) : Bool := l.all (fun t => decide ((t.length : Int) ≤ m)) && decide (l.length ≤ 30)
theorem fewB_len {l : List Tx} {m : Int} (h : fewB l m = true) : l.length ≤ 30 := by unfold fewB at h; simp at h; omega
theorem fewB_all {l : List Tx} {m : Int} (h : fewB l m = true) : ∀ t ∈ l, (t.length : Int) ≤ m := by unfold fewB at h; simp at h; exact h.1
theorem rchain_any (s : ByteArray) (n : Int) (w : World) (hs : s.size ≤ 140737488351232) :
    Calls Tryz.prog 43 #[.string s, .int .i64 n] w fun e w' => e = .returned (.string (str (chn s.data.toList (chainN n)))) ∧ w' = w := by
  obtain ⟨N, hN⟩ : ∃ N : Nat, max 0 (min n 1000) = (N : Int) := Int.eq_ofNat_of_zero_le (by omega)
  have hN1 : N ≤ 1000 := by omega
  have HN := Lib.hid (show chainN n = N by unfold chainN; rw [hN]; rfl)
  have HS : Hid (s.data.toList.length ≤ 140737488351232) := by rw [← Lib.size_eq]; exact hs
  have hnk : ∀ k : Nat, k < N → (k : Int) < min n 1000 := by omega
  have hnn : ¬ (N : Int) < min n 1000 := by omega
  clear hN
  go_enter Tryz.func43, Tryz.ntmps43
  go_wp2_with fail
  go_loop [0, 5] (fun x i => ∃ k : Nat, k ≤ N ∧ i = .int .i64 k ∧ x = .string (str (chn s.data.toList k))) (fun _ i => N - (intOf i).toNat)
  case atStart => exact ⟨0, by omega, rfl, by rw [show chn s.data.toList 0 = s.data.toList from rfl, str_of]⟩
  case round =>
    obtain ⟨k, hk, rfl, rfl⟩ := hrel
    by_cases hlt : k < N
    · have hq := rsum_any (str (chn s.data.toList k)) w (by rw [str_size]; exact chn_len _ HS.out k)
      rw [str_data] at hq
      have HQ := Lib.hid hq
      have hk0 : (0 : Int) ≤ (k : Int) := by omega
      have hk4 := hnk k hlt
      clear hq hnk hnn
      go_wp2_with fail
      (with_reducible refine HQ.out.mono ?_); rintro e w2 ⟨rfl, rfl⟩
      go_wp2_with fail
      exact ⟨⟨k + 1, by omega, by go_num, rfl⟩, by simp [intOf]; omega⟩
    · obtain rfl : k = N := by omega
      clear hnk
      go_wp2_with fail
      go_ret
      exact ⟨by rw [HN.out]; rfl, rfl⟩

end S
end Go.Proofs.YthdjdlndfkemiaaGreatDoor

/- Digests: the walk of 'DigestForm'. -/
namespace Go.Proofs.YthdjdlndfkemiaaGreatDoor
open Go.RowKit
namespace S

theorem decs_le : ∀ k n, (decs k n).length ≤ k
  | 0, _ => by simp [decs]
  | k + 1, n => by
    have := decs_le k (n / 10)
    unfold decs
    split <;> simp <;> omega
theorem dec_le (n : Nat) : (dec n).length ≤ 20 := decs_le 20 n
theorem joinT_le : ∀ l : List Tx, (∀ t ∈ l, t.length ≤ 200) → (joinT l).length ≤ 221 * l.length
  | [], _ => by simp [joinT]
  | t :: l, h => by
    have h1 := joinT_le l fun t ht => h t (List.mem_cons_of_mem _ ht)
    have h2 := h t List.mem_cons_self
    have h3 : (dec t.length).length ≤ 20 := dec_le _
    simp only [joinT, List.length_append, List.length_cons, List.length_nil]; omega
theorem few_join {l : List Tx} (h : fewB l 200 = true) : (joinT l).length ≤ 140737488351232 := by
  have := joinT_le l fun t ht => by have := fewB_all h t ht; omega
  have := fewB_len h
  omega
theorem few_small {l : List Tx} (h : fewB l 200 = true) : ∀ t ∈ l, t.length ≤ 1000000 := fun t ht => by have := fewB_all h t ht; omega
theorem list_few {A : Option Addr} {c : Nat} {l : List Tx} {w : World} (hl : StrsAt w A l) (h : fewB l 200 = true) (ht : Tabs w) :
    Calls Tryz.prog 68 #[.slice A l.length c] w fun e w' => e = .returned (.string (str (listL l))) ∧ Below w.heap.size w w' :=
  list_any A c l w hl (by have := fewB_len h; omega) (few_small h) (few_join h) ht
theorem isT (t : Tx) (w : World) (hn : t.length ≤ 140737488351232) (h : isD t = true) : Calls Tryz.prog 31 #[.string (str t)] w fun e w' => e = .returned (.bool true) ∧ Below w.heap.size w w' := isC t true w hn h

end S
end Go.Proofs.YthdjdlndfkemiaaGreatDoor
