/- Digests: the walk of 'DigestBlock'. -/
import Derived.Test.YtdoakahedgeejaaDoorSi
import Derived.Test.YtdoakahedgeejaaDoorSj
set_option linter.unusedSimpArgs false
set_option linter.unusedVariables false
set_option maxRecDepth 100000
namespace Go.Proofs.YtdoakahedgeejaaDoor
open Go.RowKit
namespace S

theorem run_min3 (x y z m : Int) (h : min (min x y) z = m) (ts : Array TypeId) (t : TypeId) (w : World) : (Builtin.min_ ts t #[.int .i64 x, .int .i64 y, .int .i64 z]).run Tryd.prog w = .ok (.int .i64 m) w := by
  rw [run_min_int3]
  have : (if z < (if y < x then y else x) then z else (if y < x then y else x)) = m := by split <;> split <;> omega
  rw [this]
theorem ext_data (s : ByteArray) (a b : Nat) : s.extract a b = str ((s.data.toList.drop a).take (b - a)) := by
  rw [← Lib.extract_data, str_of]

set_option maxHeartbeats 4000000 in
theorem block_walk (s : ByteArray) (n1 : Int) (x y : ByteArray) (w : World) (hs : s.size ≤ maxLen) (b1 : 0 ≤ n1 ∧ n1 ≤ 255) (hx : x.size ≤ maxLen) (hy : y.size ≤ maxLen) (hta : Tabs w) :
    Calls Tryd.prog 7 #[.string s, .int .u8 n1, .string x, .string y] w fun e w' => e = .returned (.bool true) ∧ Below w.heap.size w w' := by
  unfold maxLen at hs hx hy
  have HT := Lib.hid hta
  have HH := Lib.hid (head_any w hta)
  clear hta
  obtain ⟨k, rfl⟩ := Int.eq_ofNat_of_zero_le b1.1
  have hk : k ≤ 255 := by omega
  obtain ⟨m, hm⟩ : ∃ m : Nat, min (min (x.size : Int) (y.size : Int)) 8 = (m : Int) := Int.eq_ofNat_of_zero_le (by omega)
  have hm1 : (m : Int) ≤ (x.size : Int) := by omega
  have hm2 : (m : Int) ≤ (y.size : Int) := by omega
  have hm0 : (0 : Int) ≤ (m : Int) := by omega
  have hmin := run_min3 _ _ _ _ hm
  have HM : Hid (m ≤ 8 ∧ m ≤ x.size ∧ m ≤ y.size) := by unfold Hid; omega
  clear b1
  go_enter Tryd.func7, Tryd.ntmps7
  go_wp2_with fail
  (with_reducible refine HH.out.mono ?_); rintro e w1 ⟨rfl, hb1⟩
  have HB := Lib.hid hb1
  clear hb1 HH
  by_cases h2 : (2000 : Int) < (s.size : Int)
  · go_wp2_with fail
    go_ret
    exact ⟨rfl, HB.out⟩
  by_cases h3 : (s.size : Int) < 8 * (k : Int)
  · go_wp2_with fail
    go_ret
    exact ⟨rfl, HB.out⟩
  go_wp2_with fail
  have hk8 : 8 * k ≤ s.size := by omega
  obtain ⟨c, hc⟩ : ∃ c : Nat, min (8 * (k : Int) + (m : Int)) (s.size : Int) = (c : Int) := Int.eq_ofNat_of_zero_le (by omega)
  have hcs : c ≤ s.size := by omega
  obtain ⟨a, ha⟩ : ∃ a, a = (x.data.toList).take m := ⟨_, rfl⟩
  obtain ⟨b, hb⟩ : ∃ b, b = (y.data.toList).take m := ⟨_, rfl⟩
  obtain ⟨p, hp⟩ : ∃ p, p = (s.data.toList).take (8 * k) := ⟨_, rfl⟩
  obtain ⟨r, hr⟩ : ∃ r, r = (s.data.toList).drop c := ⟨_, rfl⟩
  have ea : x.extract 0 m = str a := by rw [ext_data, ha]; rfl
  have eb : y.extract 0 m = str b := by rw [ext_data, hb]; rfl
  have ep : s.extract 0 (8 * (k : Int)).toNat = str p := by rw [show (8 * (k : Int)).toNat = 8 * k by omega, ext_data, hp]; rfl
  have er : s.extract (min (8 * (k : Int) + (m : Int)) (s.size : Int)).toNat s.size = str r := by
    rw [hc, Int.toNat_natCast, ← str_of (s.extract c s.size), Lib.extract_to_end, hr]
  rw [ea, eb, er]
  obtain ⟨hm8, hmx, hmy⟩ := HM.out
  have la : a.length = m := by rw [ha, List.length_take, ← Lib.size_eq]; omega
  have lb : b.length = m := by rw [hb, List.length_take, ← Lib.size_eq]; omega
  have lp : p.length = 8 * k := by rw [hp, List.length_take, ← Lib.size_eq]; omega
  have lr : r.length ≤ 2000 := by rw [hr, List.length_drop, ← Lib.size_eq]; omega
  have hlaw := block_law (p := p) (a := a) (b := b) (r := r) (k := k) lp (by omega) (by omega) (by simp only [List.length_append]; omega)
  have o1 : ¬ 9223372036854775807 < (str p).size + (str a).size := by rw [str_size, str_size]; omega
  have o2 : ¬ 9223372036854775807 < (str p).size + (str b).size := by rw [str_size, str_size]; omega
  have o3 : ¬ 9223372036854775807 < (str p).size + (str a).size + (str r).size := by rw [str_size, str_size, str_size]; omega
  have o4 : ¬ 9223372036854775807 < (str p).size + (str b).size + (str r).size := by rw [str_size, str_size, str_size]; omega
  have o5 : ¬ 9223372036854775807 < (str p ++ str a).size + (str r).size := by rw [str_app, str_size, str_size]; simp only [List.length_append]; omega
  have o6 : ¬ 9223372036854775807 < (str p ++ str b).size + (str r).size := by rw [str_app, str_size, str_size]; simp only [List.length_append]; omega
  have CX : Hid (∀ W, Tabs W → Calls Tryd.prog 12 #[.string (str p ++ str a ++ str r)] W fun e w' => e = .returned (.string (str (sumL (p ++ a ++ r)))) ∧ Below W.heap.size W w') := fun W hW => by
    rw [str_app, str_app]
    exact sumT _ W (by simp only [List.length_append]; omega) hW
  have CY : Hid (∀ W, Tabs W → Calls Tryd.prog 12 #[.string (str p ++ str b ++ str r)] W fun e w' => e = .returned (.string (str (sumL (p ++ b ++ r)))) ∧ Below W.heap.size W w') := fun W hW => by
    rw [str_app, str_app]
    exact sumT _ W (by simp only [List.length_append]; omega) hW
  have k0 : (0 : Int) ≤ 8 * (k : Int) := by omega
  have k1 : 8 * (k : Int) ≤ (s.size : Int) := by omega
  generalize sumL (p ++ a ++ r) = L1 at *
  generalize sumL (p ++ b ++ r) = L2 at *
  generalize hβ : (a == b) = β at hlaw
  clear ha hb hp hr ea eb er la lb lp lr hc hcs hm hm1 hm2 hm0 hmin h2 h3 hm8 hmx hmy hk8 hx hy hs hk
  have hstl := str_toList
  refine Reg.wp_region_seq (by kernel_rfl) (by kernel_rfl) ?_
  simp only
  iterate 25
    apply Reg.SeqOK.val
    · intro γ W hW K hK
      obtain ⟨hc, hf, _⟩ := bcell hW
      simp only [Act.put, List.setIfInBounds_toArray, List.set_cons_zero, List.set_cons_succ] at hK
      unfold Reg.Does
      go_simp
      try simp only [IntWalk.i64_left]
      first
        | exact hK _ (Below.refl _ _)
        | (go_at_call 12; (with_reducible refine (CX.out _ (HT.out.below (HB.out.trans (hW.mono HB.out.size)))).mono ?_); rintro e w' ⟨rfl, hb⟩; exact hK _ hb)
        | (go_at_call 12; (with_reducible refine (CY.out _ (HT.out.below (HB.out.trans (hW.mono HB.out.size)))).mono ?_); rintro e w' ⟨rfl, hb⟩; exact hK _ hb)
        | (trace_state; fail)
    simp only [Act.put, List.setIfInBounds_toArray, List.set_cons_zero, List.set_cons_succ, List.nil_append, List.cons_append, Nat.reduceAdd, Nat.zero_add]
  refine Reg.SeqOK.nil (by kernel_rfl) (fun γ W hW _ _ _ => ?_)
  go_wp2_with fail
  go_ret
  exact ⟨ret_bool (by simp), HB.out.trans (hW.mono HB.out.size)⟩

end S
end Go.Proofs.YtdoakahedgeejaaDoor
