/- Lines: the walk of 'LineNearestAsReference'. -/
import Derived.Test.YtjeapimjgojpoaaJu
import Derived.Test.YtjeapimjgojpoaaIm
import Derived.Test.YtjeapimjgojpoaaIj
set_option linter.unusedSimpArgs false
set_option linter.unusedVariables false
set_option maxRecDepth 100000
namespace Go.Proofs.Ytjeapimjgojpoaa
open Go.RowKit
namespace G

set_option maxHeartbeats 8000000 in
theorem nearref_walk (A : Option Addr) (c : Nat) (L : List Ln) (px py : Int) (w : World) (hl : LinesAt w A L) (hn : (L.length ≤ c ∧ c ≤ maxLen) ∧ (A = none → c = 0))
    (_hx : -9223372036854775808 ≤ px ∧ px ≤ 9223372036854775807) (_hy : -9223372036854775808 ≤ py ∧ py ≤ 9223372036854775807) :
    Calls Try.prog 3 #[.slice A L.length c, .agg #[.int .i64 px, .int .i64 py]] w fun e w' => e = .returned (.bool true) ∧ Below w.heap.size w w' := by
  unfold maxLen at hn
  have HL := Lib.hid hl
  have HF := Lib.hid (fun W (h : LinesAt W A L) => few_lines A c L W h (by omega))
  have HN := Lib.hid (fun W (h : LinesAt W A L) => nearest_any A c L px py W h)
  have HR := Lib.hid (fun W (h : LinesAt W A L) => rnearest_any A c L px py W h)
  generalize (nearR L px py).1 = x at *
  generalize (nearR L px py).2 = y at *
  generalize L.length = n at *
  clear hl hn
  go_enter Try.func3, Try.ntmps3
  go_wp2_with fail
  (with_reducible refine (head_any _).mono ?_); rintro e w1 ⟨rfl, hb1⟩
  have HB := Lib.hid (((Below.refl w.heap.size w).alloc (Nat.le_refl _) _).trans (hb1.mono (by simp)))
  have K3 := Lib.hid (Reg.Blk.new1 hb1)
  clear hb1
  go_wp2_with fail
  (with_reducible refine (HF.out _ (HL.out.below HB.out)).mono ?_); rintro e w2 ⟨rfl, rfl⟩
  cases hf : fewL L with
  | false =>
    go_wp2_with fail
    go_ret
    exact ⟨rfl, HB.out⟩
  | true =>
  clear hf HF
  obtain ⟨c3, f3, z3⟩ := K3.out.facts
  go_wp2_with fail
  (with_reducible refine (HN.out _ (HL.out.below HB.out)).mono ?_); rintro e w3 ⟨rfl, hb⟩
  replace HB := Lib.hid (HB.out.trans (hb.mono HB.out.size))
  replace K3 := Lib.hid (K3.out.keep hb)
  clear hb c3 f3 z3 HN
  obtain ⟨c3, f3, z3⟩ := K3.out.facts
  go_wp2_with fail
  (with_reducible refine (HR.out _ (HL.out.below HB.out)).mono ?_); rintro e w4 ⟨rfl, hb⟩
  replace HB := Lib.hid (HB.out.trans (hb.mono HB.out.size))
  clear hb c3 f3 z3 HR
  go_wp2_with fail
  go_ret
  exact ⟨rfl, HB.out⟩

end G
end Go.Proofs.Ytjeapimjgojpoaa
