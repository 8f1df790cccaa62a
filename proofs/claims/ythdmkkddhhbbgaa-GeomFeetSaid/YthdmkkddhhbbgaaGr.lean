/- Geom's law: 'grid'. -/
import Derived.Test.YthdmkkddhhbbgaaHd
set_option linter.unusedSimpArgs false
set_option linter.unusedVariables false
set_option maxRecDepth 100000
namespace Go.Proofs.Ythdmkkddhhbbgaa
open Go.RowKit
namespace G

def gm (x : Int) : Int := x % 32768
theorem gm_bd (x : Int) : 0 ≤ gm x ∧ gm x ≤ 32767 := by unfold gm; omega

theorem gm_eq (x : Int) : (wrap64 (x.tmod 32768 + 32768)).tmod 32768 = gm x := by
  have h := Int.emod_nonneg x (b := 32768) (by omega)
  have h2 := Int.emod_lt_of_pos x (b := 32768) (by omega)
  have h1 : x.tmod 32768 = x % 32768 ∨ x.tmod 32768 = x % 32768 - 32768 := by
    rw [Int.tmod_eq_emod]; split <;> omega
  rcases h1 with h1 | h1
  · rw [h1, IntWalk.wrap64_in _ (by omega), Int.tmod_eq_emod_of_nonneg (by omega)]; unfold gm; omega
  · rw [h1, IntWalk.wrap64_in _ (by omega), Int.tmod_eq_emod_of_nonneg (by omega)]; unfold gm; omega

theorem grid_any (x y : Int) (w : World) (hx : -9223372036854775808 ≤ x ∧ x ≤ 9223372036854775807) (hy : -9223372036854775808 ≤ y ∧ y ≤ 9223372036854775807) :
    Calls Try.prog 24 #[.agg #[.int .i64 x, .int .i64 y]] w fun e w' => e = .returned (.agg #[.int .i64 (gm x), .int .i64 (gm y)]) ∧ Below w.heap.size w w' := by
  have hT := Below.refl w.heap.size w
  go_enter Try.func24, Try.ntmps24
  go_wp2_with fail
  rw [gm_eq x, gm_eq y]
  (with_reducible refine (at_any _ _ _).mono ?_); rintro e w1 ⟨rfl, hb⟩
  have hw1 : Below w.heap.size w w1 := (((Below.refl _ _).alloc (Nat.le_refl _) _).alloc (by simp) _).trans (hb.mono (by simp; omega))
  obtain ⟨hc, hf, _⟩ := bcell hb
  clear hb hT
  go_wp2
  refine bodyPost_ret (v := .agg #[.int .i64 (gm x), .int .i64 (gm y)]) (by simp [results, Try.results24, go_sem, hc]) rfl ⟨rfl, ?_⟩
  repeat (first | exact Below.refl _ _ | assumption | (refine Below.setCell ?_ (by first | (simp; done) | (simp; omega) | omega) _) | (refine Below.alloc ?_ (by first | (simp; done) | (simp; omega) | omega) _) | (refine Below.drew ?_))

def B64 (x : Int) : Prop := -9223372036854775808 ≤ x ∧ x ≤ 9223372036854775807
theorem grid2_any (x y : Int) (w : World) (hx : B64 x) (hy : B64 y) :
    Calls Try.prog 24 #[.agg #[.int .i64 x, .int .i64 y]] w fun e w' => e = .returned (.agg #[.int .i64 (gm x), .int .i64 (gm y)]) ∧ Below w.heap.size w w' := grid_any x y w hx hy
end G
end Go.Proofs.Ythdmkkddhhbbgaa
