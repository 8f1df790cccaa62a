/- Disk's law: an armed disk in plain words. -/
import Derived.Test.YtopjekdhecikdaaDl
set_option linter.unusedSimpArgs false
set_option linter.unusedVariables false
set_option maxRecDepth 100000
namespace Go.Proofs.Ytopjekdhecikdaa
namespace D

def nextL (L : Int) : Int := if 0 < L then L - 1 else L
theorem armD_on {b : Dk} (ho : b.off = false) (L x y : Int) : armD b L x y = { b with arm := if 0 ≤ L then some (L, x, y) else none } := by
  unfold armD; rw [if_neg (by simp [ho])]
theorem start_armD (b : Dk) (L x y : Int) : start (armD b L x y) = start b := by
  unfold armD; split <;> rfl
theorem fail_arm {b : Dk} (z : Option (Int × Int × Int)) (ho : b.off = false) (x y : Int) : fail { b with arm := z } x y = fail b x y := by
  unfold fail
  rw [if_neg (by simp [ho]), if_neg (by simp [ho])]
/-- Counting on an armed disk. -/
theorem count_zero {b : Dk} (ho : b.off = false) (x y : Int) : count { b with arm := some (0, x, y) } = (21, fail b x y) := by
  unfold count
  simp only
  rw [if_neg (by omega), fail_arm _ ho]
theorem count_next {b : Dk} {L : Int} (hL : L ≠ 0) (x y : Int) : count { b with arm := if 0 ≤ L then some (L, x, y) else none } = (0, { b with arm := if 0 ≤ nextL L then some (nextL L, x, y) else none }) := by
  unfold count nextL
  by_cases h : 0 ≤ L
  · have h1 : 0 < L := by omega
    simp only [if_pos h, if_pos h1]
    rw [if_pos (by omega)]
  · have h1 : ¬ 0 < L := by omega
    simp only [if_neg h, if_neg h1]

section
variable {n : Nat} {b : Dk} (hg : Good n b) (ho : b.off = false)
include hg ho
theorem aw_no (L x y : Int) {s : Int} {t : Tx} (h : s < 0 ∨ (n : Int) ≤ s ∨ t.length ≠ 64) : write (armD b L x y) s t = (1, armD b L x y) := by
  have hi : isAt (armD b L x y) s = isAt b s := by rw [armD_on ho]; rfl
  unfold write
  rw [if_neg (by rw [armD_on ho]; simp [ho]), hi, isAt_of hg]
  by_cases h1 : 0 ≤ s ∧ s < n
  · rw [if_neg (by simp; exact h1), if_pos (by omega)]
  · rw [if_pos (by simp; omega)]
theorem aw_yes (L x y : Int) {s : Int} {t : Tx} (h1 : 0 ≤ s) (h2 : s < n) (h3 : t.length = 64) : write (armD b L x y) s t =
    if L = 0 then (21, fail { b with q := b.q ++ [(s.toNat, t)] } x y) else (0, armD { b with q := b.q ++ [(s.toNat, t)] } (nextL L) x y) := by
  have hi : isAt (armD b L x y) s = isAt b s := by rw [armD_on ho]; rfl
  unfold write
  rw [if_neg (by rw [armD_on ho]; simp [ho]), hi, isAt_of hg, if_neg (by simp; omega), if_neg (by omega)]
  have e : ({ armD b L x y with q := (armD b L x y).q ++ [(s.toNat, t)] } : Dk) = { ({ b with q := b.q ++ [(s.toNat, t)] } : Dk) with arm := if 0 ≤ L then some (L, x, y) else none } := by rw [armD_on ho]
  rw [e]
  have ho2 : ({ b with q := b.q ++ [(s.toNat, t)] } : Dk).off = false := ho
  generalize ({ b with q := b.q ++ [(s.toNat, t)] } : Dk) = b2 at *
  by_cases hL : L = 0
  · subst hL
    rw [if_pos (Int.le_refl 0), count_zero ho2, if_pos rfl]
  · rw [count_next hL, if_neg hL, armD_on ho2]
omit hg in
theorem as_yes (L x y : Int) : sync (armD b L x y) = if L = 0 then (21, fail b x y) else (0, armD { b with st := eff b, q := [] } (nextL L) x y) := by
  unfold sync
  rw [if_neg (by rw [armD_on ho]; simp [ho]), armD_on ho]
  by_cases hL : L = 0
  · subst hL
    rw [if_pos (Int.le_refl 0), count_zero ho, if_pos rfl, if_pos (by simp)]
  · rw [count_next hL, if_neg (by simp), if_neg hL, armD_on (show ({ b with st := eff b, q := [] } : Dk).off = false from ho)]
    rfl
end

end D
end Go.Proofs.Ytopjekdhecikdaa
