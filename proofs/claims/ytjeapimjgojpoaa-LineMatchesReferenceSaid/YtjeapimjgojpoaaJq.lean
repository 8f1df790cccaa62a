/- Fractions of the reference: 'Compare'. -/
import Derived.Test.YtjeapimjgojpoaaJp
set_option linter.unusedSimpArgs false
set_option linter.unusedVariables false
set_option maxRecDepth 100000
namespace Go.Proofs.Ytjeapimjgojpoaa
open Go.RowKit
namespace G

/-- How the reference compares fractions of one sign. -/
def cmpN (a b : Nat) : Int := if a < b then -1 else if b < a then 1 else 0
theorem rcmp_same {n1 d1 n2 d2 : Int} (h1 : validI n1 d1 = true) (h2 : validI n2 d2 = true) (hs : decide (n1 < 0) = decide (n2 < 0)) :
    cmpI n1 d1 n2 d2 = if n1 < 0 then cmpN (n2.natAbs * d1.natAbs) (n1.natAbs * d2.natAbs) else cmpN (n1.natAbs * d2.natAbs) (n2.natAbs * d1.natAbs) := by
  obtain ⟨p1, _, _, _⟩ := valid_parts h1
  obtain ⟨p2, _, _, _⟩ := valid_parts h2
  have e1 : ((d1.natAbs : Nat) : Int) = d1 := by omega
  have e2 : ((d2.natAbs : Nat) : Int) = d2 := by omega
  have hX : ((n1.natAbs * d2.natAbs : Nat) : Int) = (n1.natAbs : Int) * d2 := by rw [Int.natCast_mul, e2]
  have hY : ((n2.natAbs * d1.natAbs : Nat) : Int) = (n2.natAbs : Int) * d1 := by rw [Int.natCast_mul, e1]
  generalize n1.natAbs * d2.natAbs = X at *
  generalize n2.natAbs * d1.natAbs = Y at *
  unfold cmpI cmpN
  have hEq : ptEq n1 d1 n2 d2 = decide (n1 * d2 = n2 * d1) := by
    rw [Bool.eq_iff_iff, decide_eq_true_iff]
    constructor
    · intro h
      simp [ptEq] at h
      rw [h.1, h.2]
    · intro h
      obtain ⟨rfl, rfl⟩ := cross_eq h1 h2 h
      simp [ptEq]
  rw [hEq]
  simp only [decide_eq_true_eq]
  by_cases hn : n1 < 0
  · have hn2 : n2 < 0 := by simpa [hn] using hs
    have f1 : (n1.natAbs : Int) = -n1 := by omega
    have f2 : (n2.natAbs : Int) = -n2 := by omega
    rw [f1, Int.neg_mul] at hX
    rw [f2, Int.neg_mul] at hY
    rw [if_pos hn]
    generalize n1 * d2 = x at *
    generalize n2 * d1 = y at *
    by_cases hxy : x = y
    · rw [if_pos hxy, if_neg (by omega), if_neg (by omega)]
    · rw [if_neg hxy]
      by_cases hlt : x < y
      · rw [if_pos hlt, if_pos (by omega)]
      · rw [if_neg hlt, if_neg (by omega), if_pos (by omega)]
  · have hn2 : ¬ n2 < 0 := by simpa [hn] using hs
    have f1 : (n1.natAbs : Int) = n1 := by omega
    have f2 : (n2.natAbs : Int) = n2 := by omega
    rw [f1] at hX
    rw [f2] at hY
    rw [if_neg hn]
    generalize n1 * d2 = x at *
    generalize n2 * d1 = y at *
    by_cases hxy : x = y
    · rw [if_pos hxy, if_neg (by omega), if_neg (by omega)]
    · rw [if_neg hxy]
      by_cases hlt : x < y
      · rw [if_pos hlt, if_pos (by omega)]
      · rw [if_neg hlt, if_neg (by omega), if_pos (by omega)]
theorem rcmp_diff {n1 d1 n2 d2 : Int} (h1 : validI n1 d1 = true) (h2 : validI n2 d2 = true) (hs : decide (n1 < 0) ≠ decide (n2 < 0)) : cmpI n1 d1 n2 d2 = if n1 < 0 then -1 else 1 := by
  have h := cmp_diff h1 h2 hs
  have hne : ptEq n1 d1 n2 d2 = false := by
    cases hq : ptEq n1 d1 n2 d2 with
    | false => rfl
    | true =>
      simp [ptEq] at hq
      exact absurd (by rw [hq.1]) hs
  unfold cmpI
  rw [hne]
  by_cases hn : n1 < 0
  · rw [decide_eq_true hn] at h
    rw [if_neg (by decide), if_pos (of_decide_eq_true h.symm), if_pos hn]
  · rw [decide_eq_false hn] at h
    rw [if_neg (by decide), if_neg (of_decide_eq_false h.symm), if_neg hn]

def cF (m n : Nat) (d : Nat) (v : Value) (w : World) : Prop := (d = 2 → NumV w v m) ∧ (d = 5 ∨ d = 6 → NumV w v (if d = 5 then n else m * n))
theorem cF_s {m n : Nat} : ∀ d v w w', cF m n d v w → Reg.Keep (fun _ => False) w w' → cF m n d v w' := fun _ _ _ _ h k => ⟨fun e => (h.1 e).below (keepN k), fun e => (h.2 e).below (keepN k)⟩
set_option maxHeartbeats 16000000 in
theorem rcompare_any (n1 d1 n2 d2 : Int) (w : World) (b1 : -9223372036854775808 ≤ n1 ∧ n1 ≤ 9223372036854775807) (b2 : -9223372036854775808 ≤ d1 ∧ d1 ≤ 9223372036854775807) (b3 : -9223372036854775808 ≤ n2 ∧ n2 ≤ 9223372036854775807) (b4 : -9223372036854775808 ≤ d2 ∧ d2 ≤ 9223372036854775807) :
    Calls Try.prog 34 #[.agg #[.int .i64 n1, .int .i64 d1], .agg #[.int .i64 n2, .int .i64 d2]] w fun e w' => e = .returned (.tuple #[.int .i64 (compareI n1 d1 n2 d2).1, .int .i64 (compareI n1 d1 n2 d2).2]) ∧ Below w.heap.size w w' := by
  obtain ⟨b1, b1'⟩ := b1
  obtain ⟨b2, b2'⟩ := b2
  obtain ⟨b3, b3'⟩ := b3
  obtain ⟨b4, b4'⟩ := b4
  have Hc : Hid (compareI n1 d1 n2 d2 = if (validI n1 d1 && validI n2 d2) = true then (cmpI n1 d1 n2 d2, 0) else (0, 1)) := by unfold Hid; rfl
  cases v1 : validI n1 d1
  case false =>
    have hT := Below.refl w.heap.size w
    go_enter Try.func34, Try.ntmps34
    go_wp2_with fail
    first | (go_at_call 36; (with_reducible refine (rvalid_any _ _ _ ⟨by omega, by omega⟩ ⟨by omega, by omega⟩).mono ?_); rintro e w' ⟨rfl, hb⟩; first | (replace hT := (hT).trans (hb.mono hT.size); clear hb) | (replace hT := (hT.alloc hT.size _).trans (hb.mono (Nat.le_trans hT.size (by simp; try omega))); clear hb) | (replace hT := ((hT.alloc hT.size _).alloc (Nat.le_trans hT.size (by simp; try omega)) _).trans (hb.mono (Nat.le_trans hT.size (by simp; try omega))); obtain ⟨kf, kg⟩ := Reg.Blk.new2 hb; obtain ⟨ckf, fkf, zkf⟩ := Reg.Blk.facts kf; obtain ⟨ckg, fkg, zkg⟩ := Reg.Blk.facts kg; clear hb) | (replace hT := (((hT.alloc hT.size _).alloc (Nat.le_trans hT.size (by simp; try omega)) _).alloc (Nat.le_trans hT.size (by simp; try omega)) _).trans (hb.mono (Nat.le_trans hT.size (by simp; try omega))); clear hb) | (replace hT := ((((hT.alloc hT.size _).alloc (Nat.le_trans hT.size (by simp; try omega)) _).alloc (Nat.le_trans hT.size (by simp; try omega)) _).alloc (Nat.le_trans hT.size (by simp; try omega)) _).trans (hb.mono (Nat.le_trans hT.size (by simp; try omega))); clear hb) | (replace hT := (((((hT.alloc hT.size _).alloc (Nat.le_trans hT.size (by simp; try omega)) _).alloc (Nat.le_trans hT.size (by simp; try omega)) _).alloc (Nat.le_trans hT.size (by simp; try omega)) _).alloc (Nat.le_trans hT.size (by simp; try omega)) _).trans (hb.mono (Nat.le_trans hT.size (by simp; try omega))); clear hb))
    go_wp2_with (first | (go_at_call 36; (with_reducible refine (rvalid_any _ _ _ ⟨by omega, by omega⟩ ⟨by omega, by omega⟩).mono ?_); rintro e w' ⟨rfl, hb⟩; first | (replace hT := (hT).trans (hb.mono hT.size); replace kf := (kf).keep hb; clear ckf fkf zkf; obtain ⟨ckf, fkf, zkf⟩ := Reg.Blk.facts kf; replace kg := (kg).keep hb; clear ckg fkg zkg; obtain ⟨ckg, fkg, zkg⟩ := Reg.Blk.facts kg; clear hb) | (replace hT := (hT.alloc hT.size _).trans (hb.mono (Nat.le_trans hT.size (by simp; try omega))); replace kf := ((kf).alloc _).keep hb; clear ckf fkf zkf; obtain ⟨ckf, fkf, zkf⟩ := Reg.Blk.facts kf; replace kg := ((kg).alloc _).keep hb; clear ckg fkg zkg; obtain ⟨ckg, fkg, zkg⟩ := Reg.Blk.facts kg; clear hb) | (replace hT := ((hT.alloc hT.size _).alloc (Nat.le_trans hT.size (by simp; try omega)) _).trans (hb.mono (Nat.le_trans hT.size (by simp; try omega))); replace kf := (((kf).alloc _).alloc _).keep hb; clear ckf fkf zkf; obtain ⟨ckf, fkf, zkf⟩ := Reg.Blk.facts kf; replace kg := (((kg).alloc _).alloc _).keep hb; clear ckg fkg zkg; obtain ⟨ckg, fkg, zkg⟩ := Reg.Blk.facts kg; clear hb) | (replace hT := (((hT.alloc hT.size _).alloc (Nat.le_trans hT.size (by simp; try omega)) _).alloc (Nat.le_trans hT.size (by simp; try omega)) _).trans (hb.mono (Nat.le_trans hT.size (by simp; try omega))); replace kf := ((((kf).alloc _).alloc _).alloc _).keep hb; clear ckf fkf zkf; obtain ⟨ckf, fkf, zkf⟩ := Reg.Blk.facts kf; replace kg := ((((kg).alloc _).alloc _).alloc _).keep hb; clear ckg fkg zkg; obtain ⟨ckg, fkg, zkg⟩ := Reg.Blk.facts kg; clear hb) | (replace hT := ((((hT.alloc hT.size _).alloc (Nat.le_trans hT.size (by simp; try omega)) _).alloc (Nat.le_trans hT.size (by simp; try omega)) _).alloc (Nat.le_trans hT.size (by simp; try omega)) _).trans (hb.mono (Nat.le_trans hT.size (by simp; try omega))); replace kf := (((((kf).alloc _).alloc _).alloc _).alloc _).keep hb; clear ckf fkf zkf; obtain ⟨ckf, fkf, zkf⟩ := Reg.Blk.facts kf; replace kg := (((((kg).alloc _).alloc _).alloc _).alloc _).keep hb; clear ckg fkg zkg; obtain ⟨ckg, fkg, zkg⟩ := Reg.Blk.facts kg; clear hb) | (replace hT := (((((hT.alloc hT.size _).alloc (Nat.le_trans hT.size (by simp; try omega)) _).alloc (Nat.le_trans hT.size (by simp; try omega)) _).alloc (Nat.le_trans hT.size (by simp; try omega)) _).alloc (Nat.le_trans hT.size (by simp; try omega)) _).trans (hb.mono (Nat.le_trans hT.size (by simp; try omega))); replace kf := ((((((kf).alloc _).alloc _).alloc _).alloc _).alloc _).keep hb; clear ckf fkf zkf; obtain ⟨ckf, fkf, zkf⟩ := Reg.Blk.facts kf; replace kg := ((((((kg).alloc _).alloc _).alloc _).alloc _).alloc _).keep hb; clear ckg fkg zkg; obtain ⟨ckg, fkg, zkg⟩ := Reg.Blk.facts kg; clear hb)))
    go_ret2
    exact ⟨by rw [Hc.out]; simp [v1], hT⟩
  cases v2 : validI n2 d2
  case false =>
    have hT := Below.refl w.heap.size w
    go_enter Try.func34, Try.ntmps34
    go_wp2_with fail
    first | (go_at_call 36; (with_reducible refine (rvalid_any _ _ _ ⟨by omega, by omega⟩ ⟨by omega, by omega⟩).mono ?_); rintro e w' ⟨rfl, hb⟩; first | (replace hT := (hT).trans (hb.mono hT.size); clear hb) | (replace hT := (hT.alloc hT.size _).trans (hb.mono (Nat.le_trans hT.size (by simp; try omega))); clear hb) | (replace hT := ((hT.alloc hT.size _).alloc (Nat.le_trans hT.size (by simp; try omega)) _).trans (hb.mono (Nat.le_trans hT.size (by simp; try omega))); obtain ⟨kf, kg⟩ := Reg.Blk.new2 hb; obtain ⟨ckf, fkf, zkf⟩ := Reg.Blk.facts kf; obtain ⟨ckg, fkg, zkg⟩ := Reg.Blk.facts kg; clear hb) | (replace hT := (((hT.alloc hT.size _).alloc (Nat.le_trans hT.size (by simp; try omega)) _).alloc (Nat.le_trans hT.size (by simp; try omega)) _).trans (hb.mono (Nat.le_trans hT.size (by simp; try omega))); clear hb) | (replace hT := ((((hT.alloc hT.size _).alloc (Nat.le_trans hT.size (by simp; try omega)) _).alloc (Nat.le_trans hT.size (by simp; try omega)) _).alloc (Nat.le_trans hT.size (by simp; try omega)) _).trans (hb.mono (Nat.le_trans hT.size (by simp; try omega))); clear hb) | (replace hT := (((((hT.alloc hT.size _).alloc (Nat.le_trans hT.size (by simp; try omega)) _).alloc (Nat.le_trans hT.size (by simp; try omega)) _).alloc (Nat.le_trans hT.size (by simp; try omega)) _).alloc (Nat.le_trans hT.size (by simp; try omega)) _).trans (hb.mono (Nat.le_trans hT.size (by simp; try omega))); clear hb))
    go_wp2_with (first | (go_at_call 36; (with_reducible refine (rvalid_any _ _ _ ⟨by omega, by omega⟩ ⟨by omega, by omega⟩).mono ?_); rintro e w' ⟨rfl, hb⟩; first | (replace hT := (hT).trans (hb.mono hT.size); replace kf := (kf).keep hb; clear ckf fkf zkf; obtain ⟨ckf, fkf, zkf⟩ := Reg.Blk.facts kf; replace kg := (kg).keep hb; clear ckg fkg zkg; obtain ⟨ckg, fkg, zkg⟩ := Reg.Blk.facts kg; clear hb) | (replace hT := (hT.alloc hT.size _).trans (hb.mono (Nat.le_trans hT.size (by simp; try omega))); replace kf := ((kf).alloc _).keep hb; clear ckf fkf zkf; obtain ⟨ckf, fkf, zkf⟩ := Reg.Blk.facts kf; replace kg := ((kg).alloc _).keep hb; clear ckg fkg zkg; obtain ⟨ckg, fkg, zkg⟩ := Reg.Blk.facts kg; clear hb) | (replace hT := ((hT.alloc hT.size _).alloc (Nat.le_trans hT.size (by simp; try omega)) _).trans (hb.mono (Nat.le_trans hT.size (by simp; try omega))); replace kf := (((kf).alloc _).alloc _).keep hb; clear ckf fkf zkf; obtain ⟨ckf, fkf, zkf⟩ := Reg.Blk.facts kf; replace kg := (((kg).alloc _).alloc _).keep hb; clear ckg fkg zkg; obtain ⟨ckg, fkg, zkg⟩ := Reg.Blk.facts kg; clear hb) | (replace hT := (((hT.alloc hT.size _).alloc (Nat.le_trans hT.size (by simp; try omega)) _).alloc (Nat.le_trans hT.size (by simp; try omega)) _).trans (hb.mono (Nat.le_trans hT.size (by simp; try omega))); replace kf := ((((kf).alloc _).alloc _).alloc _).keep hb; clear ckf fkf zkf; obtain ⟨ckf, fkf, zkf⟩ := Reg.Blk.facts kf; replace kg := ((((kg).alloc _).alloc _).alloc _).keep hb; clear ckg fkg zkg; obtain ⟨ckg, fkg, zkg⟩ := Reg.Blk.facts kg; clear hb) | (replace hT := ((((hT.alloc hT.size _).alloc (Nat.le_trans hT.size (by simp; try omega)) _).alloc (Nat.le_trans hT.size (by simp; try omega)) _).alloc (Nat.le_trans hT.size (by simp; try omega)) _).trans (hb.mono (Nat.le_trans hT.size (by simp; try omega))); replace kf := (((((kf).alloc _).alloc _).alloc _).alloc _).keep hb; clear ckf fkf zkf; obtain ⟨ckf, fkf, zkf⟩ := Reg.Blk.facts kf; replace kg := (((((kg).alloc _).alloc _).alloc _).alloc _).keep hb; clear ckg fkg zkg; obtain ⟨ckg, fkg, zkg⟩ := Reg.Blk.facts kg; clear hb) | (replace hT := (((((hT.alloc hT.size _).alloc (Nat.le_trans hT.size (by simp; try omega)) _).alloc (Nat.le_trans hT.size (by simp; try omega)) _).alloc (Nat.le_trans hT.size (by simp; try omega)) _).alloc (Nat.le_trans hT.size (by simp; try omega)) _).trans (hb.mono (Nat.le_trans hT.size (by simp; try omega))); replace kf := ((((((kf).alloc _).alloc _).alloc _).alloc _).alloc _).keep hb; clear ckf fkf zkf; obtain ⟨ckf, fkf, zkf⟩ := Reg.Blk.facts kf; replace kg := ((((((kg).alloc _).alloc _).alloc _).alloc _).alloc _).keep hb; clear ckg fkg zkg; obtain ⟨ckg, fkg, zkg⟩ := Reg.Blk.facts kg; clear hb)))
    go_ret2
    exact ⟨by rw [Hc.out]; simp [v1, v2], hT⟩
  by_cases hs : decide (n1 < 0) = decide (n2 < 0)
  · have HK := Lib.hid (rcmp_same v1 v2 hs)
    obtain ⟨p1, p2, p3, _⟩ := valid_parts v1
    obtain ⟨q1, q2, q3, _⟩ := valid_parts v2
    have a1 := absI_spec n1
    have a2 := absI_spec n2
    have HD := Lib.hid (And.intro (bits62 (n := n1) (by omega) (by omega)) (And.intro (bits62 (n := d1) (by omega) (by omega)) (And.intro (bits62 (n := n2) (by omega) (by omega)) (bits62 (n := d2) (by omega) (by omega)))))
    obtain ⟨x1, hx1⟩ : ∃ x, x = n1.natAbs := ⟨_, rfl⟩
    obtain ⟨y1, hy1⟩ : ∃ x, x = d1.natAbs := ⟨_, rfl⟩
    obtain ⟨x2, hx2⟩ : ∃ x, x = n2.natAbs := ⟨_, rfl⟩
    obtain ⟨y2, hy2⟩ : ∃ x, x = d2.natAbs := ⟨_, rfl⟩
    have H1 : Hid (∀ W, Calls Try.prog 63 #[.int .i64 n1] W fun e w' => (∃ v, e = .returned v ∧ NumV w' v x1) ∧ Below W.heap.size W w') := fun W => by rw [hx1]; exact digitsV n1 W (by omega)
    have H2 : Hid (∀ W, Calls Try.prog 63 #[.int .i64 d1] W fun e w' => (∃ v, e = .returned v ∧ NumV w' v y1) ∧ Below W.heap.size W w') := fun W => by rw [hy1]; exact digitsV d1 W (by omega)
    have H3 : Hid (∀ W, Calls Try.prog 63 #[.int .i64 n2] W fun e w' => (∃ v, e = .returned v ∧ NumV w' v x2) ∧ Below W.heap.size W w') := fun W => by rw [hx2]; exact digitsV n2 W (by omega)
    have H4 : Hid (∀ W, Calls Try.prog 63 #[.int .i64 d2] W fun e w' => (∃ v, e = .returned v ∧ NumV w' v y2) ∧ Below W.heap.size W w') := fun W => by rw [hy2]; exact digitsV d2 W (by omega)
    rw [← hx1, ← hy1, ← hx2, ← hy2] at HK HD
    clear hx1 hy1 hx2 hy2 p1 p2 p3 q1 q2 q3 a1 a2
    cases s1 : decide (n1 < 0) with
    | true =>
      have s2 : decide (n2 < 0) = _ := hs.symm.trans s1
      have HS := Lib.hid s1
      clear hs
      have hT := Below.refl w.heap.size w
      go_enter Try.func34, Try.ntmps34
      go_wp2_with fail
      first | (go_at_call 36; (with_reducible refine (rvalid_any _ _ _ ⟨by omega, by omega⟩ ⟨by omega, by omega⟩).mono ?_); rintro e w' ⟨rfl, hb⟩; first | (replace hT := (hT).trans (hb.mono hT.size); clear hb) | (replace hT := (hT.alloc hT.size _).trans (hb.mono (Nat.le_trans hT.size (by simp; try omega))); clear hb) | (replace hT := ((hT.alloc hT.size _).alloc (Nat.le_trans hT.size (by simp; try omega)) _).trans (hb.mono (Nat.le_trans hT.size (by simp; try omega))); obtain ⟨kf, kg⟩ := Reg.Blk.new2 hb; obtain ⟨ckf, fkf, zkf⟩ := Reg.Blk.facts kf; obtain ⟨ckg, fkg, zkg⟩ := Reg.Blk.facts kg; clear hb) | (replace hT := (((hT.alloc hT.size _).alloc (Nat.le_trans hT.size (by simp; try omega)) _).alloc (Nat.le_trans hT.size (by simp; try omega)) _).trans (hb.mono (Nat.le_trans hT.size (by simp; try omega))); clear hb) | (replace hT := ((((hT.alloc hT.size _).alloc (Nat.le_trans hT.size (by simp; try omega)) _).alloc (Nat.le_trans hT.size (by simp; try omega)) _).alloc (Nat.le_trans hT.size (by simp; try omega)) _).trans (hb.mono (Nat.le_trans hT.size (by simp; try omega))); clear hb) | (replace hT := (((((hT.alloc hT.size _).alloc (Nat.le_trans hT.size (by simp; try omega)) _).alloc (Nat.le_trans hT.size (by simp; try omega)) _).alloc (Nat.le_trans hT.size (by simp; try omega)) _).alloc (Nat.le_trans hT.size (by simp; try omega)) _).trans (hb.mono (Nat.le_trans hT.size (by simp; try omega))); clear hb))
      go_wp2_with (first | (go_at_call 36; (with_reducible refine (rvalid_any _ _ _ ⟨by omega, by omega⟩ ⟨by omega, by omega⟩).mono ?_); rintro e w' ⟨rfl, hb⟩; first | (replace hT := (hT).trans (hb.mono hT.size); replace kf := (kf).keep hb; clear ckf fkf zkf; obtain ⟨ckf, fkf, zkf⟩ := Reg.Blk.facts kf; replace kg := (kg).keep hb; clear ckg fkg zkg; obtain ⟨ckg, fkg, zkg⟩ := Reg.Blk.facts kg; clear hb) | (replace hT := (hT.alloc hT.size _).trans (hb.mono (Nat.le_trans hT.size (by simp; try omega))); replace kf := ((kf).alloc _).keep hb; clear ckf fkf zkf; obtain ⟨ckf, fkf, zkf⟩ := Reg.Blk.facts kf; replace kg := ((kg).alloc _).keep hb; clear ckg fkg zkg; obtain ⟨ckg, fkg, zkg⟩ := Reg.Blk.facts kg; clear hb) | (replace hT := ((hT.alloc hT.size _).alloc (Nat.le_trans hT.size (by simp; try omega)) _).trans (hb.mono (Nat.le_trans hT.size (by simp; try omega))); replace kf := (((kf).alloc _).alloc _).keep hb; clear ckf fkf zkf; obtain ⟨ckf, fkf, zkf⟩ := Reg.Blk.facts kf; replace kg := (((kg).alloc _).alloc _).keep hb; clear ckg fkg zkg; obtain ⟨ckg, fkg, zkg⟩ := Reg.Blk.facts kg; clear hb) | (replace hT := (((hT.alloc hT.size _).alloc (Nat.le_trans hT.size (by simp; try omega)) _).alloc (Nat.le_trans hT.size (by simp; try omega)) _).trans (hb.mono (Nat.le_trans hT.size (by simp; try omega))); replace kf := ((((kf).alloc _).alloc _).alloc _).keep hb; clear ckf fkf zkf; obtain ⟨ckf, fkf, zkf⟩ := Reg.Blk.facts kf; replace kg := ((((kg).alloc _).alloc _).alloc _).keep hb; clear ckg fkg zkg; obtain ⟨ckg, fkg, zkg⟩ := Reg.Blk.facts kg; clear hb) | (replace hT := ((((hT.alloc hT.size _).alloc (Nat.le_trans hT.size (by simp; try omega)) _).alloc (Nat.le_trans hT.size (by simp; try omega)) _).alloc (Nat.le_trans hT.size (by simp; try omega)) _).trans (hb.mono (Nat.le_trans hT.size (by simp; try omega))); replace kf := (((((kf).alloc _).alloc _).alloc _).alloc _).keep hb; clear ckf fkf zkf; obtain ⟨ckf, fkf, zkf⟩ := Reg.Blk.facts kf; replace kg := (((((kg).alloc _).alloc _).alloc _).alloc _).keep hb; clear ckg fkg zkg; obtain ⟨ckg, fkg, zkg⟩ := Reg.Blk.facts kg; clear hb) | (replace hT := (((((hT.alloc hT.size _).alloc (Nat.le_trans hT.size (by simp; try omega)) _).alloc (Nat.le_trans hT.size (by simp; try omega)) _).alloc (Nat.le_trans hT.size (by simp; try omega)) _).alloc (Nat.le_trans hT.size (by simp; try omega)) _).trans (hb.mono (Nat.le_trans hT.size (by simp; try omega))); replace kf := ((((((kf).alloc _).alloc _).alloc _).alloc _).alloc _).keep hb; clear ckf fkf zkf; obtain ⟨ckf, fkf, zkf⟩ := Reg.Blk.facts kf; replace kg := ((((((kg).alloc _).alloc _).alloc _).alloc _).alloc _).keep hb; clear ckg fkg zkg; obtain ⟨ckg, fkg, zkg⟩ := Reg.Blk.facts kg; clear hb)))
      refine Reg.wp_region_eff (fun _ => False) (cF x1 y2) (fun _ _ => True) (by kernel_rfl) (by kernel_rfl) cF_s (fun _ _ _ _ _ => trivial) trivial ?_
      simp only
      iterate 2
        apply Reg.SeqE.val
        rotate_left 2
        · intro δ W hW hkn K hK
          obtain ⟨hc, hf, _⟩ := Reg.kcell hW
          simp only [Act.put, List.setIfInBounds_toArray, List.set_cons_zero, List.set_cons_succ] at hK
          unfold Reg.Does
          go_simp
          try simp only [IntWalk.i64_left]
          first
            | exact hK _ (Below.refl _ _)
            | (trace_state; fail)
        rotate_left 1
        · intro δ δ' hd; first | rfl | (simp only [hd _ (show Reg.reach _ 12 _ _ = true by kernel_rfl)])
        · intro x w; first | exact trivial | (intro e; exact absurd e (by decide)) | exact ⟨fun e => absurd e (by decide), fun e => absurd e (by decide)⟩
        simp only [Act.put, List.setIfInBounds_toArray, List.set_cons_zero, List.set_cons_succ, List.nil_append, List.cons_append, Nat.reduceAdd, Nat.zero_add]
      refine Reg.SeqE.new (fun δ W hW hkn K hK => ?_) ?_
      · simp only [Act.put, List.setIfInBounds_toArray, List.set_cons_zero, List.set_cons_succ] at hK
        unfold Reg.Does
        go_simp
        (with_reducible refine (H1.out W).mono ?_); rintro e w' ⟨⟨v, rfl, hv⟩, hb⟩
        exact hK _ _ hb ⟨fun _ => hv, fun e => absurd e (by decide)⟩
      simp only [Act.put, List.setIfInBounds_toArray, List.set_cons_zero, List.set_cons_succ, List.nil_append, List.cons_append, Nat.reduceAdd, Nat.zero_add]
      iterate 2
        apply Reg.SeqE.val
        rotate_left 2
        · intro δ W hW hkn K hK
          obtain ⟨hc, hf, _⟩ := Reg.kcell hW
          simp only [Act.put, List.setIfInBounds_toArray, List.set_cons_zero, List.set_cons_succ] at hK
          unfold Reg.Does
          go_simp
          try simp only [IntWalk.i64_left]
          first
            | exact hK _ (Below.refl _ _)
            | (trace_state; fail)
        rotate_left 1
        · intro δ δ' hd; first | rfl | (simp only [hd _ (show Reg.reach _ 12 _ _ = true by kernel_rfl)])
        · intro x w; first | exact trivial | (intro e; exact absurd e (by decide)) | exact ⟨fun e => absurd e (by decide), fun e => absurd e (by decide)⟩
        simp only [Act.put, List.setIfInBounds_toArray, List.set_cons_zero, List.set_cons_succ, List.nil_append, List.cons_append, Nat.reduceAdd, Nat.zero_add]
      refine Reg.SeqE.new (fun δ W hW hkn K hK => ?_) ?_
      · simp only [Act.put, List.setIfInBounds_toArray, List.set_cons_zero, List.set_cons_succ] at hK
        unfold Reg.Does
        go_simp
        (with_reducible refine (H4.out W).mono ?_); rintro e w' ⟨⟨v, rfl, hv⟩, hb⟩
        exact hK _ _ hb ⟨fun e => absurd e (by decide), fun _ => hv⟩
      simp only [Act.put, List.setIfInBounds_toArray, List.set_cons_zero, List.set_cons_succ, List.nil_append, List.cons_append, Nat.reduceAdd, Nat.zero_add]
      refine Reg.SeqE.new (fun δ W hW hkn K hK => ?_) ?_
      · have x2 := (hkn 2 (by kernel_rfl)).1 rfl
        have x5 : NumV W (δ 5) y2 := (hkn 5 (by kernel_rfl)).2 (.inl rfl)
        have Q := Lib.hid (timesV x2 x5 (by have := HD.out; omega) (by have := HD.out; omega))
        clear x2 x5
        simp only [Act.put, List.setIfInBounds_toArray, List.set_cons_zero, List.set_cons_succ] at hK
        unfold Reg.Does
        go_simp
        (with_reducible refine Q.out.mono ?_); rintro e w' ⟨⟨v, rfl, hv⟩, hb⟩
        exact hK _ _ hb ⟨fun e => absurd e (by decide), fun _ => hv⟩
      simp only [Act.put, List.setIfInBounds_toArray, List.set_cons_zero, List.set_cons_succ, List.nil_append, List.cons_append, Nat.reduceAdd, Nat.zero_add]
      refine Reg.SeqE.val (fun δ => δ 6) (fun δ δ' hd => hd 6 (by kernel_rfl)) (fun _ _ => ⟨fun e => absurd e (by decide), fun e => absurd e (by decide)⟩) (fun δ W hW hkn K hK => ?_) ?_
      · simp only [Act.put, List.setIfInBounds_toArray, List.set_cons_zero, List.set_cons_succ] at hK
        unfold Reg.Does
        go_simp
        exact hK _ (Below.refl _ _)
      simp only [Act.put, List.setIfInBounds_toArray, List.set_cons_zero, List.set_cons_succ, List.nil_append, List.cons_append, Nat.reduceAdd, Nat.zero_add]
      refine Reg.SeqE.nil (fun δ W hW hkn _ => ?_)
      have hn6 : NumV W (δ 6) (x1 * y2) := (hkn 6 (by decide)).2 (.inr rfl)
      have hb := keepN hW
      clear hkn hW
      generalize δ 2 = u2
      generalize δ 5 = u5
      generalize δ 6 = ua at *
      replace hT := hT.trans (hb.mono hT.size)
      replace kf := kf.keep hb
      replace kg := kg.keep hb
      clear ckf fkf zkf ckg fkg zkg
      obtain ⟨ckf, fkf, zkf⟩ := kf.facts
      obtain ⟨ckg, fkg, zkg⟩ := kg.facts
      have HA := Lib.hid hn6
      clear hn6 hb
      go_wp2_with fail
      refine Reg.wp_region_eff (fun _ => False) (cF x2 y1) (fun _ _ => True) (by kernel_rfl) (by kernel_rfl) cF_s (fun _ _ _ _ _ => trivial) trivial ?_
      simp only
      iterate 2
        apply Reg.SeqE.val
        rotate_left 2
        · intro δ W hW hkn K hK
          obtain ⟨hc, hf, _⟩ := Reg.kcell hW
          simp only [Act.put, List.setIfInBounds_toArray, List.set_cons_zero, List.set_cons_succ] at hK
          unfold Reg.Does
          go_simp
          try simp only [IntWalk.i64_left]
          first
            | exact hK _ (Below.refl _ _)
            | (trace_state; fail)
        rotate_left 1
        · intro δ δ' hd; first | rfl | (simp only [hd _ (show Reg.reach _ 12 _ _ = true by kernel_rfl)])
        · intro x w; first | exact trivial | (intro e; exact absurd e (by decide)) | exact ⟨fun e => absurd e (by decide), fun e => absurd e (by decide)⟩
        simp only [Act.put, List.setIfInBounds_toArray, List.set_cons_zero, List.set_cons_succ, List.nil_append, List.cons_append, Nat.reduceAdd, Nat.zero_add]
      refine Reg.SeqE.new (fun δ W hW hkn K hK => ?_) ?_
      · simp only [Act.put, List.setIfInBounds_toArray, List.set_cons_zero, List.set_cons_succ] at hK
        unfold Reg.Does
        go_simp
        (with_reducible refine (H3.out W).mono ?_); rintro e w' ⟨⟨v, rfl, hv⟩, hb⟩
        exact hK _ _ hb ⟨fun _ => hv, fun e => absurd e (by decide)⟩
      simp only [Act.put, List.setIfInBounds_toArray, List.set_cons_zero, List.set_cons_succ, List.nil_append, List.cons_append, Nat.reduceAdd, Nat.zero_add]
      iterate 2
        apply Reg.SeqE.val
        rotate_left 2
        · intro δ W hW hkn K hK
          obtain ⟨hc, hf, _⟩ := Reg.kcell hW
          simp only [Act.put, List.setIfInBounds_toArray, List.set_cons_zero, List.set_cons_succ] at hK
          unfold Reg.Does
          go_simp
          try simp only [IntWalk.i64_left]
          first
            | exact hK _ (Below.refl _ _)
            | (trace_state; fail)
        rotate_left 1
        · intro δ δ' hd; first | rfl | (simp only [hd _ (show Reg.reach _ 12 _ _ = true by kernel_rfl)])
        · intro x w; first | exact trivial | (intro e; exact absurd e (by decide)) | exact ⟨fun e => absurd e (by decide), fun e => absurd e (by decide)⟩
        simp only [Act.put, List.setIfInBounds_toArray, List.set_cons_zero, List.set_cons_succ, List.nil_append, List.cons_append, Nat.reduceAdd, Nat.zero_add]
      refine Reg.SeqE.new (fun δ W hW hkn K hK => ?_) ?_
      · simp only [Act.put, List.setIfInBounds_toArray, List.set_cons_zero, List.set_cons_succ] at hK
        unfold Reg.Does
        go_simp
        (with_reducible refine (H2.out W).mono ?_); rintro e w' ⟨⟨v, rfl, hv⟩, hb⟩
        exact hK _ _ hb ⟨fun e => absurd e (by decide), fun _ => hv⟩
      simp only [Act.put, List.setIfInBounds_toArray, List.set_cons_zero, List.set_cons_succ, List.nil_append, List.cons_append, Nat.reduceAdd, Nat.zero_add]
      refine Reg.SeqE.new (fun δ W hW hkn K hK => ?_) ?_
      · have x2 := (hkn 2 (by kernel_rfl)).1 rfl
        have x5 : NumV W (δ 5) y1 := (hkn 5 (by kernel_rfl)).2 (.inl rfl)
        have Q := Lib.hid (timesV x2 x5 (by have := HD.out; omega) (by have := HD.out; omega))
        clear x2 x5
        simp only [Act.put, List.setIfInBounds_toArray, List.set_cons_zero, List.set_cons_succ] at hK
        unfold Reg.Does
        go_simp
        (with_reducible refine Q.out.mono ?_); rintro e w' ⟨⟨v, rfl, hv⟩, hb⟩
        exact hK _ _ hb ⟨fun e => absurd e (by decide), fun _ => hv⟩
      simp only [Act.put, List.setIfInBounds_toArray, List.set_cons_zero, List.set_cons_succ, List.nil_append, List.cons_append, Nat.reduceAdd, Nat.zero_add]
      refine Reg.SeqE.val (fun δ => δ 6) (fun δ δ' hd => hd 6 (by kernel_rfl)) (fun _ _ => ⟨fun e => absurd e (by decide), fun e => absurd e (by decide)⟩) (fun δ W hW hkn K hK => ?_) ?_
      · simp only [Act.put, List.setIfInBounds_toArray, List.set_cons_zero, List.set_cons_succ] at hK
        unfold Reg.Does
        go_simp
        exact hK _ (Below.refl _ _)
      simp only [Act.put, List.setIfInBounds_toArray, List.set_cons_zero, List.set_cons_succ, List.nil_append, List.cons_append, Nat.reduceAdd, Nat.zero_add]
      refine Reg.SeqE.nil (fun δ W hW hkn _ => ?_)
      have hn6 : NumV W (δ 6) (x2 * y1) := (hkn 6 (by decide)).2 (.inr rfl)
      have hb := keepN hW
      clear hkn hW
      generalize δ 2 = u2
      generalize δ 5 = u5
      generalize δ 6 = ub at *
      replace hT := hT.trans (hb.mono hT.size)
      replace kf := kf.keep hb
      replace kg := kg.keep hb
      clear ckf fkf zkf ckg fkg zkg
      obtain ⟨ckf, fkf, zkf⟩ := kf.facts
      obtain ⟨ckg, fkg, zkg⟩ := kg.facts
      replace HA := Lib.hid (HA.out.below hb)
      have HBb := Lib.hid hn6
      clear hn6 hb
      have HL1 := Lib.hid (lessV HBb.out HA.out)
      go_wp2_with fail
      (with_reducible refine HL1.out.mono ?_); rintro e w2 ⟨rfl, hb⟩
      replace hT := hT.trans (hb.mono hT.size)
      replace HA := Lib.hid (HA.out.below hb)
      replace HBb := Lib.hid (HBb.out.below hb)
      clear hb HL1 ckf fkf zkf ckg fkg zkg
      have HL2 := Lib.hid (lessV HA.out HBb.out)
      have hk := HK.out
      generalize x2 * y1 = P at *
      generalize x1 * y2 = Q at *
      have HKq := Lib.hid hk
      clear hk HK
      by_cases hPQ : P < Q
      · have hd : decide (P < Q) = true := decide_eq_true hPQ
        go_wp2_with fail
        go_ret2
        refine ⟨?_, hT⟩
        rw [Hc.out, v1, v2, HKq.out]
        simp [of_decide_eq_true HS.out, cmpN, hPQ]
      · have hd : decide (P < Q) = false := decide_eq_false hPQ
        go_wp2_with fail
        (with_reducible refine HL2.out.mono ?_); rintro e w3 ⟨rfl, hb⟩
        replace hT := hT.trans (hb.mono hT.size)
        clear hb
        by_cases hQP : Q < P
        · have hd2 : decide (Q < P) = true := decide_eq_true hQP
          go_wp2_with fail
          go_ret2
          refine ⟨?_, hT⟩
          rw [Hc.out, v1, v2, HKq.out]
          simp [of_decide_eq_true HS.out, cmpN, hPQ, hQP]
        · have hd2 : decide (Q < P) = false := decide_eq_false hQP
          go_wp2_with fail
          go_ret2
          refine ⟨?_, hT⟩
          rw [Hc.out, v1, v2, HKq.out]
          simp [of_decide_eq_true HS.out, cmpN, hPQ, hQP]
    | false =>
      have s2 : decide (n2 < 0) = _ := hs.symm.trans s1
      have HS := Lib.hid s1
      clear hs
      have hT := Below.refl w.heap.size w
      go_enter Try.func34, Try.ntmps34
      go_wp2_with fail
      first | (go_at_call 36; (with_reducible refine (rvalid_any _ _ _ ⟨by omega, by omega⟩ ⟨by omega, by omega⟩).mono ?_); rintro e w' ⟨rfl, hb⟩; first | (replace hT := (hT).trans (hb.mono hT.size); clear hb) | (replace hT := (hT.alloc hT.size _).trans (hb.mono (Nat.le_trans hT.size (by simp; try omega))); clear hb) | (replace hT := ((hT.alloc hT.size _).alloc (Nat.le_trans hT.size (by simp; try omega)) _).trans (hb.mono (Nat.le_trans hT.size (by simp; try omega))); obtain ⟨kf, kg⟩ := Reg.Blk.new2 hb; obtain ⟨ckf, fkf, zkf⟩ := Reg.Blk.facts kf; obtain ⟨ckg, fkg, zkg⟩ := Reg.Blk.facts kg; clear hb) | (replace hT := (((hT.alloc hT.size _).alloc (Nat.le_trans hT.size (by simp; try omega)) _).alloc (Nat.le_trans hT.size (by simp; try omega)) _).trans (hb.mono (Nat.le_trans hT.size (by simp; try omega))); clear hb) | (replace hT := ((((hT.alloc hT.size _).alloc (Nat.le_trans hT.size (by simp; try omega)) _).alloc (Nat.le_trans hT.size (by simp; try omega)) _).alloc (Nat.le_trans hT.size (by simp; try omega)) _).trans (hb.mono (Nat.le_trans hT.size (by simp; try omega))); clear hb) | (replace hT := (((((hT.alloc hT.size _).alloc (Nat.le_trans hT.size (by simp; try omega)) _).alloc (Nat.le_trans hT.size (by simp; try omega)) _).alloc (Nat.le_trans hT.size (by simp; try omega)) _).alloc (Nat.le_trans hT.size (by simp; try omega)) _).trans (hb.mono (Nat.le_trans hT.size (by simp; try omega))); clear hb))
      go_wp2_with (first | (go_at_call 36; (with_reducible refine (rvalid_any _ _ _ ⟨by omega, by omega⟩ ⟨by omega, by omega⟩).mono ?_); rintro e w' ⟨rfl, hb⟩; first | (replace hT := (hT).trans (hb.mono hT.size); replace kf := (kf).keep hb; clear ckf fkf zkf; obtain ⟨ckf, fkf, zkf⟩ := Reg.Blk.facts kf; replace kg := (kg).keep hb; clear ckg fkg zkg; obtain ⟨ckg, fkg, zkg⟩ := Reg.Blk.facts kg; clear hb) | (replace hT := (hT.alloc hT.size _).trans (hb.mono (Nat.le_trans hT.size (by simp; try omega))); replace kf := ((kf).alloc _).keep hb; clear ckf fkf zkf; obtain ⟨ckf, fkf, zkf⟩ := Reg.Blk.facts kf; replace kg := ((kg).alloc _).keep hb; clear ckg fkg zkg; obtain ⟨ckg, fkg, zkg⟩ := Reg.Blk.facts kg; clear hb) | (replace hT := ((hT.alloc hT.size _).alloc (Nat.le_trans hT.size (by simp; try omega)) _).trans (hb.mono (Nat.le_trans hT.size (by simp; try omega))); replace kf := (((kf).alloc _).alloc _).keep hb; clear ckf fkf zkf; obtain ⟨ckf, fkf, zkf⟩ := Reg.Blk.facts kf; replace kg := (((kg).alloc _).alloc _).keep hb; clear ckg fkg zkg; obtain ⟨ckg, fkg, zkg⟩ := Reg.Blk.facts kg; clear hb) | (replace hT := (((hT.alloc hT.size _).alloc (Nat.le_trans hT.size (by simp; try omega)) _).alloc (Nat.le_trans hT.size (by simp; try omega)) _).trans (hb.mono (Nat.le_trans hT.size (by simp; try omega))); replace kf := ((((kf).alloc _).alloc _).alloc _).keep hb; clear ckf fkf zkf; obtain ⟨ckf, fkf, zkf⟩ := Reg.Blk.facts kf; replace kg := ((((kg).alloc _).alloc _).alloc _).keep hb; clear ckg fkg zkg; obtain ⟨ckg, fkg, zkg⟩ := Reg.Blk.facts kg; clear hb) | (replace hT := ((((hT.alloc hT.size _).alloc (Nat.le_trans hT.size (by simp; try omega)) _).alloc (Nat.le_trans hT.size (by simp; try omega)) _).alloc (Nat.le_trans hT.size (by simp; try omega)) _).trans (hb.mono (Nat.le_trans hT.size (by simp; try omega))); replace kf := (((((kf).alloc _).alloc _).alloc _).alloc _).keep hb; clear ckf fkf zkf; obtain ⟨ckf, fkf, zkf⟩ := Reg.Blk.facts kf; replace kg := (((((kg).alloc _).alloc _).alloc _).alloc _).keep hb; clear ckg fkg zkg; obtain ⟨ckg, fkg, zkg⟩ := Reg.Blk.facts kg; clear hb) | (replace hT := (((((hT.alloc hT.size _).alloc (Nat.le_trans hT.size (by simp; try omega)) _).alloc (Nat.le_trans hT.size (by simp; try omega)) _).alloc (Nat.le_trans hT.size (by simp; try omega)) _).alloc (Nat.le_trans hT.size (by simp; try omega)) _).trans (hb.mono (Nat.le_trans hT.size (by simp; try omega))); replace kf := ((((((kf).alloc _).alloc _).alloc _).alloc _).alloc _).keep hb; clear ckf fkf zkf; obtain ⟨ckf, fkf, zkf⟩ := Reg.Blk.facts kf; replace kg := ((((((kg).alloc _).alloc _).alloc _).alloc _).alloc _).keep hb; clear ckg fkg zkg; obtain ⟨ckg, fkg, zkg⟩ := Reg.Blk.facts kg; clear hb)))
      refine Reg.wp_region_eff (fun _ => False) (cF x1 y2) (fun _ _ => True) (by kernel_rfl) (by kernel_rfl) cF_s (fun _ _ _ _ _ => trivial) trivial ?_
      simp only
      iterate 2
        apply Reg.SeqE.val
        rotate_left 2
        · intro δ W hW hkn K hK
          obtain ⟨hc, hf, _⟩ := Reg.kcell hW
          simp only [Act.put, List.setIfInBounds_toArray, List.set_cons_zero, List.set_cons_succ] at hK
          unfold Reg.Does
          go_simp
          try simp only [IntWalk.i64_left]
          first
            | exact hK _ (Below.refl _ _)
            | (trace_state; fail)
        rotate_left 1
        · intro δ δ' hd; first | rfl | (simp only [hd _ (show Reg.reach _ 12 _ _ = true by kernel_rfl)])
        · intro x w; first | exact trivial | (intro e; exact absurd e (by decide)) | exact ⟨fun e => absurd e (by decide), fun e => absurd e (by decide)⟩
        simp only [Act.put, List.setIfInBounds_toArray, List.set_cons_zero, List.set_cons_succ, List.nil_append, List.cons_append, Nat.reduceAdd, Nat.zero_add]
      refine Reg.SeqE.new (fun δ W hW hkn K hK => ?_) ?_
      · simp only [Act.put, List.setIfInBounds_toArray, List.set_cons_zero, List.set_cons_succ] at hK
        unfold Reg.Does
        go_simp
        (with_reducible refine (H1.out W).mono ?_); rintro e w' ⟨⟨v, rfl, hv⟩, hb⟩
        exact hK _ _ hb ⟨fun _ => hv, fun e => absurd e (by decide)⟩
      simp only [Act.put, List.setIfInBounds_toArray, List.set_cons_zero, List.set_cons_succ, List.nil_append, List.cons_append, Nat.reduceAdd, Nat.zero_add]
      iterate 2
        apply Reg.SeqE.val
        rotate_left 2
        · intro δ W hW hkn K hK
          obtain ⟨hc, hf, _⟩ := Reg.kcell hW
          simp only [Act.put, List.setIfInBounds_toArray, List.set_cons_zero, List.set_cons_succ] at hK
          unfold Reg.Does
          go_simp
          try simp only [IntWalk.i64_left]
          first
            | exact hK _ (Below.refl _ _)
            | (trace_state; fail)
        rotate_left 1
        · intro δ δ' hd; first | rfl | (simp only [hd _ (show Reg.reach _ 12 _ _ = true by kernel_rfl)])
        · intro x w; first | exact trivial | (intro e; exact absurd e (by decide)) | exact ⟨fun e => absurd e (by decide), fun e => absurd e (by decide)⟩
        simp only [Act.put, List.setIfInBounds_toArray, List.set_cons_zero, List.set_cons_succ, List.nil_append, List.cons_append, Nat.reduceAdd, Nat.zero_add]
      refine Reg.SeqE.new (fun δ W hW hkn K hK => ?_) ?_
      · simp only [Act.put, List.setIfInBounds_toArray, List.set_cons_zero, List.set_cons_succ] at hK
        unfold Reg.Does
        go_simp
        (with_reducible refine (H4.out W).mono ?_); rintro e w' ⟨⟨v, rfl, hv⟩, hb⟩
        exact hK _ _ hb ⟨fun e => absurd e (by decide), fun _ => hv⟩
      simp only [Act.put, List.setIfInBounds_toArray, List.set_cons_zero, List.set_cons_succ, List.nil_append, List.cons_append, Nat.reduceAdd, Nat.zero_add]
      refine Reg.SeqE.new (fun δ W hW hkn K hK => ?_) ?_
      · have x2 := (hkn 2 (by kernel_rfl)).1 rfl
        have x5 : NumV W (δ 5) y2 := (hkn 5 (by kernel_rfl)).2 (.inl rfl)
        have Q := Lib.hid (timesV x2 x5 (by have := HD.out; omega) (by have := HD.out; omega))
        clear x2 x5
        simp only [Act.put, List.setIfInBounds_toArray, List.set_cons_zero, List.set_cons_succ] at hK
        unfold Reg.Does
        go_simp
        (with_reducible refine Q.out.mono ?_); rintro e w' ⟨⟨v, rfl, hv⟩, hb⟩
        exact hK _ _ hb ⟨fun e => absurd e (by decide), fun _ => hv⟩
      simp only [Act.put, List.setIfInBounds_toArray, List.set_cons_zero, List.set_cons_succ, List.nil_append, List.cons_append, Nat.reduceAdd, Nat.zero_add]
      refine Reg.SeqE.val (fun δ => δ 6) (fun δ δ' hd => hd 6 (by kernel_rfl)) (fun _ _ => ⟨fun e => absurd e (by decide), fun e => absurd e (by decide)⟩) (fun δ W hW hkn K hK => ?_) ?_
      · simp only [Act.put, List.setIfInBounds_toArray, List.set_cons_zero, List.set_cons_succ] at hK
        unfold Reg.Does
        go_simp
        exact hK _ (Below.refl _ _)
      simp only [Act.put, List.setIfInBounds_toArray, List.set_cons_zero, List.set_cons_succ, List.nil_append, List.cons_append, Nat.reduceAdd, Nat.zero_add]
      refine Reg.SeqE.nil (fun δ W hW hkn _ => ?_)
      have hn6 : NumV W (δ 6) (x1 * y2) := (hkn 6 (by decide)).2 (.inr rfl)
      have hb := keepN hW
      clear hkn hW
      generalize δ 2 = u2
      generalize δ 5 = u5
      generalize δ 6 = ua at *
      replace hT := hT.trans (hb.mono hT.size)
      replace kf := kf.keep hb
      replace kg := kg.keep hb
      clear ckf fkf zkf ckg fkg zkg
      obtain ⟨ckf, fkf, zkf⟩ := kf.facts
      obtain ⟨ckg, fkg, zkg⟩ := kg.facts
      have HA := Lib.hid hn6
      clear hn6 hb
      go_wp2_with fail
      refine Reg.wp_region_eff (fun _ => False) (cF x2 y1) (fun _ _ => True) (by kernel_rfl) (by kernel_rfl) cF_s (fun _ _ _ _ _ => trivial) trivial ?_
      simp only
      iterate 2
        apply Reg.SeqE.val
        rotate_left 2
        · intro δ W hW hkn K hK
          obtain ⟨hc, hf, _⟩ := Reg.kcell hW
          simp only [Act.put, List.setIfInBounds_toArray, List.set_cons_zero, List.set_cons_succ] at hK
          unfold Reg.Does
          go_simp
          try simp only [IntWalk.i64_left]
          first
            | exact hK _ (Below.refl _ _)
            | (trace_state; fail)
        rotate_left 1
        · intro δ δ' hd; first | rfl | (simp only [hd _ (show Reg.reach _ 12 _ _ = true by kernel_rfl)])
        · intro x w; first | exact trivial | (intro e; exact absurd e (by decide)) | exact ⟨fun e => absurd e (by decide), fun e => absurd e (by decide)⟩
        simp only [Act.put, List.setIfInBounds_toArray, List.set_cons_zero, List.set_cons_succ, List.nil_append, List.cons_append, Nat.reduceAdd, Nat.zero_add]
      refine Reg.SeqE.new (fun δ W hW hkn K hK => ?_) ?_
      · simp only [Act.put, List.setIfInBounds_toArray, List.set_cons_zero, List.set_cons_succ] at hK
        unfold Reg.Does
        go_simp
        (with_reducible refine (H3.out W).mono ?_); rintro e w' ⟨⟨v, rfl, hv⟩, hb⟩
        exact hK _ _ hb ⟨fun _ => hv, fun e => absurd e (by decide)⟩
      simp only [Act.put, List.setIfInBounds_toArray, List.set_cons_zero, List.set_cons_succ, List.nil_append, List.cons_append, Nat.reduceAdd, Nat.zero_add]
      iterate 2
        apply Reg.SeqE.val
        rotate_left 2
        · intro δ W hW hkn K hK
          obtain ⟨hc, hf, _⟩ := Reg.kcell hW
          simp only [Act.put, List.setIfInBounds_toArray, List.set_cons_zero, List.set_cons_succ] at hK
          unfold Reg.Does
          go_simp
          try simp only [IntWalk.i64_left]
          first
            | exact hK _ (Below.refl _ _)
            | (trace_state; fail)
        rotate_left 1
        · intro δ δ' hd; first | rfl | (simp only [hd _ (show Reg.reach _ 12 _ _ = true by kernel_rfl)])
        · intro x w; first | exact trivial | (intro e; exact absurd e (by decide)) | exact ⟨fun e => absurd e (by decide), fun e => absurd e (by decide)⟩
        simp only [Act.put, List.setIfInBounds_toArray, List.set_cons_zero, List.set_cons_succ, List.nil_append, List.cons_append, Nat.reduceAdd, Nat.zero_add]
      refine Reg.SeqE.new (fun δ W hW hkn K hK => ?_) ?_
      · simp only [Act.put, List.setIfInBounds_toArray, List.set_cons_zero, List.set_cons_succ] at hK
        unfold Reg.Does
        go_simp
        (with_reducible refine (H2.out W).mono ?_); rintro e w' ⟨⟨v, rfl, hv⟩, hb⟩
        exact hK _ _ hb ⟨fun e => absurd e (by decide), fun _ => hv⟩
      simp only [Act.put, List.setIfInBounds_toArray, List.set_cons_zero, List.set_cons_succ, List.nil_append, List.cons_append, Nat.reduceAdd, Nat.zero_add]
      refine Reg.SeqE.new (fun δ W hW hkn K hK => ?_) ?_
      · have x2 := (hkn 2 (by kernel_rfl)).1 rfl
        have x5 : NumV W (δ 5) y1 := (hkn 5 (by kernel_rfl)).2 (.inl rfl)
        have Q := Lib.hid (timesV x2 x5 (by have := HD.out; omega) (by have := HD.out; omega))
        clear x2 x5
        simp only [Act.put, List.setIfInBounds_toArray, List.set_cons_zero, List.set_cons_succ] at hK
        unfold Reg.Does
        go_simp
        (with_reducible refine Q.out.mono ?_); rintro e w' ⟨⟨v, rfl, hv⟩, hb⟩
        exact hK _ _ hb ⟨fun e => absurd e (by decide), fun _ => hv⟩
      simp only [Act.put, List.setIfInBounds_toArray, List.set_cons_zero, List.set_cons_succ, List.nil_append, List.cons_append, Nat.reduceAdd, Nat.zero_add]
      refine Reg.SeqE.val (fun δ => δ 6) (fun δ δ' hd => hd 6 (by kernel_rfl)) (fun _ _ => ⟨fun e => absurd e (by decide), fun e => absurd e (by decide)⟩) (fun δ W hW hkn K hK => ?_) ?_
      · simp only [Act.put, List.setIfInBounds_toArray, List.set_cons_zero, List.set_cons_succ] at hK
        unfold Reg.Does
        go_simp
        exact hK _ (Below.refl _ _)
      simp only [Act.put, List.setIfInBounds_toArray, List.set_cons_zero, List.set_cons_succ, List.nil_append, List.cons_append, Nat.reduceAdd, Nat.zero_add]
      refine Reg.SeqE.nil (fun δ W hW hkn _ => ?_)
      have hn6 : NumV W (δ 6) (x2 * y1) := (hkn 6 (by decide)).2 (.inr rfl)
      have hb := keepN hW
      clear hkn hW
      generalize δ 2 = u2
      generalize δ 5 = u5
      generalize δ 6 = ub at *
      replace hT := hT.trans (hb.mono hT.size)
      replace kf := kf.keep hb
      replace kg := kg.keep hb
      clear ckf fkf zkf ckg fkg zkg
      obtain ⟨ckf, fkf, zkf⟩ := kf.facts
      obtain ⟨ckg, fkg, zkg⟩ := kg.facts
      replace HA := Lib.hid (HA.out.below hb)
      have HBb := Lib.hid hn6
      clear hn6 hb
      have HL1 := Lib.hid (lessV HA.out HBb.out)
      go_wp2_with fail
      (with_reducible refine HL1.out.mono ?_); rintro e w2 ⟨rfl, hb⟩
      replace hT := hT.trans (hb.mono hT.size)
      replace HA := Lib.hid (HA.out.below hb)
      replace HBb := Lib.hid (HBb.out.below hb)
      clear hb HL1 ckf fkf zkf ckg fkg zkg
      have HL2 := Lib.hid (lessV HBb.out HA.out)
      have hk := HK.out
      generalize x1 * y2 = P at *
      generalize x2 * y1 = Q at *
      have HKq := Lib.hid hk
      clear hk HK
      by_cases hPQ : P < Q
      · have hd : decide (P < Q) = true := decide_eq_true hPQ
        go_wp2_with fail
        go_ret2
        refine ⟨?_, hT⟩
        rw [Hc.out, v1, v2, HKq.out]
        simp [of_decide_eq_false HS.out, cmpN, hPQ]
      · have hd : decide (P < Q) = false := decide_eq_false hPQ
        go_wp2_with fail
        (with_reducible refine HL2.out.mono ?_); rintro e w3 ⟨rfl, hb⟩
        replace hT := hT.trans (hb.mono hT.size)
        clear hb
        by_cases hQP : Q < P
        · have hd2 : decide (Q < P) = true := decide_eq_true hQP
          go_wp2_with fail
          go_ret2
          refine ⟨?_, hT⟩
          rw [Hc.out, v1, v2, HKq.out]
          simp [of_decide_eq_false HS.out, cmpN, hPQ, hQP]
        · have hd2 : decide (Q < P) = false := decide_eq_false hQP
          go_wp2_with fail
          go_ret2
          refine ⟨?_, hT⟩
          rw [Hc.out, v1, v2, HKq.out]
          simp [of_decide_eq_false HS.out, cmpN, hPQ, hQP]
  · have HK := Lib.hid (rcmp_diff v1 v2 hs)
    cases s1 : decide (n1 < 0)
    all_goals
      cases s2 : decide (n2 < 0)
    all_goals first | exact absurd (s1.trans s2.symm) hs | skip
    all_goals
      have HS := Lib.hid s1
      clear hs
      have hT := Below.refl w.heap.size w
      go_enter Try.func34, Try.ntmps34
      go_wp2_with fail
      first | (go_at_call 36; (with_reducible refine (rvalid_any _ _ _ ⟨by omega, by omega⟩ ⟨by omega, by omega⟩).mono ?_); rintro e w' ⟨rfl, hb⟩; first | (replace hT := (hT).trans (hb.mono hT.size); clear hb) | (replace hT := (hT.alloc hT.size _).trans (hb.mono (Nat.le_trans hT.size (by simp; try omega))); clear hb) | (replace hT := ((hT.alloc hT.size _).alloc (Nat.le_trans hT.size (by simp; try omega)) _).trans (hb.mono (Nat.le_trans hT.size (by simp; try omega))); obtain ⟨kf, kg⟩ := Reg.Blk.new2 hb; obtain ⟨ckf, fkf, zkf⟩ := Reg.Blk.facts kf; obtain ⟨ckg, fkg, zkg⟩ := Reg.Blk.facts kg; clear hb) | (replace hT := (((hT.alloc hT.size _).alloc (Nat.le_trans hT.size (by simp; try omega)) _).alloc (Nat.le_trans hT.size (by simp; try omega)) _).trans (hb.mono (Nat.le_trans hT.size (by simp; try omega))); clear hb) | (replace hT := ((((hT.alloc hT.size _).alloc (Nat.le_trans hT.size (by simp; try omega)) _).alloc (Nat.le_trans hT.size (by simp; try omega)) _).alloc (Nat.le_trans hT.size (by simp; try omega)) _).trans (hb.mono (Nat.le_trans hT.size (by simp; try omega))); clear hb) | (replace hT := (((((hT.alloc hT.size _).alloc (Nat.le_trans hT.size (by simp; try omega)) _).alloc (Nat.le_trans hT.size (by simp; try omega)) _).alloc (Nat.le_trans hT.size (by simp; try omega)) _).alloc (Nat.le_trans hT.size (by simp; try omega)) _).trans (hb.mono (Nat.le_trans hT.size (by simp; try omega))); clear hb))
      go_wp2_with (first | (go_at_call 36; (with_reducible refine (rvalid_any _ _ _ ⟨by omega, by omega⟩ ⟨by omega, by omega⟩).mono ?_); rintro e w' ⟨rfl, hb⟩; first | (replace hT := (hT).trans (hb.mono hT.size); replace kf := (kf).keep hb; clear ckf fkf zkf; obtain ⟨ckf, fkf, zkf⟩ := Reg.Blk.facts kf; replace kg := (kg).keep hb; clear ckg fkg zkg; obtain ⟨ckg, fkg, zkg⟩ := Reg.Blk.facts kg; clear hb) | (replace hT := (hT.alloc hT.size _).trans (hb.mono (Nat.le_trans hT.size (by simp; try omega))); replace kf := ((kf).alloc _).keep hb; clear ckf fkf zkf; obtain ⟨ckf, fkf, zkf⟩ := Reg.Blk.facts kf; replace kg := ((kg).alloc _).keep hb; clear ckg fkg zkg; obtain ⟨ckg, fkg, zkg⟩ := Reg.Blk.facts kg; clear hb) | (replace hT := ((hT.alloc hT.size _).alloc (Nat.le_trans hT.size (by simp; try omega)) _).trans (hb.mono (Nat.le_trans hT.size (by simp; try omega))); replace kf := (((kf).alloc _).alloc _).keep hb; clear ckf fkf zkf; obtain ⟨ckf, fkf, zkf⟩ := Reg.Blk.facts kf; replace kg := (((kg).alloc _).alloc _).keep hb; clear ckg fkg zkg; obtain ⟨ckg, fkg, zkg⟩ := Reg.Blk.facts kg; clear hb) | (replace hT := (((hT.alloc hT.size _).alloc (Nat.le_trans hT.size (by simp; try omega)) _).alloc (Nat.le_trans hT.size (by simp; try omega)) _).trans (hb.mono (Nat.le_trans hT.size (by simp; try omega))); replace kf := ((((kf).alloc _).alloc _).alloc _).keep hb; clear ckf fkf zkf; obtain ⟨ckf, fkf, zkf⟩ := Reg.Blk.facts kf; replace kg := ((((kg).alloc _).alloc _).alloc _).keep hb; clear ckg fkg zkg; obtain ⟨ckg, fkg, zkg⟩ := Reg.Blk.facts kg; clear hb) | (replace hT := ((((hT.alloc hT.size _).alloc (Nat.le_trans hT.size (by simp; try omega)) _).alloc (Nat.le_trans hT.size (by simp; try omega)) _).alloc (Nat.le_trans hT.size (by simp; try omega)) _).trans (hb.mono (Nat.le_trans hT.size (by simp; try omega))); replace kf := (((((kf).alloc _).alloc _).alloc _).alloc _).keep hb; clear ckf fkf zkf; obtain ⟨ckf, fkf, zkf⟩ := Reg.Blk.facts kf; replace kg := (((((kg).alloc _).alloc _).alloc _).alloc _).keep hb; clear ckg fkg zkg; obtain ⟨ckg, fkg, zkg⟩ := Reg.Blk.facts kg; clear hb) | (replace hT := (((((hT.alloc hT.size _).alloc (Nat.le_trans hT.size (by simp; try omega)) _).alloc (Nat.le_trans hT.size (by simp; try omega)) _).alloc (Nat.le_trans hT.size (by simp; try omega)) _).alloc (Nat.le_trans hT.size (by simp; try omega)) _).trans (hb.mono (Nat.le_trans hT.size (by simp; try omega))); replace kf := ((((((kf).alloc _).alloc _).alloc _).alloc _).alloc _).keep hb; clear ckf fkf zkf; obtain ⟨ckf, fkf, zkf⟩ := Reg.Blk.facts kf; replace kg := ((((((kg).alloc _).alloc _).alloc _).alloc _).alloc _).keep hb; clear ckg fkg zkg; obtain ⟨ckg, fkg, zkg⟩ := Reg.Blk.facts kg; clear hb)))
      go_ret2
      refine ⟨?_, hT⟩
      have hl := HS.out
      rw [Hc.out, v1, v2, HK.out]
      simp at hl
      simp [hl]

end G
end Go.Proofs.Ytjeapimjgojpoaa
