/- Disk's law: 'head'. (Written by mkhead52.py.) -/
import Derived.Test.YtopjekdhecikdaaDu
set_option linter.unusedSimpArgs false
set_option linter.unusedVariables false
set_option maxRecDepth 100000
namespace Go.Proofs.Ytopjekdhecikdaa
open Go.RowKit
namespace D

def tA : Tx := atext [97] false
def tB : Tx := atext [98] false
def t0 : Tx := atext [0] false
def tA2 : Tx := tA.drop 2
def tBA : Tx := [98, 98] ++ tA2
def tAB : Tx := [97, 98] ++ tA2
def tS : Tx := [115, 104, 111, 114, 116]
def h0 := newD 2
def h1 := (write h0 0 tA).2
def h2 := (sync h1).2
def h3 := (write h2 0 tB).2
def h4 := fail h3 0 2
def h5 := (sync h4).2
def h6 := start h5
def h7 := (write h6 1 tS).2
def g0 := newD 1
def g1 := (write g0 0 tA).2
def g2 := (sync g1).2
def g3 := rot g2 0 1 3
def g4 := (write g3 0 tB).2
def k0 := newD 1
def k1 := armD k0 1 1 2
def k2 := (write k1 0 tA).2
def k3 := (write k2 0 tB).2
def k4 := start k3

theorem fill_tA (W : World) : Calls Try.prog 28 #[.string ⟨#[97]⟩] W fun e W' => e = .returned (.string (str tA)) ∧ Below W.heap.size W W' := fill_any [97] W (by decide)
theorem fill_tB (W : World) : Calls Try.prog 28 #[.string ⟨#[98]⟩] W fun e W' => e = .returned (.string (str tB)) ∧ Below W.heap.size W W' := fill_any [98] W (by decide)
theorem fill_t0 (W : World) : Calls Try.prog 28 #[.string ⟨#[0]⟩] W fun e W' => e = .returned (.string (str t0)) ∧ Below W.heap.size W W' := fill_any [0] W (by decide)
theorem sz_tA : (str tA).size = 64 := by decide +kernel
theorem ex_tA : (str tA).extract 2 64 = str tA2 := by decide +kernel
theorem cat_BA : (⟨#[98, 98]⟩ : ByteArray) ++ str tA2 = str tBA := by decide +kernel
theorem cat_AB : (⟨#[97, 98]⟩ : ByteArray) ++ str tA2 = str tAB := by decide +kernel
theorem new_h0 {w0 W : World} (hb : Below w0.heap.size w0 W) : Calls Try.prog 13 #[.int .i64 2] W fun e W' => ∃ g, e = .returned (.pointer (some ⟨g, 0, none⟩)) ∧ Tr w0 2 0 g h0 W' := tr_new 2 (by omega) (by omega) hb
theorem s_h1 {w0 W : World} {g : Nat} (h : Tr w0 2 0 g h0 W) : Calls Try.prog 23 #[.pointer (some ⟨g, 0, none⟩), .int .i64 0, .string (str tA)] W fun e W' => e = .returned (.int .i64 0) ∧ Tr w0 2 1 g h1 W' := by
  have q := tr_write 0 tA h (by omega)
  rw [show (write h0 0 tA).1 = 0 from by decide +kernel] at q
  exact q
theorem s_h2 {w0 W : World} {g : Nat} (h : Tr w0 2 1 g h1 W) : Calls Try.prog 21 #[.pointer (some ⟨g, 0, none⟩)] W fun e W' => e = .returned (.int .i64 0) ∧ Tr w0 2 1 g h2 W' := by
  have q := tr_sync h (by omega)
  rw [show (sync h1).1 = 0 from by decide +kernel] at q
  exact q
theorem s_h3 {w0 W : World} {g : Nat} (h : Tr w0 2 1 g h2 W) : Calls Try.prog 23 #[.pointer (some ⟨g, 0, none⟩), .int .i64 0, .string (str tB)] W fun e W' => e = .returned (.int .i64 0) ∧ Tr w0 2 2 g h3 W' := by
  have q := tr_write 0 tB h (by omega)
  rw [show (write h2 0 tB).1 = 0 from by decide +kernel] at q
  exact q
theorem r_1 {w0 W : World} {g : Nat} (h : Tr w0 2 2 g h3 W) : Calls Try.prog 18 #[.pointer (some ⟨g, 0, none⟩), .int .i64 0] W fun e W' => e = .returned (.tuple #[.string (str tB), .int .i64 0]) ∧ Below W.heap.size W W' := by
  have q := tr_read 0 h (by omega)
  rw [show read h3 0 = (tB, 0) from by decide +kernel] at q
  exact q
theorem s_h4 {w0 W : World} {g : Nat} (h : Tr w0 2 2 g h3 W) : Calls Try.prog 25 #[.pointer (some ⟨g, 0, none⟩), .int .i64 0, .int .i64 2] W fun e W' => e = .returned (.tuple #[]) ∧ Tr w0 2 2 g h4 W' := by
  have q := tr_fail 0 2 h (by omega)
  exact q
theorem s_h5 {w0 W : World} {g : Nat} (h : Tr w0 2 2 g h4 W) : Calls Try.prog 21 #[.pointer (some ⟨g, 0, none⟩)] W fun e W' => e = .returned (.int .i64 21) ∧ Tr w0 2 2 g h5 W' := by
  have q := tr_sync h (by omega)
  rw [show (sync h4).1 = 21 from by decide +kernel] at q
  exact q
theorem s_h6 {w0 W : World} {g : Nat} (h : Tr w0 2 2 g h5 W) : Calls Try.prog 20 #[.pointer (some ⟨g, 0, none⟩)] W fun e W' => e = .returned (.tuple #[]) ∧ Tr w0 2 2 g h6 W' := by
  have q := tr_start h
  exact q
theorem r_2 {w0 W : World} {g : Nat} (h : Tr w0 2 2 g h6 W) : Calls Try.prog 18 #[.pointer (some ⟨g, 0, none⟩), .int .i64 0] W fun e W' => e = .returned (.tuple #[.string (str tBA), .int .i64 0]) ∧ Below W.heap.size W W' := by
  have q := tr_read 0 h (by omega)
  rw [show read h6 0 = (tBA, 0) from by decide +kernel] at q
  exact q
theorem r_3 {w0 W : World} {g : Nat} (h : Tr w0 2 2 g h6 W) : Calls Try.prog 18 #[.pointer (some ⟨g, 0, none⟩), .int .i64 1] W fun e W' => e = .returned (.tuple #[.string (str t0), .int .i64 0]) ∧ Below W.heap.size W W' := by
  have q := tr_read 1 h (by omega)
  rw [show read h6 1 = (t0, 0) from by decide +kernel] at q
  exact q
theorem r_4 {w0 W : World} {g : Nat} (h : Tr w0 2 2 g h6 W) : Calls Try.prog 18 #[.pointer (some ⟨g, 0, none⟩), .int .i64 2] W fun e W' => e = .returned (.tuple #[.string (str []), .int .i64 1]) ∧ Below W.heap.size W W' := by
  have q := tr_read 2 h (by omega)
  rw [show read h6 2 = ([], 1) from by decide +kernel] at q
  exact q
theorem s_h7 {w0 W : World} {g : Nat} (h : Tr w0 2 2 g h6 W) : Calls Try.prog 23 #[.pointer (some ⟨g, 0, none⟩), .int .i64 1, .string ⟨#[115, 104, 111, 114, 116]⟩] W fun e W' => e = .returned (.int .i64 1) ∧ Tr w0 2 3 g h7 W' := by
  have q := tr_write 1 tS h (by omega)
  rw [show (write h6 1 tS).1 = 1 from by decide +kernel] at q
  exact q
theorem new_g0 {w0 W : World} (hb : Below w0.heap.size w0 W) : Calls Try.prog 13 #[.int .i64 1] W fun e W' => ∃ g, e = .returned (.pointer (some ⟨g, 0, none⟩)) ∧ Tr w0 1 0 g g0 W' := tr_new 1 (by omega) (by omega) hb
theorem s_g1 {w0 W : World} {g : Nat} (h : Tr w0 1 0 g g0 W) : Calls Try.prog 23 #[.pointer (some ⟨g, 0, none⟩), .int .i64 0, .string (str tA)] W fun e W' => e = .returned (.int .i64 0) ∧ Tr w0 1 1 g g1 W' := by
  have q := tr_write 0 tA h (by omega)
  rw [show (write g0 0 tA).1 = 0 from by decide +kernel] at q
  exact q
theorem s_g2 {w0 W : World} {g : Nat} (h : Tr w0 1 1 g g1 W) : Calls Try.prog 21 #[.pointer (some ⟨g, 0, none⟩)] W fun e W' => e = .returned (.int .i64 0) ∧ Tr w0 1 1 g g2 W' := by
  have q := tr_sync h (by omega)
  rw [show (sync g1).1 = 0 from by decide +kernel] at q
  exact q
theorem s_g3 {w0 W : World} {g : Nat} (h : Tr w0 1 1 g g2 W) : Calls Try.prog 30 #[.pointer (some ⟨g, 0, none⟩), .int .i64 0, .int .i64 1, .int .i64 3] W fun e W' => e = .returned (.tuple #[]) ∧ Tr w0 1 1 g g3 W' := by
  have q := tr_rot 0 1 3 h (by omega)
  exact q
theorem r_5 {w0 W : World} {g : Nat} (h : Tr w0 1 1 g g3 W) : Calls Try.prog 18 #[.pointer (some ⟨g, 0, none⟩), .int .i64 0] W fun e W' => e = .returned (.tuple #[.string (str tAB), .int .i64 0]) ∧ Below W.heap.size W W' := by
  have q := tr_read 0 h (by omega)
  rw [show read g3 0 = (tAB, 0) from by decide +kernel] at q
  exact q
theorem s_g4 {w0 W : World} {g : Nat} (h : Tr w0 1 1 g g3 W) : Calls Try.prog 23 #[.pointer (some ⟨g, 0, none⟩), .int .i64 0, .string (str tB)] W fun e W' => e = .returned (.int .i64 0) ∧ Tr w0 1 2 g g4 W' := by
  have q := tr_write 0 tB h (by omega)
  rw [show (write g3 0 tB).1 = 0 from by decide +kernel] at q
  exact q
theorem raw_g4 {w0 W : World} {g : Nat} (h : Tr w0 1 2 g g4 W) : Calls Try.prog 31 #[.pointer (some ⟨g, 0, none⟩)] W fun e W' => e = .returned (.string (str tAB)) ∧ W = W' := by
  have q := tr_raw h (by omega)
  rw [show g4.st = tAB from by decide +kernel] at q
  exact q
theorem new_k0 {w0 W : World} (hb : Below w0.heap.size w0 W) : Calls Try.prog 13 #[.int .i64 1] W fun e W' => ∃ g, e = .returned (.pointer (some ⟨g, 0, none⟩)) ∧ Tr w0 1 0 g k0 W' := tr_new 1 (by omega) (by omega) hb
theorem s_k1 {w0 W : World} {g : Nat} (h : Tr w0 1 0 g k0 W) : Calls Try.prog 29 #[.pointer (some ⟨g, 0, none⟩), .int .i64 1, .int .i64 1, .int .i64 2] W fun e W' => e = .returned (.tuple #[]) ∧ Tr w0 1 0 g k1 W' := by
  have q := tr_arm 1 1 2 h (by omega)
  exact q
theorem s_k2 {w0 W : World} {g : Nat} (h : Tr w0 1 0 g k1 W) : Calls Try.prog 23 #[.pointer (some ⟨g, 0, none⟩), .int .i64 0, .string (str tA)] W fun e W' => e = .returned (.int .i64 0) ∧ Tr w0 1 1 g k2 W' := by
  have q := tr_write 0 tA h (by omega)
  rw [show (write k1 0 tA).1 = 0 from by decide +kernel] at q
  exact q
theorem s_k3 {w0 W : World} {g : Nat} (h : Tr w0 1 1 g k2 W) : Calls Try.prog 23 #[.pointer (some ⟨g, 0, none⟩), .int .i64 0, .string (str tB)] W fun e W' => e = .returned (.int .i64 21) ∧ Tr w0 1 2 g k3 W' := by
  have q := tr_write 0 tB h (by omega)
  rw [show (write k2 0 tB).1 = 21 from by decide +kernel] at q
  exact q
theorem s_k4 {w0 W : World} {g : Nat} (h : Tr w0 1 2 g k3 W) : Calls Try.prog 20 #[.pointer (some ⟨g, 0, none⟩)] W fun e W' => e = .returned (.tuple #[]) ∧ Tr w0 1 2 g k4 W' := by
  have q := tr_start h
  exact q
theorem r_6 {w0 W : World} {g : Nat} (h : Tr w0 1 2 g k4 W) : Calls Try.prog 18 #[.pointer (some ⟨g, 0, none⟩), .int .i64 0] W fun e W' => e = .returned (.tuple #[.string (str tBA), .int .i64 0]) ∧ Below W.heap.size W W' := by
  have q := tr_read 0 h (by omega)
  rw [show read k4 0 = (tBA, 0) from by decide +kernel] at q
  exact q
theorem new_0 (W : World) : Calls Try.prog 13 #[.int .i64 0] W fun e W' => e = .returned (.pointer none) ∧ W = W' := new_no 0 (by omega) W
theorem new_4001 (W : World) : Calls Try.prog 13 #[.int .i64 4001] W fun e W' => e = .returned (.pointer none) ∧ W = W' := new_no 4001 (by omega) W

set_option maxHeartbeats 40000000 in
set_option maxRecDepth 100000 in
theorem head_any (w : World) : Calls Try.prog 11 #[] w fun e w' => e = .returned (.bool true) ∧ Below w.heap.size w w' := by
  have f1 := sz_tA
  have f2 := ex_tA
  have f3 := cat_BA
  have f4 := cat_AB
  have f5 : (str []).toList.isEmpty = true := str_emp []
  go_enter Try.func11, Try.ntmps11
  have hT := Below.refl w.heap.size w
  go_wp2_with fail
  (with_reducible refine (new_h0 hT).mono ?_); rintro e w1 ⟨g_h0, rfl, ht'⟩; clear hT; have ht := ht'; clear ht'
  go_wp2_with fail
  (with_reducible refine (fill_tA _).mono ?_); rintro e w2 ⟨rfl, hb⟩; replace ht := ht.below hb; clear hb
  go_wp2_with fail
  (with_reducible refine (s_h1 ht).mono ?_); rintro e w3 ⟨rfl, ht'⟩; clear ht; have ht := ht'; clear ht'
  go_wp2_with fail
  (with_reducible refine (s_h2 ht).mono ?_); rintro e w4 ⟨rfl, ht'⟩; clear ht; have ht := ht'; clear ht'
  go_wp2_with fail
  (with_reducible refine (fill_tB _).mono ?_); rintro e w5 ⟨rfl, hb⟩; replace ht := ht.below hb; clear hb
  go_wp2_with fail
  (with_reducible refine (s_h3 ht).mono ?_); rintro e w6 ⟨rfl, ht'⟩; clear ht; have ht := ht'; clear ht'
  go_wp2_with fail
  (with_reducible refine (r_1 ht).mono ?_); rintro e w7 ⟨rfl, hb⟩; replace ht := ht.below hb; clear hb
  go_wp2_with fail
  (with_reducible refine (s_h4 ht).mono ?_); rintro e w8 ⟨rfl, ht'⟩; clear ht; have ht := ht'; clear ht'
  go_wp2_with fail
  (with_reducible refine (s_h5 ht).mono ?_); rintro e w9 ⟨rfl, ht'⟩; clear ht; have ht := ht'; clear ht'
  go_wp2_with fail
  (with_reducible refine (s_h6 ht).mono ?_); rintro e w10 ⟨rfl, ht'⟩; clear ht; have ht := ht'; clear ht'
  go_wp2_with fail
  (with_reducible refine (r_2 ht).mono ?_); rintro e w11 ⟨rfl, hb⟩; replace ht := ht.below hb; clear hb
  go_wp2_with fail
  (with_reducible refine (r_3 ht).mono ?_); rintro e w12 ⟨rfl, hb⟩; replace ht := ht.below hb; clear hb
  go_wp2_with fail
  (with_reducible refine (r_4 ht).mono ?_); rintro e w13 ⟨rfl, hb⟩; replace ht := ht.below hb; clear hb
  go_wp2_with fail
  (with_reducible refine (s_h7 ht).mono ?_); rintro e w14 ⟨rfl, ht'⟩; clear ht; have ht := ht'; clear ht'
  go_wp2_with fail
  (with_reducible refine (nil_fail _ _ _).mono ?_); rintro e w15 ⟨rfl, hb⟩; replace ht := ht.below hb; clear hb
  go_wp2_with fail
  (with_reducible refine (nil_start _).mono ?_); rintro e w16 ⟨rfl, hb⟩; replace ht := ht.below hb; clear hb
  go_wp2_with fail
  (with_reducible refine (nil_arm _ _ _ _).mono ?_); rintro e w17 ⟨rfl, hb⟩; replace ht := ht.below hb; clear hb
  go_wp2_with fail
  (with_reducible refine (nil_rot _ _ _ _).mono ?_); rintro e w18 ⟨rfl, hb⟩; replace ht := ht.below hb; clear hb
  go_wp2_with fail
  (with_reducible refine (new_g0 ht.low).mono ?_); rintro e w19 ⟨g_g0, rfl, ht'⟩; clear ht; have ht := ht'; clear ht'
  go_wp2_with fail
  (with_reducible refine (fill_tA _).mono ?_); rintro e w20 ⟨rfl, hb⟩; replace ht := ht.below hb; clear hb
  go_wp2_with fail
  (with_reducible refine (s_g1 ht).mono ?_); rintro e w21 ⟨rfl, ht'⟩; clear ht; have ht := ht'; clear ht'
  go_wp2_with fail
  (with_reducible refine (s_g2 ht).mono ?_); rintro e w22 ⟨rfl, ht'⟩; clear ht; have ht := ht'; clear ht'
  go_wp2_with fail
  (with_reducible refine (s_g3 ht).mono ?_); rintro e w23 ⟨rfl, ht'⟩; clear ht; have ht := ht'; clear ht'
  go_wp2_with fail
  (with_reducible refine (r_5 ht).mono ?_); rintro e w24 ⟨rfl, hb⟩; replace ht := ht.below hb; clear hb
  go_wp2_with fail
  (with_reducible refine (fill_tB _).mono ?_); rintro e w25 ⟨rfl, hb⟩; replace ht := ht.below hb; clear hb
  go_wp2_with fail
  (with_reducible refine (s_g4 ht).mono ?_); rintro e w26 ⟨rfl, ht'⟩; clear ht; have ht := ht'; clear ht'
  go_wp2_with fail
  (with_reducible refine (fill_tA _).mono ?_); rintro e w27 ⟨rfl, hb⟩; replace ht := ht.below hb; clear hb
  go_wp2_with fail
  (with_reducible refine (raw_g4 ht).mono ?_); rintro e w28 ⟨rfl, rfl⟩
  go_wp2_with fail
  (with_reducible refine (nil_raw _).mono ?_); rintro e w29 ⟨rfl, hb⟩; replace ht := ht.below hb; clear hb
  go_wp2_with fail
  (with_reducible refine (new_k0 ht.low).mono ?_); rintro e w30 ⟨g_k0, rfl, ht'⟩; clear ht; have ht := ht'; clear ht'
  go_wp2_with fail
  (with_reducible refine (s_k1 ht).mono ?_); rintro e w31 ⟨rfl, ht'⟩; clear ht; have ht := ht'; clear ht'
  go_wp2_with fail
  (with_reducible refine (fill_tA _).mono ?_); rintro e w32 ⟨rfl, hb⟩; replace ht := ht.below hb; clear hb
  go_wp2_with fail
  (with_reducible refine (s_k2 ht).mono ?_); rintro e w33 ⟨rfl, ht'⟩; clear ht; have ht := ht'; clear ht'
  go_wp2_with fail
  (with_reducible refine (fill_tB _).mono ?_); rintro e w34 ⟨rfl, hb⟩; replace ht := ht.below hb; clear hb
  go_wp2_with fail
  (with_reducible refine (s_k3 ht).mono ?_); rintro e w35 ⟨rfl, ht'⟩; clear ht; have ht := ht'; clear ht'
  go_wp2_with fail
  (with_reducible refine (s_k4 ht).mono ?_); rintro e w36 ⟨rfl, ht'⟩; clear ht; have ht := ht'; clear ht'
  go_wp2_with fail
  (with_reducible refine (r_6 ht).mono ?_); rintro e w37 ⟨rfl, hb⟩; replace ht := ht.below hb; clear hb
  go_wp2_with fail
  (with_reducible refine (fill_tA _).mono ?_); rintro e w38 ⟨rfl, hb⟩; replace ht := ht.below hb; clear hb
  go_wp2_with fail
  (with_reducible refine (fill_tB _).mono ?_); rintro e w39 ⟨rfl, hb⟩; replace ht := ht.below hb; clear hb
  go_wp2_with fail
  (with_reducible refine (fill_tA _).mono ?_); rintro e w40 ⟨rfl, hb⟩; replace ht := ht.below hb; clear hb
  go_wp2_with fail
  (with_reducible refine (fill_t0 _).mono ?_); rintro e w41 ⟨rfl, hb⟩; replace ht := ht.below hb; clear hb
  go_wp2_with fail
  (with_reducible refine (nil_sync _).mono ?_); rintro e w42 ⟨rfl, hb⟩; replace ht := ht.below hb; clear hb
  go_wp2_with fail
  (with_reducible refine (fill_tA _).mono ?_); rintro e w43 ⟨rfl, hb⟩; replace ht := ht.below hb; clear hb
  go_wp2_with fail
  (with_reducible refine (nil_write _ _ _).mono ?_); rintro e w44 ⟨rfl, hb⟩; replace ht := ht.below hb; clear hb
  go_wp2_with fail
  (with_reducible refine (new_0 _).mono ?_); rintro e w45 ⟨rfl, rfl⟩
  go_wp2_with fail
  (with_reducible refine (new_4001 _).mono ?_); rintro e w46 ⟨rfl, rfl⟩
  go_wp2
  go_ret
  exact ⟨rfl, ht.low⟩

end D
end Go.Proofs.Ytopjekdhecikdaa
