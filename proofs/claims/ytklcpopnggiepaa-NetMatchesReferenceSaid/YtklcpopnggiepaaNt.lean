/- Net's law: 'head'. -/
import Derived.Test.YtklcpopnggiepaaNl
set_option linter.unusedSimpArgs false
set_option linter.unusedVariables false
set_option maxRecDepth 100000
namespace Go.Proofs.Ytklcpopnggiepaa
open Go.RowKit
namespace N

def h0 : Nt := newN 3
def h1 : Nt := (send h0 0 1 [97]).2
def h2 : Nt := (send h1 0 1 [98]).2
def h3 : Nt := (deliver h2 0 1 0 false true).2
def h4 : Nt := (deliver h3 0 1 1 false false).2
def h5 : Nt := (deliver h4 0 1 0 true false).2
def h6 : Nt := (deliver h5 0 1 0 false false).2
def h7 : Nt := (turn h6 1 0 true).2
def h8 : Nt := (send h7 0 1 [99]).2
def h9 : Nt := (send h8 0 2 [100]).2
theorem r0 : (send h0 0 1 [97]).1 = 0 := by decide +kernel
theorem r1 : (send h1 0 1 [98]).1 = 0 := by decide +kernel
theorem r2 : (deliver h2 0 1 0 false true).1 = ([97], true) := by decide +kernel
theorem r3 : (deliver h3 0 1 1 false false).1 = ([98], true) := by decide +kernel
theorem r4 : (deliver h4 0 1 0 true false).1 = ([], false) := by decide +kernel
theorem r5 : (deliver h5 0 1 0 false false).1 = ([], false) := by decide +kernel
theorem r6 : (turn h6 1 0 true).1 = 0 := by decide +kernel
theorem r7 : (send h7 0 1 [99]).1 = 23 := by decide +kernel
theorem r8 : (send h8 0 2 [100]).1 = 0 := by decide +kernel
theorem r9 : waiting h9 0 2 = [[100]] := by decide +kernel
theorem b64 (n : Nat) (h : n < 1000) : B64 (n : Int) := by unfold B64; omega
theorem s97 : str [97] = { data := #[97] } := rfl
theorem s98 : str [98] = { data := #[98] } := rfl
theorem s_ : str [] = { data := #[] } := rfl
theorem b0 : B64 0 := by unfold B64; omega
theorem b1 : B64 1 := by unfold B64; omega
theorem b2 : B64 2 := by unfold B64; omega
theorem row_one (w : World) (t : Tx) : (w.alloc (.cells #[.string (str t)] 9)).ownsRow w.heap.size 9 1 (.slice (some ⟨w.heap.size, 0, none⟩) 1 1) 1 (sv [t]) :=
  ⟨rfl, .inr ⟨w.heap.size, 1, _, rfl, Nat.le_refl _, Reg.heap_new _ _, Nat.le_refl _, by unfold maxLen; omega, rfl, rfl⟩⟩

set_option maxHeartbeats 4000000 in
theorem head_any (w : World) : Calls Try.prog 10 #[] w fun e w' => e = .returned (.bool true) ∧ Below w.heap.size w w' := by
  have hnew := Lib.hid (tr_new (w0 := w) (W := w) 3 (by omega) (by omega) (Below.refl _ _))
  go_enter Try.func10, Try.ntmps10
  go_wp2_with fail
  refine hnew.out.mono ?_
  rintro e W0 ⟨g, M0, rfl, ht0, _, _⟩
  clear hnew
  have ht0 : Tr w g h0 M0 W0 := ht0
  have q0 := tr_send 0 1 [97] b0 b1 ht0
  rw [r0] at q0
  have Q := Lib.hid q0
  clear q0 ht0
  go_wp2_with fail
  refine Q.out.mono ?_
  rintro e W1 ⟨rfl, M1, ht, _⟩
  have ht1 : Tr w g h1 M1 W1 := ht
  clear Q ht
  have q1 := tr_send 0 1 [98] b0 b1 ht1
  rw [r1] at q1
  have Q := Lib.hid q1
  clear q1 ht1
  go_wp2_with fail
  refine Q.out.mono ?_
  rintro e W2 ⟨rfl, M2, ht, _⟩
  have ht2 : Tr w g h2 M2 W2 := ht
  clear Q ht
  have q2 := tr_deliver 0 1 0 false true b0 b1 ht2
  rw [r2] at q2
  simp only [s97, s98, s_] at q2
  have Q := Lib.hid q2
  clear q2 ht2
  go_wp2_with fail
  refine Q.out.mono ?_
  rintro e W3 ⟨rfl, M3, ht, _⟩
  have ht3 : Tr w g h3 M3 W3 := ht
  clear Q ht
  have q3 := tr_deliver 0 1 1 false false b0 b1 ht3
  rw [r3] at q3
  simp only [s97, s98, s_] at q3
  have Q := Lib.hid q3
  clear q3 ht3
  go_wp2_with fail
  refine Q.out.mono ?_
  rintro e W4 ⟨rfl, M4, ht, _⟩
  have ht4 : Tr w g h4 M4 W4 := ht
  clear Q ht
  have q4 := tr_deliver 0 1 0 true false b0 b1 ht4
  rw [r4] at q4
  simp only [s97, s98, s_] at q4
  have Q := Lib.hid q4
  clear q4 ht4
  go_wp2_with fail
  refine Q.out.mono ?_
  rintro e W5 ⟨rfl, M5, ht, _⟩
  have ht5 : Tr w g h5 M5 W5 := ht
  clear Q ht
  have q5 := tr_deliver 0 1 0 false false b0 b1 ht5
  rw [r5] at q5
  simp only [s97, s98, s_] at q5
  have Q := Lib.hid q5
  clear q5 ht5
  go_wp2_with fail
  refine Q.out.mono ?_
  rintro e W6 ⟨rfl, M6, ht, _⟩
  have ht6 : Tr w g h6 M6 W6 := ht
  clear Q ht
  have q6 := tr_cut 1 0 b1 b0 ht6
  rw [r6] at q6
  have Q := Lib.hid q6
  clear q6 ht6
  go_wp2_with fail
  refine Q.out.mono ?_
  rintro e W7 ⟨rfl, M7, ht, _⟩
  have ht7 : Tr w g h7 M7 W7 := ht
  clear Q ht
  have q7 := tr_send 0 1 [99] b0 b1 ht7
  rw [r7] at q7
  have Q := Lib.hid q7
  clear q7 ht7
  go_wp2_with fail
  refine Q.out.mono ?_
  rintro e W8 ⟨rfl, M8, ht, _⟩
  have ht8 : Tr w g h8 M8 W8 := ht
  clear Q ht
  have q8 := tr_send 0 2 [100] b0 b2 ht8
  rw [r8] at q8
  have Q := Lib.hid q8
  clear q8 ht8
  go_wp2_with fail
  refine Q.out.mono ?_
  rintro e W9 ⟨rfl, M9, ht, _⟩
  have ht9 : Tr w g h9 M9 W9 := ht
  clear Q ht
  have q9 := tr_waiting 0 2 b0 b2 ht9
  rw [r9] at q9
  have HT := Lib.hid ht9.low
  have Q := Lib.hid q9
  clear q9 ht9
  go_wp2_with fail
  refine Q.out.mono ?_
  rintro e W10 ⟨A, c, rfl, ho, hb⟩
  have k1 : (W10.alloc (.cells #[.string (str [100])] 9)).ownsRow W9.heap.size 9 1 (.slice A 1 c) 1 (sv [[100]]) := ho.alloc _
  have hs := Lib.hid (same_rows k1 (row_one W10 [100]) rfl rfl (by omega))
  have HB := Lib.hid hb
  clear k1 ho hb Q
  go_wp2_with fail
  refine hs.out.mono ?_
  rintro e W11 ⟨rfl, hb11⟩
  have HB11 := Lib.hid hb11
  clear hb11 hs
  go_wp2_with fail
  go_ret
  refine ⟨rfl, ?_⟩
  have h1 := (HT.out.trans (HB.out.mono HT.out.size)).alloc (Nat.le_trans HT.out.size HB.out.size) (.cells #[.string (str [100])] 9)
  exact h1.trans (HB11.out.mono (by simpa using h1.size))

end N
end Go.Proofs.Ytklcpopnggiepaa
