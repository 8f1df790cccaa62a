/- The reference network: Do. Printed by mkrdo51.py. -/
import Derived.Test.YtklcpopnggiepaaRd
set_option linter.unusedSimpArgs false
set_option linter.unusedVariables false
set_option maxRecDepth 100000
namespace Go.Proofs.Ytklcpopnggiepaa
open Go.RowKit
namespace N

set_option maxHeartbeats 4000000 in
theorem rdo_0 {W : World} {B g : Nat} {M : Nat → Prop} {d : Nt} {R : Rf} (a b n : Int) (text : Tx) (lost again : Bool) (h : RefAt W B M g R) (hB : B ≤ W.heap.size) (ha : Agree d R) (hn : R.ms.length ≤ 50000) (hg : R.gone.length ≤ 50000) :
    Calls Try.prog 19 #[.pointer (some ⟨g, 0, none⟩), .agg #[.int .i64 0, .int .i64 a, .int .i64 b, .int .i64 n, .string (str text), .bool lost, .bool again]] W fun e W' => e = .returned (.agg #[.int .i64 (send d a b text).1, .string (str []), .bool false]) ∧ ∃ R', Agree (send d a b text).2 R' ∧ R'.ms.length ≤ R.ms.length + 1 ∧ R'.gone.length ≤ R.gone.length + 1 ∧ RPost W B M g R' W' := by
  have hno : ¬ M (W.heap.size + 1) := fun m => by obtain ⟨_, _, hi⟩ := h; have := (hi.bb _ m).2; omega
  have hal : Below W.heap.size W ((W.alloc (.cells #[.int .i64 0, .int .i64 a, .int .i64 b, .int .i64 n, .string (str text), .bool lost, .bool again] 46)).alloc (.cells #[.int .i64 0, .string { data := #[] }, .bool false] 43)) := ((Below.refl _ _).alloc (Nat.le_refl _) _).alloc (by simp) _
  have hbk : Safe M (W.heap.size + 1) #[.int .i64 0, .string { data := #[] }, .bool false] 43 ((W.alloc (.cells #[.int .i64 0, .int .i64 a, .int .i64 b, .int .i64 n, .string (str text), .bool lost, .bool again] 46)).alloc (.cells #[.int .i64 0, .string { data := #[] }, .bool false] 43)) := ⟨Reg.Blk.at1 _ _ rfl, hno⟩
  have Hno := Lib.hid hno
  have Hbk := Lib.hid hbk
  have Hal := Lib.hid hal
  have Q := Lib.hid (rsend_any a b text _ (h.below hal) (Nat.le_trans hB hal.size) ha hn hg)
  clear h hal hbk hno
  generalize hz : (send d a b text) = z at Q ⊢
  clear hz
  go_enter Try.func19, Try.ntmps19
  go_wp2_with fail
  (with_reducible refine Q.out.mono ?_); rintro e W2 ⟨rfl, R', hag, hs1, hs2, M2, ⟨lv, gv, hi⟩, hm2⟩
  have s2 := Hbk.out.moved hm2
  obtain ⟨c0, f0, hlt⟩ := s2.blk.facts
  have S2 := Lib.hid s2
  have HI := Lib.hid hi
  have HAG := Lib.hid hag
  have HM := Lib.hid ((Moved.below Hal.out).trans hm2)
  clear s2 hi hm2 Q hag
  go_wp2
  have hu := (((Reg.Upd.refl S2.out.blk).set 0 (.int .i64 z.1)).set 1 (.string { data := #[] })).set 2 (.bool false)
  refine bodyPost_ret (results_cell_row rfl _ _ _ _ _ _ _ rfl hu.at_ Try.underlying43 rfl rfl) rfl ?_
  have hm := HM.out
  refine ⟨rfl, R', HAG.out, hs1, hs2, M2, ⟨lv, gv, HI.out.same (Nat.le_of_eq hu.size.symm) fun k m => hu.far k fun e => S2.out.no (e ▸ m)⟩, ?_⟩
  exact ⟨⟨hu.os.trans hm.keep.os, hu.tape.trans hm.keep.tape, hu.output.trans hm.keep.output, by rw [hu.size]; exact hm.keep.size, fun k hk m => (hu.far k (by omega)).trans (hm.keep.block k hk m)⟩, hm.sub⟩

set_option maxHeartbeats 4000000 in
theorem rdo_1 {W : World} {B g : Nat} {M : Nat → Prop} {d : Nt} {R : Rf} (a b n : Int) (text : Tx) (lost again : Bool) (h : RefAt W B M g R) (hB : B ≤ W.heap.size) (ha : Agree d R) (hn : R.ms.length ≤ 50000) (hg : R.gone.length ≤ 50000) :
    Calls Try.prog 19 #[.pointer (some ⟨g, 0, none⟩), .agg #[.int .i64 1, .int .i64 a, .int .i64 b, .int .i64 n, .string (str text), .bool lost, .bool again]] W fun e W' => e = .returned (.agg #[.int .i64 0, .string (str (deliver d a b n lost again).1.1), .bool (deliver d a b n lost again).1.2]) ∧ ∃ R', Agree (deliver d a b n lost again).2 R' ∧ R'.ms.length ≤ R.ms.length + 1 ∧ R'.gone.length ≤ R.gone.length + 1 ∧ RPost W B M g R' W' := by
  have hno : ¬ M (W.heap.size + 1) := fun m => by obtain ⟨_, _, hi⟩ := h; have := (hi.bb _ m).2; omega
  have hal : Below W.heap.size W ((W.alloc (.cells #[.int .i64 1, .int .i64 a, .int .i64 b, .int .i64 n, .string (str text), .bool lost, .bool again] 46)).alloc (.cells #[.int .i64 0, .string { data := #[] }, .bool false] 43)) := ((Below.refl _ _).alloc (Nat.le_refl _) _).alloc (by simp) _
  have hbk : Safe M (W.heap.size + 1) #[.int .i64 0, .string { data := #[] }, .bool false] 43 ((W.alloc (.cells #[.int .i64 1, .int .i64 a, .int .i64 b, .int .i64 n, .string (str text), .bool lost, .bool again] 46)).alloc (.cells #[.int .i64 0, .string { data := #[] }, .bool false] 43)) := ⟨Reg.Blk.at1 _ _ rfl, hno⟩
  have Hno := Lib.hid hno
  have Hbk := Lib.hid hbk
  have Hal := Lib.hid hal
  have Q := Lib.hid (rdeliver_any a b n lost again _ (h.below hal) (Nat.le_trans hB hal.size) ha hn hg)
  clear h hal hbk hno
  generalize hz : (deliver d a b n lost again) = z at Q ⊢
  clear hz
  go_enter Try.func19, Try.ntmps19
  go_wp2_with fail
  (with_reducible refine Q.out.mono ?_); rintro e W2 ⟨rfl, R', hag, hs1, hs2, M2, ⟨lv, gv, hi⟩, hm2⟩
  have s2 := Hbk.out.moved hm2
  obtain ⟨c0, f0, hlt⟩ := s2.blk.facts
  have S2 := Lib.hid s2
  have HI := Lib.hid hi
  have HAG := Lib.hid hag
  have HM := Lib.hid ((Moved.below Hal.out).trans hm2)
  clear s2 hi hm2 Q hag
  go_wp2
  have hu := (((Reg.Upd.refl S2.out.blk).set 0 (.int .i64 0)).set 1 (.string (str z.1.1))).set 2 (.bool z.1.2)
  refine bodyPost_ret (results_cell_row rfl _ _ _ _ _ _ _ rfl hu.at_ Try.underlying43 rfl rfl) rfl ?_
  have hm := HM.out
  refine ⟨rfl, R', HAG.out, hs1, hs2, M2, ⟨lv, gv, HI.out.same (Nat.le_of_eq hu.size.symm) fun k m => hu.far k fun e => S2.out.no (e ▸ m)⟩, ?_⟩
  exact ⟨⟨hu.os.trans hm.keep.os, hu.tape.trans hm.keep.tape, hu.output.trans hm.keep.output, by rw [hu.size]; exact hm.keep.size, fun k hk m => (hu.far k (by omega)).trans (hm.keep.block k hk m)⟩, hm.sub⟩

set_option maxHeartbeats 4000000 in
theorem rdo_2 {W : World} {B g : Nat} {M : Nat → Prop} {d : Nt} {R : Rf} (a b n : Int) (text : Tx) (lost again : Bool) (h : RefAt W B M g R) (hB : B ≤ W.heap.size) (ha : Agree d R) (hn : R.ms.length ≤ 50000) (hg : R.gone.length ≤ 50000) :
    Calls Try.prog 19 #[.pointer (some ⟨g, 0, none⟩), .agg #[.int .i64 2, .int .i64 a, .int .i64 b, .int .i64 n, .string (str text), .bool lost, .bool again]] W fun e W' => e = .returned (.agg #[.int .i64 (turn d a b true).1, .string (str []), .bool false]) ∧ ∃ R', Agree (turn d a b true).2 R' ∧ R'.ms.length ≤ R.ms.length + 1 ∧ R'.gone.length ≤ R.gone.length + 1 ∧ RPost W B M g R' W' := by
  have hno : ¬ M (W.heap.size + 1) := fun m => by obtain ⟨_, _, hi⟩ := h; have := (hi.bb _ m).2; omega
  have hal : Below W.heap.size W ((W.alloc (.cells #[.int .i64 2, .int .i64 a, .int .i64 b, .int .i64 n, .string (str text), .bool lost, .bool again] 46)).alloc (.cells #[.int .i64 0, .string { data := #[] }, .bool false] 43)) := ((Below.refl _ _).alloc (Nat.le_refl _) _).alloc (by simp) _
  have hbk : Safe M (W.heap.size + 1) #[.int .i64 0, .string { data := #[] }, .bool false] 43 ((W.alloc (.cells #[.int .i64 2, .int .i64 a, .int .i64 b, .int .i64 n, .string (str text), .bool lost, .bool again] 46)).alloc (.cells #[.int .i64 0, .string { data := #[] }, .bool false] 43)) := ⟨Reg.Blk.at1 _ _ rfl, hno⟩
  have Hno := Lib.hid hno
  have Hbk := Lib.hid hbk
  have Hal := Lib.hid hal
  have Q := Lib.hid (rcutline_any a b _ (h.below hal) (Nat.le_trans hB hal.size) ha hn hg)
  clear h hal hbk hno
  generalize hz : (turn d a b true) = z at Q ⊢
  clear hz
  go_enter Try.func19, Try.ntmps19
  go_wp2_with fail
  (with_reducible refine Q.out.mono ?_); rintro e W2 ⟨rfl, R', hag, hs1, hs2, M2, ⟨lv, gv, hi⟩, hm2⟩
  have s2 := Hbk.out.moved hm2
  obtain ⟨c0, f0, hlt⟩ := s2.blk.facts
  have S2 := Lib.hid s2
  have HI := Lib.hid hi
  have HAG := Lib.hid hag
  have HM := Lib.hid ((Moved.below Hal.out).trans hm2)
  clear s2 hi hm2 Q hag
  go_wp2
  have hu := (((Reg.Upd.refl S2.out.blk).set 0 (.int .i64 z.1)).set 1 (.string { data := #[] })).set 2 (.bool false)
  refine bodyPost_ret (results_cell_row rfl _ _ _ _ _ _ _ rfl hu.at_ Try.underlying43 rfl rfl) rfl ?_
  have hm := HM.out
  refine ⟨rfl, R', HAG.out, hs1, hs2, M2, ⟨lv, gv, HI.out.same (Nat.le_of_eq hu.size.symm) fun k m => hu.far k fun e => S2.out.no (e ▸ m)⟩, ?_⟩
  exact ⟨⟨hu.os.trans hm.keep.os, hu.tape.trans hm.keep.tape, hu.output.trans hm.keep.output, by rw [hu.size]; exact hm.keep.size, fun k hk m => (hu.far k (by omega)).trans (hm.keep.block k hk m)⟩, hm.sub⟩

set_option maxHeartbeats 4000000 in
theorem rdo_x {W : World} {B g : Nat} {M : Nat → Prop} {d : Nt} {R : Rf} (kind a b n : Int) (text : Tx) (lost again : Bool) (hk : kind ≠ 0 ∧ kind ≠ 1 ∧ kind ≠ 2) (h : RefAt W B M g R) (hB : B ≤ W.heap.size) (ha : Agree d R) (hn : R.ms.length ≤ 50000) (hg : R.gone.length ≤ 50000) :
    Calls Try.prog 19 #[.pointer (some ⟨g, 0, none⟩), .agg #[.int .i64 kind, .int .i64 a, .int .i64 b, .int .i64 n, .string (str text), .bool lost, .bool again]] W fun e W' => e = .returned (.agg #[.int .i64 (turn d a b false).1, .string (str []), .bool false]) ∧ ∃ R', Agree (turn d a b false).2 R' ∧ R'.ms.length ≤ R.ms.length + 1 ∧ R'.gone.length ≤ R.gone.length + 1 ∧ RPost W B M g R' W' := by
  have hno : ¬ M (W.heap.size + 1) := fun m => by obtain ⟨_, _, hi⟩ := h; have := (hi.bb _ m).2; omega
  have hal : Below W.heap.size W ((W.alloc (.cells #[.int .i64 kind, .int .i64 a, .int .i64 b, .int .i64 n, .string (str text), .bool lost, .bool again] 46)).alloc (.cells #[.int .i64 0, .string { data := #[] }, .bool false] 43)) := ((Below.refl _ _).alloc (Nat.le_refl _) _).alloc (by simp) _
  have hbk : Safe M (W.heap.size + 1) #[.int .i64 0, .string { data := #[] }, .bool false] 43 ((W.alloc (.cells #[.int .i64 kind, .int .i64 a, .int .i64 b, .int .i64 n, .string (str text), .bool lost, .bool again] 46)).alloc (.cells #[.int .i64 0, .string { data := #[] }, .bool false] 43)) := ⟨Reg.Blk.at1 _ _ rfl, hno⟩
  have Hno := Lib.hid hno
  have Hbk := Lib.hid hbk
  have Hal := Lib.hid hal
  have Q := Lib.hid (rheal_any a b _ (h.below hal) (Nat.le_trans hB hal.size) ha hn hg)
  clear h hal hbk hno
  obtain ⟨k0, k1, k2⟩ := hk
  have k0 : (kind == 0) = false := by simpa using k0
  have k1 : (kind == 1) = false := by simpa using k1
  have k2 : (kind == 2) = false := by simpa using k2
  generalize hz : (turn d a b false) = z at Q ⊢
  clear hz
  go_enter Try.func19, Try.ntmps19
  go_wp2_with fail
  (with_reducible refine Q.out.mono ?_); rintro e W2 ⟨rfl, R', hag, hs1, hs2, M2, ⟨lv, gv, hi⟩, hm2⟩
  have s2 := Hbk.out.moved hm2
  obtain ⟨c0, f0, hlt⟩ := s2.blk.facts
  have S2 := Lib.hid s2
  have HI := Lib.hid hi
  have HAG := Lib.hid hag
  have HM := Lib.hid ((Moved.below Hal.out).trans hm2)
  clear s2 hi hm2 Q hag
  go_wp2
  have hu := (((Reg.Upd.refl S2.out.blk).set 0 (.int .i64 z.1)).set 1 (.string { data := #[] })).set 2 (.bool false)
  refine bodyPost_ret (results_cell_row rfl _ _ _ _ _ _ _ rfl hu.at_ Try.underlying43 rfl rfl) rfl ?_
  have hm := HM.out
  refine ⟨rfl, R', HAG.out, hs1, hs2, M2, ⟨lv, gv, HI.out.same (Nat.le_of_eq hu.size.symm) fun k m => hu.far k fun e => S2.out.no (e ▸ m)⟩, ?_⟩
  exact ⟨⟨hu.os.trans hm.keep.os, hu.tape.trans hm.keep.tape, hu.output.trans hm.keep.output, by rw [hu.size]; exact hm.keep.size, fun k hk m => (hu.far k (by omega)).trans (hm.keep.block k hk m)⟩, hm.sub⟩

theorem rdo_any {W : World} {B g : Nat} {M : Nat → Prop} {d : Nt} {R : Rf} (x : SV) (h : RefAt W B M g R) (hB : B ≤ W.heap.size) (ha : Agree d R) (hn : R.ms.length ≤ 50000) (hg : R.gone.length ≤ 50000) :
    Calls Try.prog 19 #[.pointer (some ⟨g, 0, none⟩), stepV x] W fun e W' => e = .returned (resV (doN d x).1) ∧ ∃ R', Agree (doN d x).2 R' ∧ R'.ms.length ≤ R.ms.length + 1 ∧ R'.gone.length ≤ R.gone.length + 1 ∧ RPost W B M g R' W' := by
  obtain ⟨kind, a, b, n, text, lost, again⟩ := x
  unfold stepV resV doN
  by_cases k0 : kind = 0
  · subst k0
    simpa using rdo_0 a b n text lost again h hB ha hn hg
  · by_cases k1 : kind = 1
    · subst k1
      simpa using rdo_1 a b n text lost again h hB ha hn hg
    · by_cases k2 : kind = 2
      · subst k2
        simpa using rdo_2 a b n text lost again h hB ha hn hg
      · simpa [k0, k1, k2] using rdo_x kind a b n text lost again ⟨k0, k1, k2⟩ h hB ha hn hg

end N
end Go.Proofs.Ytklcpopnggiepaa
