/- Net's law: a step executed; few steps. Printed by mkdo51.py. -/
import Derived.Test.YtklcpopnggiepaaNl
import Derived.Test.YtklcpopnggiepaaOn
set_option linter.unusedSimpArgs false
set_option linter.unusedVariables false
set_option maxRecDepth 100000
namespace Go.Proofs.Ytklcpopnggiepaa
open Go.RowKit
namespace N

def stepV (x : SV) : Value := .agg #[.int .i64 x.kind, .int .i64 x.a, .int .i64 x.b, .int .i64 x.n, .string (str x.text), .bool x.lost, .bool x.again]
def resV (x : RV) : Value := .agg #[.int .i64 x.err, .string (str x.text), .bool x.ok]
theorem Moved.bury {M M' : Nat → Prop} {w w' : World} {g : Nat} (h : Moved M M' w w') (hg : ¬ M g) (hlt : g < w.heap.size) : ¬ M' g := fun m => by
  rcases h.sub g m with m | m
  · exact hg m
  · omega
/-- A new block of the call's own is written. -/
theorem Tr.note {w0 W : World} {g : Nat} {d : Nt} {M : Nat → Prop} (h : Tr w0 g d M W) {k : Nat} (v : Value) (i : Nat) (hk : ¬ M k) (hl : w0.heap.size ≤ k) : Tr w0 g d M (W.setCell ⟨k, i, none⟩ v) := by
  obtain ⟨bq, bc, fq, fc, hd⟩ := h.at_
  have e : ∀ j, j ≠ k → (W.setCell ⟨k, i, none⟩ v).heap[j]? = W.heap[j]? := fun j hj => Below.heap_setCell _ _ _ _ hj
  exact ⟨h.few, ⟨bq, bc, fq, fc, hd.same (by simp) fun j m => e j fun ej => hk (ej ▸ m)⟩, h.low.setCell hl v⟩

set_option maxHeartbeats 4000000 in
theorem do_0 {w0 W : World} {g : Nat} {d : Nt} {M : Nat → Prop} (a b n : Int) (text : Tx) (lost again : Bool) (ha : B64 a) (hb : B64 b) (h : Tr w0 g d M W) :
    Calls Try.prog 18 #[.pointer (some ⟨g, 0, none⟩), .agg #[.int .i64 0, .int .i64 a, .int .i64 b, .int .i64 n, .string (str text), .bool lost, .bool again]] W fun e W' => e = .returned (.agg #[.int .i64 (send d a b text).1, .string (str []), .bool false]) ∧ ∃ M', Tr w0 g (send d a b text).2 M' W' ∧ Moved M M' W W' := by
  have Ha := Lib.hid ha
  have Hb := Lib.hid hb
  have hno : ¬ M (W.heap.size + 1) := fun m => by have := (h.lt _ m).2; omega
  have ha1 := Below.heap_alloc W (.cells #[.int .i64 0, .int .i64 a, .int .i64 b, .int .i64 n, .string (str text), .bool lost, .bool again] 46)
  have hal : Below W.heap.size W ((W.alloc (.cells #[.int .i64 0, .int .i64 a, .int .i64 b, .int .i64 n, .string (str text), .bool lost, .bool again] 46)).alloc (.cells #[.int .i64 0, .string { data := #[] }, .bool false] 43)) :=
    ((Below.refl _ _).alloc (Nat.le_refl _) _).alloc (by simp) _
  have hbk : Safe M (W.heap.size + 1) #[.int .i64 0, .string { data := #[] }, .bool false] 43 ((W.alloc (.cells #[.int .i64 0, .int .i64 a, .int .i64 b, .int .i64 n, .string (str text), .bool lost, .bool again] 46)).alloc (.cells #[.int .i64 0, .string { data := #[] }, .bool false] 43)) :=
    ⟨Reg.Blk.at1 _ _ rfl, hno⟩
  have Hno := Lib.hid hno
  have Hlw := Lib.hid h.low.size
  have Hbk := Lib.hid hbk
  have Hal := Lib.hid hal
  have hq := h.below hal
  have Q := Lib.hid (tr_send (w0 := w0) a b text Ha.out Hb.out hq)
  clear ha hb h ha1 hal hbk hq hno
  generalize hz : (send d a b text) = z at Q ⊢
  clear hz
  go_enter Try.func18, Try.ntmps18
  go_wp2_with fail
  (with_reducible refine Q.out.mono ?_); rintro e W2 ⟨rfl, M2, ht2, hm2⟩
  have s2 := Hbk.out.moved hm2
  obtain ⟨c0, f0, hlt⟩ := s2.blk.facts
  have S2 := Lib.hid s2
  have HT := Lib.hid ht2
  have HM := Lib.hid ((Moved.below Hal.out).trans hm2)
  clear s2 ht2 hm2 Q
  go_wp2
  have hu := (((Reg.Upd.refl S2.out.blk).set 0 (.int .i64 z.1)).set 1 (.string { data := #[] })).set 2 (.bool false)
  refine bodyPost_ret (results_cell_row rfl _ _ _ _ _ _ _ rfl hu.at_ Try.underlying43 rfl rfl) rfl ?_
  have hl : w0.heap.size ≤ W.heap.size + 1 := by have := Hlw.out; omega
  refine ⟨rfl, M2, (((HT.out.note _ _ S2.out.no hl).note _ _ S2.out.no hl).note _ _ S2.out.no hl), ?_⟩
  have hm := HM.out
  exact ⟨⟨hu.os.trans hm.keep.os, hu.tape.trans hm.keep.tape, hu.output.trans hm.keep.output, by rw [hu.size]; exact hm.keep.size, fun k hk m => (hu.far k (by omega)).trans (hm.keep.block k hk m)⟩, hm.sub⟩

set_option maxHeartbeats 4000000 in
theorem do_1 {w0 W : World} {g : Nat} {d : Nt} {M : Nat → Prop} (a b n : Int) (text : Tx) (lost again : Bool) (ha : B64 a) (hb : B64 b) (h : Tr w0 g d M W) :
    Calls Try.prog 18 #[.pointer (some ⟨g, 0, none⟩), .agg #[.int .i64 1, .int .i64 a, .int .i64 b, .int .i64 n, .string (str text), .bool lost, .bool again]] W fun e W' => e = .returned (.agg #[.int .i64 0, .string (str (deliver d a b n lost again).1.1), .bool (deliver d a b n lost again).1.2]) ∧ ∃ M', Tr w0 g (deliver d a b n lost again).2 M' W' ∧ Moved M M' W W' := by
  have Ha := Lib.hid ha
  have Hb := Lib.hid hb
  have hno : ¬ M (W.heap.size + 1) := fun m => by have := (h.lt _ m).2; omega
  have ha1 := Below.heap_alloc W (.cells #[.int .i64 1, .int .i64 a, .int .i64 b, .int .i64 n, .string (str text), .bool lost, .bool again] 46)
  have hal : Below W.heap.size W ((W.alloc (.cells #[.int .i64 1, .int .i64 a, .int .i64 b, .int .i64 n, .string (str text), .bool lost, .bool again] 46)).alloc (.cells #[.int .i64 0, .string { data := #[] }, .bool false] 43)) :=
    ((Below.refl _ _).alloc (Nat.le_refl _) _).alloc (by simp) _
  have hbk : Safe M (W.heap.size + 1) #[.int .i64 0, .string { data := #[] }, .bool false] 43 ((W.alloc (.cells #[.int .i64 1, .int .i64 a, .int .i64 b, .int .i64 n, .string (str text), .bool lost, .bool again] 46)).alloc (.cells #[.int .i64 0, .string { data := #[] }, .bool false] 43)) :=
    ⟨Reg.Blk.at1 _ _ rfl, hno⟩
  have Hno := Lib.hid hno
  have Hlw := Lib.hid h.low.size
  have Hbk := Lib.hid hbk
  have Hal := Lib.hid hal
  have hq := h.below hal
  have Q := Lib.hid (tr_deliver (w0 := w0) a b n lost again Ha.out Hb.out hq)
  clear ha hb h ha1 hal hbk hq hno
  generalize hz : (deliver d a b n lost again) = z at Q ⊢
  clear hz
  go_enter Try.func18, Try.ntmps18
  go_wp2_with fail
  (with_reducible refine Q.out.mono ?_); rintro e W2 ⟨rfl, M2, ht2, hm2⟩
  have s2 := Hbk.out.moved hm2
  obtain ⟨c0, f0, hlt⟩ := s2.blk.facts
  have S2 := Lib.hid s2
  have HT := Lib.hid ht2
  have HM := Lib.hid ((Moved.below Hal.out).trans hm2)
  clear s2 ht2 hm2 Q
  go_wp2
  have hu := (((Reg.Upd.refl S2.out.blk).set 0 (.int .i64 0)).set 1 (.string (str z.1.1))).set 2 (.bool z.1.2)
  refine bodyPost_ret (results_cell_row rfl _ _ _ _ _ _ _ rfl hu.at_ Try.underlying43 rfl rfl) rfl ?_
  have hl : w0.heap.size ≤ W.heap.size + 1 := by have := Hlw.out; omega
  refine ⟨rfl, M2, (((HT.out.note _ _ S2.out.no hl).note _ _ S2.out.no hl).note _ _ S2.out.no hl), ?_⟩
  have hm := HM.out
  exact ⟨⟨hu.os.trans hm.keep.os, hu.tape.trans hm.keep.tape, hu.output.trans hm.keep.output, by rw [hu.size]; exact hm.keep.size, fun k hk m => (hu.far k (by omega)).trans (hm.keep.block k hk m)⟩, hm.sub⟩

set_option maxHeartbeats 4000000 in
theorem do_2 {w0 W : World} {g : Nat} {d : Nt} {M : Nat → Prop} (a b n : Int) (text : Tx) (lost again : Bool) (ha : B64 a) (hb : B64 b) (h : Tr w0 g d M W) :
    Calls Try.prog 18 #[.pointer (some ⟨g, 0, none⟩), .agg #[.int .i64 2, .int .i64 a, .int .i64 b, .int .i64 n, .string (str text), .bool lost, .bool again]] W fun e W' => e = .returned (.agg #[.int .i64 (turn d a b true).1, .string (str []), .bool false]) ∧ ∃ M', Tr w0 g (turn d a b true).2 M' W' ∧ Moved M M' W W' := by
  have Ha := Lib.hid ha
  have Hb := Lib.hid hb
  have hno : ¬ M (W.heap.size + 1) := fun m => by have := (h.lt _ m).2; omega
  have ha1 := Below.heap_alloc W (.cells #[.int .i64 2, .int .i64 a, .int .i64 b, .int .i64 n, .string (str text), .bool lost, .bool again] 46)
  have hal : Below W.heap.size W ((W.alloc (.cells #[.int .i64 2, .int .i64 a, .int .i64 b, .int .i64 n, .string (str text), .bool lost, .bool again] 46)).alloc (.cells #[.int .i64 0, .string { data := #[] }, .bool false] 43)) :=
    ((Below.refl _ _).alloc (Nat.le_refl _) _).alloc (by simp) _
  have hbk : Safe M (W.heap.size + 1) #[.int .i64 0, .string { data := #[] }, .bool false] 43 ((W.alloc (.cells #[.int .i64 2, .int .i64 a, .int .i64 b, .int .i64 n, .string (str text), .bool lost, .bool again] 46)).alloc (.cells #[.int .i64 0, .string { data := #[] }, .bool false] 43)) :=
    ⟨Reg.Blk.at1 _ _ rfl, hno⟩
  have Hno := Lib.hid hno
  have Hlw := Lib.hid h.low.size
  have Hbk := Lib.hid hbk
  have Hal := Lib.hid hal
  have hq := h.below hal
  have Q := Lib.hid (tr_cut (w0 := w0) a b Ha.out Hb.out hq)
  clear ha hb h ha1 hal hbk hq hno
  generalize hz : (turn d a b true) = z at Q ⊢
  clear hz
  go_enter Try.func18, Try.ntmps18
  go_wp2_with fail
  (with_reducible refine Q.out.mono ?_); rintro e W2 ⟨rfl, M2, ht2, hm2⟩
  have s2 := Hbk.out.moved hm2
  obtain ⟨c0, f0, hlt⟩ := s2.blk.facts
  have S2 := Lib.hid s2
  have HT := Lib.hid ht2
  have HM := Lib.hid ((Moved.below Hal.out).trans hm2)
  clear s2 ht2 hm2 Q
  go_wp2
  have hu := (((Reg.Upd.refl S2.out.blk).set 0 (.int .i64 z.1)).set 1 (.string { data := #[] })).set 2 (.bool false)
  refine bodyPost_ret (results_cell_row rfl _ _ _ _ _ _ _ rfl hu.at_ Try.underlying43 rfl rfl) rfl ?_
  have hl : w0.heap.size ≤ W.heap.size + 1 := by have := Hlw.out; omega
  refine ⟨rfl, M2, (((HT.out.note _ _ S2.out.no hl).note _ _ S2.out.no hl).note _ _ S2.out.no hl), ?_⟩
  have hm := HM.out
  exact ⟨⟨hu.os.trans hm.keep.os, hu.tape.trans hm.keep.tape, hu.output.trans hm.keep.output, by rw [hu.size]; exact hm.keep.size, fun k hk m => (hu.far k (by omega)).trans (hm.keep.block k hk m)⟩, hm.sub⟩

set_option maxHeartbeats 4000000 in
theorem do_x {w0 W : World} {g : Nat} {d : Nt} {M : Nat → Prop} (kind a b n : Int) (text : Tx) (lost again : Bool) (hk : kind ≠ 0 ∧ kind ≠ 1 ∧ kind ≠ 2) (ha : B64 a) (hb : B64 b) (h : Tr w0 g d M W) :
    Calls Try.prog 18 #[.pointer (some ⟨g, 0, none⟩), .agg #[.int .i64 kind, .int .i64 a, .int .i64 b, .int .i64 n, .string (str text), .bool lost, .bool again]] W fun e W' => e = .returned (.agg #[.int .i64 (turn d a b false).1, .string (str []), .bool false]) ∧ ∃ M', Tr w0 g (turn d a b false).2 M' W' ∧ Moved M M' W W' := by
  have Ha := Lib.hid ha
  have Hb := Lib.hid hb
  have hno : ¬ M (W.heap.size + 1) := fun m => by have := (h.lt _ m).2; omega
  have ha1 := Below.heap_alloc W (.cells #[.int .i64 kind, .int .i64 a, .int .i64 b, .int .i64 n, .string (str text), .bool lost, .bool again] 46)
  have hal : Below W.heap.size W ((W.alloc (.cells #[.int .i64 kind, .int .i64 a, .int .i64 b, .int .i64 n, .string (str text), .bool lost, .bool again] 46)).alloc (.cells #[.int .i64 0, .string { data := #[] }, .bool false] 43)) :=
    ((Below.refl _ _).alloc (Nat.le_refl _) _).alloc (by simp) _
  have hbk : Safe M (W.heap.size + 1) #[.int .i64 0, .string { data := #[] }, .bool false] 43 ((W.alloc (.cells #[.int .i64 kind, .int .i64 a, .int .i64 b, .int .i64 n, .string (str text), .bool lost, .bool again] 46)).alloc (.cells #[.int .i64 0, .string { data := #[] }, .bool false] 43)) :=
    ⟨Reg.Blk.at1 _ _ rfl, hno⟩
  have Hno := Lib.hid hno
  have Hlw := Lib.hid h.low.size
  have Hbk := Lib.hid hbk
  have Hal := Lib.hid hal
  have hq := h.below hal
  have Q := Lib.hid (tr_heal (w0 := w0) a b Ha.out Hb.out hq)
  clear ha hb h ha1 hal hbk hq hno
  obtain ⟨k0, k1, k2⟩ := hk
  have k0 : (kind == 0) = false := by simpa using k0
  have k1 : (kind == 1) = false := by simpa using k1
  have k2 : (kind == 2) = false := by simpa using k2
  generalize hz : (turn d a b false) = z at Q ⊢
  clear hz
  go_enter Try.func18, Try.ntmps18
  go_wp2_with fail
  (with_reducible refine Q.out.mono ?_); rintro e W2 ⟨rfl, M2, ht2, hm2⟩
  have s2 := Hbk.out.moved hm2
  obtain ⟨c0, f0, hlt⟩ := s2.blk.facts
  have S2 := Lib.hid s2
  have HT := Lib.hid ht2
  have HM := Lib.hid ((Moved.below Hal.out).trans hm2)
  clear s2 ht2 hm2 Q
  go_wp2
  have hu := (((Reg.Upd.refl S2.out.blk).set 0 (.int .i64 z.1)).set 1 (.string { data := #[] })).set 2 (.bool false)
  refine bodyPost_ret (results_cell_row rfl _ _ _ _ _ _ _ rfl hu.at_ Try.underlying43 rfl rfl) rfl ?_
  have hl : w0.heap.size ≤ W.heap.size + 1 := by have := Hlw.out; omega
  refine ⟨rfl, M2, (((HT.out.note _ _ S2.out.no hl).note _ _ S2.out.no hl).note _ _ S2.out.no hl), ?_⟩
  have hm := HM.out
  exact ⟨⟨hu.os.trans hm.keep.os, hu.tape.trans hm.keep.tape, hu.output.trans hm.keep.output, by rw [hu.size]; exact hm.keep.size, fun k hk m => (hu.far k (by omega)).trans (hm.keep.block k hk m)⟩, hm.sub⟩


/-- The cells of a step. -/
theorem StepsAt.get {w : World} {A : Option Addr} {l : List SV} (h : StepsAt w A l) (i : Nat) (hi : i < l.length) : ∃ b off, A = some ⟨b, off, none⟩ ∧ b < w.heap.size ∧
    w.cell? ⟨b, off + i * 7, none⟩ = some (.int .i64 l[i].kind) ∧ w.cell? ⟨b, off + i * 7 + 1, none⟩ = some (.int .i64 l[i].a) ∧ w.cell? ⟨b, off + i * 7 + 2, none⟩ = some (.int .i64 l[i].b) ∧
    w.cell? ⟨b, off + i * 7 + 3, none⟩ = some (.int .i64 l[i].n) ∧ w.cell? ⟨b, off + i * 7 + 4, none⟩ = some (.string (str l[i].text)) ∧ w.cell? ⟨b, off + i * 7 + 5, none⟩ = some (.bool l[i].lost) ∧ w.cell? ⟨b, off + i * 7 + 6, none⟩ = some (.bool l[i].again) := by
  have := h i hi
  simp only [← Nat.add_assoc] at this
  exact this

theorem tr_do {w0 W : World} {g : Nat} {d : Nt} {M : Nat → Prop} (x : SV) (ha : B64 x.a) (hb : B64 x.b) (h : Tr w0 g d M W) :
    Calls Try.prog 18 #[.pointer (some ⟨g, 0, none⟩), stepV x] W fun e W' => e = .returned (resV (doN d x).1) ∧ ∃ M', Tr w0 g (doN d x).2 M' W' ∧ Moved M M' W W' := by
  obtain ⟨kind, a, b, n, text, lost, again⟩ := x
  simp only at ha hb
  unfold stepV resV doN
  by_cases k0 : kind = 0
  · subst k0
    simpa using do_0 a b n text lost again ha hb h
  · by_cases k1 : kind = 1
    · subst k1
      simpa using do_1 a b n text lost again ha hb h
    · by_cases k2 : kind = 2
      · subst k2
        simpa using do_2 a b n text lost again ha hb h
      · simpa [k0, k1, k2] using do_x kind a b n text lost again ⟨k0, k1, k2⟩ ha hb h

def fewS (l : List SV) : Bool := decide (l.length ≤ 150) && l.all fun x => decide (x.text.length ≤ 100)
theorem fewI {l : List SV} : fewS l = true ↔ l.length ≤ 150 ∧ ∀ x ∈ l, x.text.length ≤ 100 := by simp [fewS]
set_option maxHeartbeats 4000000 in
theorem few_ref (A : Option Addr) (c : Nat) (l : List SV) (w : World) (h : StepsAt w A l) (hl : l.length ≤ 9223372036854775807) :
    Calls Try.prog 27 #[.slice A l.length c] w fun e w' => e = .returned (.bool (fewS l)) ∧ Below w.heap.size w w' := by
  have H := Lib.hid h
  clear h
  by_cases hn : l.length ≤ 150
  · have hn' : (l.length : Int) ≤ 150 := by omega
    have Hn := Lib.hid hn
    go_enter Try.func27, Try.ntmps27
    go_wp2_with fail
    go_loopw [3] (fun i wr => ∃ k : Nat, k ≤ l.length ∧ i = .int .i64 k ∧ (∀ j (hj : j < l.length), j < k → l[j].text.length ≤ 100) ∧ Below w.heap.size w wr) (fun i _ => l.length - (intOf i).toNat)
    case atStart => exact ⟨0, Nat.zero_le _, rfl, fun j _ hj => absurd hj (by omega), Below.refl _ _⟩
    case round =>
      obtain ⟨k, hk, rfl, hall, hW⟩ := hrel
      have Hall := Lib.hid hall
      have HW := Lib.hid hW
      clear hall
      by_cases hlt : k < l.length
      · obtain ⟨b, off, hA, hlt1, c0, c1, c2, c3, c4, c5, c6⟩ := (H.out.below hW).get k hlt
        subst hA
        clear hW
        have hki : (k : Int) < (l.length : Int) := by omega
        have hk0 : (0 : Int) ≤ (k : Int) := by omega
        have hsz := str_size l[k].text
        by_cases hx : l[k].text.length ≤ 100
        · have Hx : Hid (∀ hj : k < l.length, (l.get ⟨k, hj⟩).text.length ≤ 100) := fun _ => hx
          have d1 : ¬ 100 < (str l[k].text).size := by omega
          have d2 : ¬ (100 : Int) < ((str l[k].text).size : Int) := by omega
          clear hsz hx
          generalize l[k] = x at *
          go_wp2
          refine ⟨⟨k + 1, by omega, by go_num, fun j hj hjk => ?_, HW.out⟩, by simp [intOf]; omega⟩
          rcases Nat.lt_or_ge j k with h1 | h1
          · exact Hall.out j hj h1
          · obtain rfl : j = k := by omega
            exact Hx.out hj
        · have hf : fewS l = false := by
            rw [Bool.eq_false_iff]
            intro hh
            exact hx ((fewI.1 hh).2 _ (List.getElem_mem hlt))
          have Hf := Lib.hid hf
          have d1 : 100 < (str l[k].text).size := by omega
          have d2 : (100 : Int) < ((str l[k].text).size : Int) := by omega
          clear hsz hf hx
          generalize l[k] = x at *
          go_wp2
          go_ret
          exact ⟨ret_bool Hf.out.symm, HW.out⟩
      · obtain rfl : k = l.length := by omega
        clear hW
        go_wp2
        go_ret
        refine ⟨ret_bool ?_, HW.out⟩
        symm
        rw [fewI]
        refine ⟨Hn.out, fun x hx => ?_⟩
        obtain ⟨j, hj, rfl⟩ := List.getElem_of_mem hx
        exact Hall.out j hj hj
  · have hn' : ¬ (l.length : Int) ≤ 150 := by omega
    have hf : fewS l = false := by
      rw [Bool.eq_false_iff]
      intro hh
      exact hn (fewI.1 hh).1
    have Hf := Lib.hid hf
    clear hf hn
    have hp : (0 : Int) < (l.length : Int) := by omega
    go_enter Try.func27, Try.ntmps27
    go_wp2
    go_loopw [3] (fun i wr => i = .int .i64 0 ∧ wr = w) (fun i _ => (intOf i).toNat)
    case atStart => exact ⟨rfl, rfl⟩
    case round =>
      obtain ⟨rfl, rfl⟩ := hrel
      go_wp2
      go_ret
      exact ⟨ret_bool (by rw [Hf.out]; simp; omega), Below.refl _ _⟩

theorem few_any (A : Option Addr) (c : Nat) (l : List SV) (w : World) (h : StepsAt w A l) (hl : l.length ≤ 9223372036854775807) :
    Calls Try.prog 16 #[.slice A l.length c] w fun e w' => e = .returned (.bool (fewS l)) ∧ Below w.heap.size w w' := by
  have Q := Lib.hid (few_ref A c l w h hl)
  clear h
  go_enter Try.func16, Try.ntmps16
  go_wp2_with fail
  (with_reducible refine Q.out.mono ?_); rintro e w1 ⟨rfl, hb⟩
  go_wp2
  go_ret
  exact ⟨rfl, hb⟩

theorem run_eql_res (x y : RV) (w : World) : (binOp .eql 43 (resV x) (resV y)).run Try.prog w = .ok (.bool (decide (x = y))) w := by
  obtain ⟨e1, t1, o1⟩ := x
  obtain ⟨e2, t2, o2⟩ := y
  unfold resV
  have e : ((str t1).toList == (str t2).toList) = (t1 == t2) := by rw [str_toList, str_toList]
  go_simp
  by_cases h1 : e1 = e2 <;> by_cases h2 : t1 = t2 <;> by_cases h3 : o1 = o2 <;> simp [h1, h2, h3]

end N
end Go.Proofs.Ytklcpopnggiepaa
