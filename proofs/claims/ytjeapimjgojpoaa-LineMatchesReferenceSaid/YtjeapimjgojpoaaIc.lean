/- Lines: 'spots'. -/
import Derived.Test.YtjeapimjgojpoaaIb
import Derived.Test.YtjeapimjgojpoaaRif
import Derived.RangeFuncNested
import Derived.RangeFuncBound
import Derived.RangeFuncCalls
import Derived.RangeFuncLeaves
import Derived.Shelf.Abstract
import Derived.Shelf.RegionOpen
import Derived.OwnWalkIn
import Derived.TacticsInMore
import Derived.LoopNIn
import Derived.LoopIn
set_option linter.unusedSimpArgs false
set_option linter.unusedVariables false
set_option maxRecDepth 100000
namespace Go.Proofs.Ytjeapimjgojpoaa
open Go.RowKit Go.Shelf
namespace G

def uptoL {α : Type} (f : Nat → α) (k : Nat) : List α := (List.range k).map f
theorem uptoL_succ {α : Type} (f : Nat → α) (k : Nat) : uptoL f (k + 1) = uptoL f k ++ [f k] := by simp [uptoL, List.range_succ]
theorem uptoL_length {α : Type} (f : Nat → α) (k : Nat) : (uptoL f k).length = k := by simp [uptoL]
/-- The place that is nearest on a segment. -/
def spotI (l : List P2) (px py : Int) (k : Nat) : Spt :=
  ⟨k, (footI px py (pt l k).1 (pt l k).2 (pt l (k + 1)).1 (pt l (k + 1)).2).1.1, (footI px py (pt l k).1 (pt l k).2 (pt l (k + 1)).1 (pt l (k + 1)).2).1.2.1, turnI (pt l k).1 (pt l k).2 (pt l (k + 1)).1 (pt l (k + 1)).2 px py,
    (footI px py (pt l k).1 (pt l k).2 (pt l (k + 1)).1 (pt l (k + 1)).2).2.1, (footI px py (pt l k).1 (pt l k).2 (pt l (k + 1)).1 (pt l (k + 1)).2).2.2.1⟩
abbrev SB := { s : Spt // s.B }
theorem keepK {M : Nat → Prop} {a b c : World} (h : Reg.Keep M a b) (k : Reg.Keep M b c) : Reg.Keep M a c :=
  ⟨k.os.trans h.os, k.tape.trans h.tape, k.output.trans h.output, Nat.le_trans h.size k.size, fun i hi hm => (k.block i (Nat.lt_of_lt_of_le hi h.size) hm).trans (h.block i hi hm)⟩
theorem blkK {M : Nat → Prop} {g : Nat} {C : Array Value} {T : TypeId} {w w' : World} (h : Reg.Blk g C T w) (k : Reg.Keep M w w') (hm : ¬ M g) : Reg.Blk g C T w' := (k.block g h.lt hm).trans h
theorem below_grown {w w' : World} (h : Below w.heap.size w w') : w.grownBy w' none := ⟨h.os, h.tape, h.output, h.size, fun k hk _ => h.block k hk⟩
theorem lineK {M : Nat → Prop} {w w' : World} {A : Option Addr} {l : List P2} (h : LineAt w A l) (k : Reg.Keep M w w') (hm : ∀ b off, A = some ⟨b, off, none⟩ → ¬ M b) : LineAt w' A l := fun i hi => by
  obtain ⟨b, off, hA, hb, c0, c1⟩ := h i hi
  have e := fun o => World.cell?_of_block (w := w) (a := ⟨b, o, none⟩) (k.block b hb (hm b off hA))
  exact ⟨b, off, hA, Nat.lt_of_lt_of_le hb k.size, (e _).trans c0, (e _).trans c1⟩

set_option maxHeartbeats 8000000 in
theorem spots1_any (N l₀ : Nat) (M : Nat → Prop) (Bl Bp : Nat) (A : Option Addr) (c : Nat) (l : List P2) (px py : Int) (m : Nat) (fS : Nat → SB) (J Jx : List SB → World → Prop) (W : World)
    (hm : l.length = m + 1) (hlen : l.length ≤ 1000) (hM1 : ¬ M Bl) (hM2 : ¬ M Bp) (hM3 : ∀ b off, A = some ⟨b, off, none⟩ → ¬ M b)
    (hbl : Reg.Blk Bl #[.slice A l.length c] 38 W) (hbp : Reg.Blk Bp #[.int .i64 px, .int .i64 py] 24 W) (hl : LineAt W A l) (hf : ∀ k, k < m → (fS k).1 = spotI l px py k)
    (hJ : ∀ s w w', J s w → Below w.heap.size w w' → J s w')
    (hY : ∀ pre (x : SB) W1, J pre W1 → pre.length < m → YieldAt Fence.wide N Try.prog l₀ #[.agg x.1.cells] W1 fun e W' =>
      (e = .returned (.bool true) ∧ J (pre ++ [x]) W' ∧ Reg.Keep M W1 W') ∨ (e = .returned (.bool false) ∧ Jx (pre ++ [x]) W')) (h0 : J [] W) :
    Calls Try.prog 66 #[.func (.yield l₀) #[] #[], .pointer (some ⟨Bl, 0, none⟩), .pointer (some ⟨Bp, 0, none⟩)] W fun e W' => (∃ v, e = .returned v) ∧ ((∃ xs, xs = uptoL fS m ∧ J xs W') ∨ (∃ pre : List SB, True ∧ Jx pre W')) := by
  obtain ⟨cl, fl, zl⟩ := hbl.facts
  have HBL := Lib.hid hbl
  have HBP := Lib.hid hbp
  have HL := Lib.hid hl
  have HF := Lib.hid hf
  have HJ := Lib.hid hJ
  have HY := Lib.hid hY
  have HM3 := Lib.hid hM3
  have H0 := Lib.hid h0
  have hlim : IntKind.i64.wrap ((l.length : Int) - 1) = (m : Int) := by rw [show (l.length : Int) - 1 = (m : Int) by omega]; exact i64_in _ (by omega) (by omega)
  have HLen := Lib.hid (And.intro hm hlen)
  clear hbl hbp hl hf hJ hY hM3 h0 hm hlen
  go_enter Try.func66, Try.ntmps66
  go_wp2_with fail
  go_loopw [11] (fun i wr => ∃ k : Nat, k ≤ m ∧ i = .int .i64 k ∧ J (uptoL fS k) wr ∧ Reg.Keep M W wr) (fun i _ => m - (intOf i).toNat)
  case atStart => exact ⟨0, Nat.zero_le _, rfl, H0.out, keep_below (Below.refl _ _)⟩
  case round =>
    obtain ⟨k, hk, rfl, hJs, hkp⟩ := hrel
    have HJs := Lib.hid hJs
    have HKp := Lib.hid hkp
    clear hJs hkp cl fl zl
    by_cases hlt : k < m
    · obtain ⟨b, off, hA, hb, c0, c1⟩ := (lineK HL.out HKp.out HM3.out) k (by have := HLen.out; omega)
      subst hA
      obtain ⟨b', off', hA, hb', d0, d1⟩ := (lineK HL.out HKp.out HM3.out) (k + 1) (by have := HLen.out; omega)
      obtain ⟨rfl, rfl⟩ : b = b' ∧ off = off' := by injection hA with h; injection h with h1 h2; exact ⟨h1, h2⟩
      obtain ⟨cl, fl, zl⟩ := (blkK HBL.out HKp.out hM1).facts
      obtain ⟨cp, fp, zp⟩ := (blkK HBP.out HKp.out hM2).facts
      have hki : (k : Int) < (m : Int) := by omega
      have hki2 : (k : Int) < (l.length : Int) := by have := HLen.out; omega
      have hk0 : (0 : Int) ≤ (k : Int) := by omega
      obtain ⟨n, hn⟩ : ∃ n, n = k + 1 := ⟨_, rfl⟩
      rw [← hn] at d0 d1
      have hwr : IntKind.i64.wrap ((k : Int) + 1) = (n : Int) := by rw [show (k : Int) + 1 = (n : Int) by omega]; exact i64_in _ (by omega) (by have := HLen.out; omega)
      have hn0 : (0 : Int) ≤ (n : Int) := by omega
      have hnl : (n : Int) < (l.length : Int) := by have := HLen.out; omega
      have HS : Hid ((fS k).1 = spotI l px py k) := HF.out k hlt
      have HN := Lib.hid hn
      unfold spotI at HS
      rw [← hn] at HS
      generalize (pt l k).1 = ax at *
      generalize (pt l k).2 = ay at *
      generalize (pt l n).1 = bx at *
      generalize (pt l n).2 = bz at *
      clear hn hA hb'
      go_wp2_with fail
      refine Reg.wp_region_seq (by kernel_rfl) (by kernel_rfl) ?_
      simp only
      iterate 15
        apply Reg.SeqOK.val
        · intro γ W hW K hK
          obtain ⟨hc, hf, _⟩ := bcell hW
          simp only [Act.put, List.setIfInBounds_toArray, List.set_cons_zero, List.set_cons_succ] at hK
          unfold Reg.Does
          go_simp
          try simp only [IntWalk.i64_left]
          first
            | exact hK _ (Below.refl _ _)
            | (go_at_call 20; (with_reducible refine (foot_any _ _ _ _ _ _ _).mono ?_); rintro e w' ⟨rfl, hb⟩; exact hK _ hb)
            | (trace_state; fail)
        simp only [Act.put, List.setIfInBounds_toArray, List.set_cons_zero, List.set_cons_succ, List.nil_append, List.cons_append, Nat.reduceAdd, Nat.zero_add]
      iterate 2
        apply Reg.SeqOK.box
        · intro γ W hW K hK
          simp only [Act.put, List.setIfInBounds_toArray, List.set_cons_zero, List.set_cons_succ] at hK
          unfold Reg.Does
          go_simp
          exact hK
        simp only [Act.put, List.setIfInBounds_toArray, List.set_cons_zero, List.set_cons_succ, List.nil_append, List.cons_append, Nat.reduceAdd, Nat.zero_add]
      refine Reg.SeqOK.st 15 _ _ _ rfl (by kernel_rfl) ?_ ?_
      · intro γ W hW hge hat K hK
        obtain ⟨hcl, hfr⟩ := Reg.cells_at hat
        simp only [Act.put, List.setIfInBounds_toArray, List.set_cons_zero, List.set_cons_succ] at hK
        unfold Reg.Does
        go_simp
        exact hK _ (Reg.upd2 hat)
      simp only [Act.put, List.setIfInBounds_toArray, List.set_cons_zero, List.set_cons_succ, List.nil_append, List.cons_append, Nat.reduceAdd, Nat.zero_add]
      refine Reg.SeqOK.st 16 _ _ _ rfl (by kernel_rfl) ?_ ?_
      · intro γ W hW hge hat K hK
        obtain ⟨hcl, hfr⟩ := Reg.cells_at hat
        simp only [Act.put, List.setIfInBounds_toArray, List.set_cons_zero, List.set_cons_succ] at hK
        unfold Reg.Does
        go_simp
        exact hK _ (Reg.upd2 hat)
      simp only [Act.put, List.setIfInBounds_toArray, List.set_cons_zero, List.set_cons_succ, List.nil_append, List.cons_append, Nat.reduceAdd, Nat.zero_add]
      iterate 1
        apply Reg.SeqOK.val
        · intro γ W hW K hK
          obtain ⟨hc, hf, _⟩ := bcell hW
          simp only [Act.put, List.setIfInBounds_toArray, List.set_cons_zero, List.set_cons_succ] at hK
          unfold Reg.Does
          go_simp
          try simp only [IntWalk.i64_left]
          first
            | exact hK _ (Below.refl _ _)
            | (trace_state; fail)
        simp only [Act.put, List.setIfInBounds_toArray, List.set_cons_zero, List.set_cons_succ, List.nil_append, List.cons_append, Nat.reduceAdd, Nat.zero_add]
      refine Reg.SeqOK.nil (by kernel_rfl) (fun γ W3 hW hBx _ _ => ?_)
      simp only [Reg.Boxes, and_true, true_and, Nat.reduceAdd, Nat.zero_add] at hBx
      obtain ⟨⟨_, _, at0⟩, _, _, at1⟩ := hBx
      generalize γ 15 = g5 at *
      generalize γ 16 = g6 at *
      have HW3 := Lib.hid hW
      have HK3 := Lib.hid (keepK HKp.out (keep_below (M := M) hW))
      have HJ3 := Lib.hid (HJ.out _ _ _ HJs.out hW)
      have e3 := (bcell hW).1
      replace c0 := (e3 b _ hb).trans c0
      replace c1 := (e3 b _ hb).trans c1
      replace d0 := (e3 b _ hb).trans d0
      replace d1 := (e3 b _ hb).trans d1
      replace hb := Nat.lt_of_lt_of_le hb hW.size
      clear e3 hW cl fl zl cp fp zp
      obtain ⟨cl, fl, zl⟩ := (blkK HBL.out HK3.out hM1).facts
      obtain ⟨cp, fp, zp⟩ := (blkK HBP.out HK3.out hM2).facts
      have a0 : Reg.Blk g5 _ _ W3 := at0
      have a1 : Reg.Blk g6 _ _ W3 := at1
      obtain ⟨c5, f5, z5⟩ := a0.facts
      obtain ⟨c6, f6, z6⟩ := a1.facts
      clear at0 at1 a0 a1
      go_wp2_with fail
      refine (wpIn_wide (n := N + 1)).1 ?_
      refine RegI.wp_region_seq (by kernel_rfl) (by kernel_rfl) ?_
      simp only
      iterate 16
        apply RegI.SeqOK.val
        · intro γ W hW K hK
          obtain ⟨hc, hf, _⟩ := bcell hW
          simp only [Act.put, List.setIfInBounds_toArray, List.set_cons_zero, List.set_cons_succ] at hK
          unfold RegI.Does
          go_simp
          try simp only [IntWalk.i64_left]
          first
            | exact hK _ (Below.refl _ _)
            | (go_at_call 21; (with_reducible refine (turn_any _ _ _ _ _ _ _).mono ?_); rintro e w' ⟨rfl, hb⟩; exact hK _ hb)
            | (trace_state; fail)
        simp only [Act.put, List.setIfInBounds_toArray, List.set_cons_zero, List.set_cons_succ, List.nil_append, List.cons_append, Nat.reduceAdd, Nat.zero_add]
      refine RegI.SeqOK.tail (by kernel_rfl) (by kernel_rfl) (fun γ W4 hW4 _ _ _ => ?_)
      refine RegI.tail_cons ?_
      have HK4 := Lib.hid (keepK HK3.out (keep_below (M := M) hW4))
      obtain ⟨fn, tmps, assign, body, hy, hR⟩ := HY.out (uptoL fS k) (fS k) W4 (HJ.out _ _ _ HJ3.out hW4) (by rw [uptoL_length]; exact hlt)
      rw [HS.out] at hy
      simp only [Spt.cells] at hy
      have HR := Lib.hid hR
      clear hW4 hR c0 c1 d0 d1 cl fl cp fp c5 f5 c6 f6
      unfold RegI.DoesI
      go_simp
      refine HR.out.mono ?_
      rintro e W5 (⟨rfl, hJ5, hk5⟩ | ⟨rfl, hJx⟩)
      · have HK5 := Lib.hid (keepK HK4.out hk5)
        have HJ5 := Lib.hid hJ5
        clear hJ5 hk5 HR hy
        refine RegI.tail_cons ?_
        unfold RegI.DoesI
        go_simp
        refine RegI.tail_nil ?_
        go_wp2_with fail
        refine ⟨⟨n, by have := HN.out; omega, by go_num, by rw [HN.out, uptoL_succ]; exact HJ5.out, HK5.out⟩, by have := HN.out; simp [intOf]; omega⟩
      · have HJx := Lib.hid hJx
        clear hJx HR hy
        refine RegI.tail_cons ?_
        unfold RegI.DoesI
        go_simp
        refine RegI.tail_nil ?_
        go_wp2_with fail
        refine bodyPost_ret (results_none rfl _ _ _) rfl ?_
        exact ⟨⟨_, rfl⟩, .inr ⟨_, trivial, HJx.out⟩⟩
    · obtain rfl : k = m := by omega
      go_wp2_with fail
      go_end0
      exact ⟨⟨_, rfl⟩, .inl ⟨_, rfl, HJs.out⟩⟩

end G
end Go.Proofs.Ytjeapimjgojpoaa
