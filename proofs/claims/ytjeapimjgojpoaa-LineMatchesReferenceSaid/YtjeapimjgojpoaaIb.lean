/- Lines: places, 'keep'. -/
import Derived.Test.YtjeapimjgojpoaaIp
set_option linter.unusedSimpArgs false
set_option linter.unusedVariables false
set_option maxRecDepth 100000
namespace Go.Proofs.Ytjeapimjgojpoaa
open Go.RowKit
namespace G

structure Spt where
  seg : Int
  pn : Int
  pd : Int
  side : Int
  an : Int
  ad : Int
def Spt.cells (s : Spt) : Array Value := #[.int .i64 s.seg, .int .i64 s.pn, .int .i64 s.pd, .int .i64 s.side, .int .i64 s.an, .int .i64 s.ad]
def spt0 : Spt := ⟨0, 0, 0, 0, 0, 0⟩
def Spt.eqB (a b : Spt) : Bool := decide (a.seg = b.seg) && (decide (a.pn = b.pn) && (decide (a.pd = b.pd) && (decide (a.side = b.side) && (decide (a.an = b.an) && decide (a.ad = b.ad)))))
theorem run_eql_spot (a1 a2 a3 a4 a5 a6 b1 b2 b3 b4 b5 b6 : Int) (w : World) : (binOp .eql 34 (.agg #[.int .i64 a1, .int .i64 a2, .int .i64 a3, .int .i64 a4, .int .i64 a5, .int .i64 a6]) (.agg #[.int .i64 b1, .int .i64 b2, .int .i64 b3, .int .i64 b4, .int .i64 b5, .int .i64 b6])).run Try.prog w = .ok (.bool (Spt.eqB ⟨a1, a2, a3, a4, a5, a6⟩ ⟨b1, b2, b3, b4, b5, b6⟩)) w := by
  by_cases h1 : a1 = b1
  rotate_left
  · go_simp; simp [Spt.eqB, h1]
  by_cases h2 : a2 = b2
  rotate_left
  · go_simp; simp [Spt.eqB, h1, h2]
  by_cases h3 : a3 = b3
  rotate_left
  · go_simp; simp [Spt.eqB, h1, h2, h3]
  by_cases h4 : a4 = b4
  rotate_left
  · go_simp; simp [Spt.eqB, h1, h2, h3, h4]
  by_cases h5 : a5 = b5
  rotate_left
  · go_simp; simp [Spt.eqB, h1, h2, h3, h4, h5]
  by_cases h6 : a6 = b6
  · go_simp; simp [Spt.eqB, h1, h2, h3, h4, h5, h6]
  · go_simp; simp [Spt.eqB, h1, h2, h3, h4, h5, h6]
def Spt.B (s : Spt) : Prop := B64 s.an ∧ B64 s.ad
def Spt.less (s b : Spt) : Bool := decide ((compareI s.an s.ad b.an b.ad).1 < 0)
def keepS (b s : Spt) : Spt := if b.eqB spt0 || s.less b then s else b

theorem keep_below {M : Nat → Prop} {w w' : World} (h : Below w.heap.size w w') : Reg.Keep M w w' := ⟨h.os, h.tape, h.output, h.size, fun k hk _ => h.block k hk⟩

set_option maxHeartbeats 4000000 in
theorem keep_any (s b : Spt) (g : Nat) (w : World) (hb : Reg.Blk g b.cells 34 w) (hs : s.B) (hB : b.B) :
    Calls Try.prog 37 #[.agg s.cells, .pointer (some ⟨g, 0, none⟩)] w fun e w' => e = .returned (.tuple #[]) ∧ Reg.Keep (fun k => k = g) w w' ∧ Reg.Blk g (keepS b s).cells 34 w' := by
  have heq := run_eql_spot
  obtain ⟨a1, a2, a3, a4, a5, a6⟩ := s
  obtain ⟨b1, b2, b3, b4, b5, b6⟩ := b
  obtain ⟨⟨p1, p2⟩, p3, p4⟩ := hs
  obtain ⟨⟨q1, q2⟩, q3, q4⟩ := hB
  simp only at p1 p2 p3 p4 q1 q2 q3 q4
  simp only [Spt.cells] at hb ⊢
  obtain ⟨cb, fb, zb⟩ := hb.facts
  have HBk := Lib.hid hb
  have HC := Lib.hid (fun W => compare_any a5 a6 b5 b6 W ⟨p1, p2⟩ ⟨p3, p4⟩ ⟨q1, q2⟩ ⟨q3, q4⟩)
  clear hb p1 p2 p3 p4 q1 q2 q3 q4
  go_enter Try.func37, Try.ntmps37
  go_wp2_with fail
  (with_reducible refine (HC.out _).mono ?_); rintro e w1 ⟨rfl, hb1⟩
  have hbk : Reg.Blk g #[.int .i64 b1, .int .i64 b2, .int .i64 b3, .int .i64 b4, .int .i64 b5, .int .i64 b6] 34 w1 := (HBk.out.alloc _).keep hb1
  have hbx := Reg.Blk.new1 hb1
  have HK := Lib.hid (keep_below (M := fun k => k = g) (((Below.refl w.heap.size w).alloc (Nat.le_refl _) _).trans (hb1.mono (by simp))))
  clear cb fb zb hb1 HC
  obtain ⟨cg, fg, zg⟩ := hbk.facts
  obtain ⟨cx, fx, zx⟩ := hbx.facts
  have HBk1 := Lib.hid hbk
  clear hbk hbx HBk
  cases hq : Spt.eqB ⟨b1, b2, b3, b4, b5, b6⟩ ⟨0, 0, 0, 0, 0, 0⟩ with
  | true =>
    have HR : Hid (keepS ⟨b1, b2, b3, b4, b5, b6⟩ ⟨a1, a2, a3, a4, a5, a6⟩ = ⟨a1, a2, a3, a4, a5, a6⟩) := by unfold Hid keepS spt0; rw [hq]; rfl
    go_wp2_with fail
    go_end0
    rw [HR.out]
    have hu := Reg.upd6 (x := .int .i64 a1) (y := .int .i64 a2) (z := .int .i64 a3) (t := .int .i64 a4) (u := .int .i64 a5) (v := .int .i64 a6) HBk1.out
    exact ⟨rfl, Reg.updK (M := fun k => k = g) (g := g) rfl _ _ _ _ HK.out hu, hu.at_⟩
  | false =>
    by_cases hc : (compareI a5 a6 b5 b6).1 < 0
    · have HR : Hid (keepS ⟨b1, b2, b3, b4, b5, b6⟩ ⟨a1, a2, a3, a4, a5, a6⟩ = ⟨a1, a2, a3, a4, a5, a6⟩) := by unfold Hid keepS spt0 Spt.less; rw [hq, decide_eq_true hc]; rfl
      go_wp2_with fail
      go_end0
      rw [HR.out]
      have hu := Reg.upd6 (x := .int .i64 a1) (y := .int .i64 a2) (z := .int .i64 a3) (t := .int .i64 a4) (u := .int .i64 a5) (v := .int .i64 a6) HBk1.out
      exact ⟨rfl, Reg.updK (M := fun k => k = g) (g := g) rfl _ _ _ _ HK.out hu, hu.at_⟩
    · have HR : Hid (keepS ⟨b1, b2, b3, b4, b5, b6⟩ ⟨a1, a2, a3, a4, a5, a6⟩ = ⟨b1, b2, b3, b4, b5, b6⟩) := by unfold Hid keepS spt0 Spt.less; rw [hq, decide_eq_false hc]; rfl
      go_wp2_with fail
      go_end0
      rw [HR.out]
      exact ⟨rfl, HK.out, HBk1.out⟩

end G
end Go.Proofs.Ytjeapimjgojpoaa
