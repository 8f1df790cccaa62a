/- A disk beside its reference. -/
import Derived.Test.YtopjekdhecikdaaMk
set_option linter.unusedSimpArgs false
set_option linter.unusedVariables false
set_option maxRecDepth 100000
namespace Go.Proofs.Ytopjekdhecikdaa
open Go.RowKit
namespace D

structure TrR (w0 : World) (n m g : Nat) (d : Dk) (g' : Nat) (W : World) : Prop where
  le : n ≤ 4000
  pos : 1 ≤ n
  good : Good n d
  few : Few m d
  at_ : ∃ M M', DiskAt W w0.heap.size M g d ∧ RefAt W w0.heap.size n M' g' d ∧ ∀ k, M k → ¬ M' k
  low : Below w0.heap.size w0 W
theorem TrR.below {w0 W W' : World} {n m g g' : Nat} {d : Dk} (h : TrR w0 n m g d g' W) (hb : Below W.heap.size W W') : TrR w0 n m g d g' W' := by
  obtain ⟨M, M', ⟨gs, qv, av, h1⟩, ⟨sb, qv', am, a, x, y, h2⟩, h3⟩ := h.at_
  exact ⟨h.le, h.pos, h.good, h.few, ⟨M, M', ⟨gs, qv, av, h1.below hb⟩, ⟨_, _, _, _, _, _, h2.below hb⟩, h3⟩, h.low.trans (hb.mono h.low.size)⟩
/-- Between the two calls: the disk is ahead. -/
structure TrH (w0 : World) (n m g : Nat) (d : Dk) (g' : Nat) (d' : Dk) (W : World) : Prop where
  le : n ≤ 4000
  pos : 1 ≤ n
  good : Good n d
  few : Few m d
  good' : Good n d'
  few' : Few m d'
  at_ : ∃ M M', DiskAt W w0.heap.size M g d ∧ RefAt W w0.heap.size n M' g' d' ∧ ∀ k, M k → ¬ M' k
  low : Below w0.heap.size w0 W
section
variable {w0 W : World} {n m g g' : Nat} {d : Dk}
theorem trr_do (a : AV) (h : TrR w0 n m g d g' W) (hm : m + 1 ≤ 100000) (hl : a.text.length ≤ 1000000) (ha : a.aft ≤ 9223372036854775807) :
    Calls Try.prog 16 #[.pointer (some ⟨g, 0, none⟩), .agg #[.int .i64 a.kind, .int .i64 a.sec, .int .i64 a.byt, .string (str a.text), .bool a.odd, .int .i64 a.aft]] W fun e W' => e = .returned (.tuple #[.string (str (doA d a).1.1), .int .i64 (doA d a).1.2]) ∧ TrH w0 n (m + 1) g (doA d a).2 g' d W' := by
  obtain ⟨M, M', h1, h2, h3⟩ := h.at_
  refine (do_any a W h1 (Fit.few h.good h.le h.few (by omega)) h.low.size (by have := h.few.ql; omega) hl).mono ?_
  rintro e W' ⟨he, M2, hd2, hmv⟩
  obtain ⟨gs, qv, av, hi⟩ := h1
  obtain ⟨sb, qv', am, a', x, y, hi'⟩ := h2
  refine ⟨he, h.le, h.pos, h.good.doA _, h.few.doA _ ha, h.good, ⟨Nat.le_succ_of_le h.few.ql, h.few.arm⟩, ⟨M2, M', hd2, ⟨_, _, _, _, _, _, hi'.same hmv.keep.size fun k hk => hmv.keep.block k (hi'.bb k hk).2 fun m1 => h3 k m1 hk⟩, fun k k2 k' => ?_⟩, h.low.trans (hmv.toBelow (fun k hk => (hi.bb k hk).1) h.low.size)⟩
  rcases hmv.sub k k2 with m1 | m1
  · exact h3 k m1 k'
  · have := (hi'.bb k k').2; omega
theorem trr_want {d' : Dk} (a : AV) (h : TrH w0 n m g d' g' d W) (hd : (doA d a).2 = d') (hm : m + 1 ≤ 100000) (hl : a.text.length ≤ 1000000) :
    Calls Try.prog 17 #[.pointer (some ⟨g', 0, none⟩), .agg #[.int .i64 a.kind, .int .i64 a.sec, .int .i64 a.byt, .string (str a.text), .bool a.odd, .int .i64 a.aft]] W fun e W' => e = .returned (.tuple #[.string (str (doA d a).1.1), .int .i64 (doA d a).1.2]) ∧ TrR w0 n m g d' g' W' := by
  obtain ⟨M, M', h1, h2, h3⟩ := h.at_
  refine (want_any a W h2 (Fit.few h.good' h.le h.few' (by omega)) h.pos h.low.size (by have := h.few'.ql; omega) hl).mono ?_
  rintro e W' ⟨he, M2, hd2, hmv⟩
  obtain ⟨gs, qv, av, hi⟩ := h1
  obtain ⟨sb, qv', am, a', x, y, hi'⟩ := h2
  rw [hd] at hd2
  refine ⟨he, h.le, h.pos, h.good, h.few, ⟨M, M2, ⟨gs, qv, av, hi.same hmv.keep.size fun k hk => hmv.keep.block k (hi.bb k hk).2 fun m1 => h3 k hk m1⟩, hd2, fun k k2 k' => ?_⟩, h.low.trans (hmv.toBelow (fun k hk => (hi'.bb k hk).1) h.low.size)⟩
  rcases hmv.sub k k' with m1 | m1
  · exact h3 k k2 m1
  · have := (hi.bb k k2).2; omega
end

end D
end Go.Proofs.Ytopjekdhecikdaa
