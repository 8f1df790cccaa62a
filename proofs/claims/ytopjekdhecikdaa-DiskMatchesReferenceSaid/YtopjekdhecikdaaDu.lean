/- Disk's law: one disk, two disks, a nil disk. -/
import Derived.Test.YtopjekdhecikdaaDt
set_option linter.unusedSimpArgs false
set_option linter.unusedVariables false
set_option maxRecDepth 100000
namespace Go.Proofs.Ytopjekdhecikdaa
open Go.RowKit
namespace D

/-- A disk that the call made; below the heap's size at its beginning nothing has turned. -/
structure Tr (w0 : World) (n m g : Nat) (d : Dk) (W : World) : Prop where
  le : n ≤ 4000
  good : Good n d
  few : Few m d
  at_ : ∃ M, DiskAt W w0.heap.size M g d
  low : Below w0.heap.size w0 W
theorem Tr.fit {w0 W : World} {n m g : Nat} {d : Dk} (h : Tr w0 n m g d W) (hm : m ≤ 100000) : Fit n d := Fit.few h.good h.le h.few hm
theorem Tr.below {w0 W W' : World} {n m g : Nat} {d : Dk} (h : Tr w0 n m g d W) (hb : Below W.heap.size W W') : Tr w0 n m g d W' := by
  obtain ⟨M, gs, qv, av, hd⟩ := h.at_
  exact ⟨h.le, h.good, h.few, ⟨M, gs, qv, av, hd.below hb⟩, h.low.trans (hb.mono h.low.size)⟩
theorem Tr.more {w0 W : World} {n m m' g : Nat} {d : Dk} (h : Tr w0 n m g d W) (hm : m ≤ m') : Tr w0 n m' g d W := ⟨h.le, h.good, ⟨Nat.le_trans h.few.ql hm, h.few.arm⟩, h.at_, h.low⟩
theorem Tr.post {w0 W W' : World} {n m m' g : Nat} {d d' : Dk} {M : Nat → Prop} (h : Tr w0 n m g d W) (hd : DiskAt W w0.heap.size M g d) (hg : Good n d') (hf : Few m' d') (hp : Post W w0.heap.size M g d' W') : Tr w0 n m' g d' W' := by
  obtain ⟨M', hd', hm⟩ := hp
  obtain ⟨gs, qv, av, hi⟩ := hd
  exact ⟨h.le, hg, hf, ⟨M', hd'⟩, h.low.trans (hm.toBelow (fun k hk => (hi.bb k hk).1) h.low.size)⟩

section
variable {w0 W : World} {n m g : Nat} {d : Dk}
theorem tr_write (s : Int) (t : Tx) (h : Tr w0 n m g d W) (hm : m + 1 ≤ 100000) :
    Calls Try.prog 23 #[.pointer (some ⟨g, 0, none⟩), .int .i64 s, .string (str t)] W fun e W' => e = .returned (.int .i64 (write d s t).1) ∧ Tr w0 n (m + 1) g (write d s t).2 W' := by
  obtain ⟨M, hd⟩ := h.at_
  exact (write_any s t W hd (h.fit (by omega)) h.low.size (by have := h.few.ql; omega)).mono fun e W' ⟨he, hp⟩ => ⟨he, h.post hd (h.good.write _ _) (h.few.write _ _) hp⟩
theorem tr_read (s : Int) (h : Tr w0 n m g d W) (hm : m ≤ 100000) :
    Calls Try.prog 18 #[.pointer (some ⟨g, 0, none⟩), .int .i64 s] W fun e W' => e = .returned (.tuple #[.string (str (read d s).1), .int .i64 (read d s).2]) ∧ Below W.heap.size W W' := by
  obtain ⟨M, hd⟩ := h.at_
  exact read_any s W hd (h.fit hm)
theorem tr_sync (h : Tr w0 n m g d W) (hm : m ≤ 100000) :
    Calls Try.prog 21 #[.pointer (some ⟨g, 0, none⟩)] W fun e W' => e = .returned (.int .i64 (sync d).1) ∧ Tr w0 n m g (sync d).2 W' := by
  obtain ⟨M, hd⟩ := h.at_
  exact (sync_any W hd (h.fit hm)).mono fun e W' ⟨he, hp⟩ => ⟨he, h.post hd h.good.sync h.few.sync hp⟩
theorem tr_fail (x y : Int) (h : Tr w0 n m g d W) (hm : m ≤ 100000) :
    Calls Try.prog 25 #[.pointer (some ⟨g, 0, none⟩), .int .i64 x, .int .i64 y] W fun e W' => e = .returned (.tuple #[]) ∧ Tr w0 n m g (fail d x y) W' := by
  obtain ⟨M, hd⟩ := h.at_
  exact (fail_any x y W hd (h.fit hm)).mono fun e W' ⟨he, hp⟩ => ⟨he, h.post hd (h.good.fail _ _) (h.few.fail _ _) hp⟩
theorem Few.start {m : Nat} {d : Dk} (h : Few m d) : Few m (start d) := ⟨h.ql, fun a x y e => by cases e⟩
theorem Few.armD {m : Nat} {d : Dk} (h : Few m d) (a x y : Int) (ha : a ≤ 9223372036854775807) : Few m (armD d a x y) := by
  unfold D.armD
  split
  · exact h
  · refine ⟨h.ql, fun a' x' y' e => ?_⟩
    simp only at e
    split at e
    · simp only [Option.some.injEq, Prod.mk.injEq] at e; omega
    · cases e
theorem Few.rot {m : Nat} {d : Dk} (h : Few m d) (s a x : Int) : Few m (rot d s a x) := by
  unfold D.rot
  split
  · exact ⟨h.ql, h.arm⟩
  · exact h
theorem tr_start (h : Tr w0 n m g d W) :
    Calls Try.prog 20 #[.pointer (some ⟨g, 0, none⟩)] W fun e W' => e = .returned (.tuple #[]) ∧ Tr w0 n m g (start d) W' := by
  obtain ⟨M, hd⟩ := h.at_
  exact (start_any W hd).mono fun e W' ⟨he, hp⟩ => ⟨he, h.post hd h.good.start h.few.start hp⟩
theorem tr_arm (a x y : Int) (h : Tr w0 n m g d W) (ha : a ≤ 9223372036854775807) :
    Calls Try.prog 29 #[.pointer (some ⟨g, 0, none⟩), .int .i64 a, .int .i64 x, .int .i64 y] W fun e W' => e = .returned (.tuple #[]) ∧ Tr w0 n m g (armD d a x y) W' := by
  obtain ⟨M, hd⟩ := h.at_
  exact (arm_any a x y W hd h.low.size).mono fun e W' ⟨he, hp⟩ => ⟨he, h.post hd (h.good.arm _ _ _) (h.few.armD _ _ _ ha) hp⟩
theorem tr_rot (s a x : Int) (h : Tr w0 n m g d W) (hm : m ≤ 100000) :
    Calls Try.prog 30 #[.pointer (some ⟨g, 0, none⟩), .int .i64 s, .int .i64 a, .int .i64 x] W fun e W' => e = .returned (.tuple #[]) ∧ Tr w0 n m g (rot d s a x) W' := by
  obtain ⟨M, hd⟩ := h.at_
  exact (rot_any s a x W hd (h.fit hm)).mono fun e W' ⟨he, hp⟩ => ⟨he, h.post hd (h.good.rot _ _ _) (h.few.rot _ _ _) hp⟩
theorem tr_raw (h : Tr w0 n m g d W) (hm : m ≤ 100000) :
    Calls Try.prog 31 #[.pointer (some ⟨g, 0, none⟩)] W fun e W' => e = .returned (.string (str d.st)) ∧ W = W' := by
  obtain ⟨M, hd⟩ := h.at_
  exact raw_any W hd (h.fit hm)
theorem tr_do (a : AV) (h : Tr w0 n m g d W) (hm : m + 1 ≤ 100000) (hl : a.text.length ≤ 1000000) (ha : a.aft ≤ 9223372036854775807) :
    Calls Try.prog 16 #[.pointer (some ⟨g, 0, none⟩), actV a] W fun e W' => e = .returned (.tuple #[.string (str (doA d a).1.1), .int .i64 (doA d a).1.2]) ∧ Tr w0 n (m + 1) g (doA d a).2 W' := by
  obtain ⟨M, hd⟩ := h.at_
  exact (do_any a W hd (h.fit (by omega)) h.low.size (by have := h.few.ql; omega) hl).mono fun e W' ⟨he, hp⟩ => ⟨he, h.post hd (h.good.doA _) (h.few.doA _ ha) hp⟩
theorem tr_contents (h : Tr w0 n m g d W) (hm : m ≤ 100000) (ho : d.off = false) :
    Calls Try.prog 22 #[.pointer (some ⟨g, 0, none⟩), .int .i64 n] W fun e W' => ∃ A c, e = .returned (.tuple #[.slice A n c, .bool true]) ∧ W'.ownsRow W.heap.size 9 1 (.slice A n c) n (sv (conts n d)) ∧ Below W.heap.size W W' := by
  obtain ⟨M, hd⟩ := h.at_
  exact contents_any W hd (h.fit hm) ho
theorem tr_new (n : Nat) (hn : 1 ≤ n) (hn2 : n ≤ 4000) (hb : Below w0.heap.size w0 W) :
    Calls Try.prog 13 #[.int .i64 n] W fun e W' => ∃ g, e = .returned (.pointer (some ⟨g, 0, none⟩)) ∧ Tr w0 n 0 g (newD n) W' := by
  refine (new_any n hn hn2 W hb.size).mono ?_
  rintro e W' ⟨g, M, rfl, hd, hM, hb2⟩
  exact ⟨g, rfl, hn2, good_new n, few_new n, ⟨M, hd⟩, hb.trans (hb2.mono hb.size)⟩
end

/-! ### A nil disk -/
section
variable (w : World)
theorem nil_fail (x y : Int) : Calls Try.prog 25 #[.pointer none, .int .i64 x, .int .i64 y] w fun e w' => e = .returned (.tuple #[]) ∧ Below w.heap.size w w' := by
  go_enter Try.func25, Try.ntmps25
  go_wp2
  exact bodyPost_ret (results_none rfl _ _ _) rfl ⟨rfl, Below.refl _ _⟩
theorem nil_start : Calls Try.prog 20 #[.pointer none] w fun e w' => e = .returned (.tuple #[]) ∧ Below w.heap.size w w' := by
  go_enter Try.func20, Try.ntmps20
  go_wp2
  go_end0
  exact ⟨rfl, Below.refl _ _⟩
theorem nil_arm (a x y : Int) : Calls Try.prog 29 #[.pointer none, .int .i64 a, .int .i64 x, .int .i64 y] w fun e w' => e = .returned (.tuple #[]) ∧ Below w.heap.size w w' := by
  go_enter Try.func29, Try.ntmps29
  go_wp2
  exact bodyPost_ret (results_none rfl _ _ _) rfl ⟨rfl, Below.refl _ _⟩
theorem nil_place (s : Int) : Calls Try.prog 44 #[.pointer none, .int .i64 s] w fun e w' => e = .returned (.tuple #[.agg #[.int .i64 0, .int .i64 0], .bool false]) ∧ Below w.heap.size w w' := by
  go_enter Try.func44, Try.ntmps44
  go_wp2
  refine bodyPost_ret (v := .tuple #[.agg #[.int .i64 0, .int .i64 0], .bool false]) (by simp [results, Try.results44, go_sem]) rfl ⟨rfl, ?_⟩
  repeat (first | exact Below.refl _ _ | assumption | (refine Below.setCell ?_ (by first | (simp; done) | (simp; omega) | omega) _) | (refine Below.alloc ?_ (by first | (simp; done) | (simp; omega) | omega) _) | (refine Below.drew ?_))
theorem nil_at (s : Int) : Calls Try.prog 40 #[.pointer none, .int .i64 s] w fun e w' => e = .returned (.tuple #[.agg #[.int .i64 0, .int .i64 0], .int .i64 1]) ∧ Below w.heap.size w w' := by
  go_enter Try.func40, Try.ntmps40
  go_wp2_with fail
  (with_reducible refine (nil_place _ _).mono ?_); rintro e w1 ⟨rfl, hb⟩
  have kr := Reg.Blk.new1 hb
  obtain ⟨ckr, fkr, zkr⟩ := kr.facts
  go_wp2
  refine bodyPost_ret (v := .tuple #[.agg #[.int .i64 0, .int .i64 0], .int .i64 1]) (by simp [results, Try.results40, go_sem, *]) rfl ⟨rfl, ?_⟩
  have hw1 : Below w.heap.size w w1 := ((Below.refl _ _).alloc (Nat.le_refl _) _).trans (hb.mono (by simp))
  repeat (first | exact Below.refl _ _ | assumption | (refine Below.setCell ?_ (by first | (simp; done) | (simp; omega) | omega) _) | (refine Below.alloc ?_ (by first | (simp; done) | (simp; omega) | omega) _) | (refine Below.drew ?_))
theorem nil_rot (s a x : Int) : Calls Try.prog 30 #[.pointer none, .int .i64 s, .int .i64 a, .int .i64 x] w fun e w' => e = .returned (.tuple #[]) ∧ Below w.heap.size w w' := by
  go_enter Try.func30, Try.ntmps30
  go_wp2_with fail
  (with_reducible refine (nil_place _ _).mono ?_); rintro e w1 ⟨rfl, hb⟩
  go_wp2
  go_end0
  exact ⟨rfl, hb.alloc hb.size _⟩
theorem nil_raw : Calls Try.prog 31 #[.pointer none] w fun e w' => e = .returned (.string (str [])) ∧ Below w.heap.size w w' := by
  go_enter Try.func31, Try.ntmps31
  go_wp2
  go_ret
  exact ⟨rfl, Below.refl _ _⟩
theorem nil_sync : Calls Try.prog 21 #[.pointer none] w fun e w' => e = .returned (.int .i64 1) ∧ Below w.heap.size w w' := by
  go_enter Try.func21, Try.ntmps21
  go_wp2
  go_ret
  exact ⟨rfl, Below.refl _ _⟩
theorem nil_write (s : Int) (t : Tx) : Calls Try.prog 23 #[.pointer none, .int .i64 s, .string (str t)] w fun e w' => e = .returned (.int .i64 1) ∧ Below w.heap.size w w' := by
  go_enter Try.func23, Try.ntmps23
  go_wp2_with fail
  (with_reducible refine (nil_at _ _).mono ?_); rintro e w1 ⟨rfl, hb⟩
  go_wp2
  go_ret
  exact ⟨rfl, hb.alloc hb.size _⟩
end

/-! ### Two disks -/
structure Tr2 (w0 : World) (n m g : Nat) (d : Dk) (g' : Nat) (d' : Dk) (W : World) : Prop where
  le : n ≤ 4000
  good : Good n d
  few : Few m d
  good' : Good n d'
  few' : Few m d'
  at_ : ∃ M M', DiskAt W w0.heap.size M g d ∧ DiskAt W w0.heap.size M' g' d' ∧ ∀ k, M k → ¬ M' k
  low : Below w0.heap.size w0 W
theorem Tr2.swap {w0 W : World} {n m g g' : Nat} {d d' : Dk} (h : Tr2 w0 n m g d g' d' W) : Tr2 w0 n m g' d' g d W := by
  obtain ⟨M, M', h1, h2, h3⟩ := h.at_
  exact ⟨h.le, h.good', h.few', h.good, h.few, ⟨M', M, h2, h1, fun k k1 k2 => h3 k k2 k1⟩, h.low⟩
theorem Tr2.one {w0 W : World} {n m g g' : Nat} {d d' : Dk} (h : Tr2 w0 n m g d g' d' W) : Tr w0 n m g d W := by
  obtain ⟨M, M', h1, h2, h3⟩ := h.at_
  exact ⟨h.le, h.good, h.few, ⟨M, h1⟩, h.low⟩
theorem Tr2.below {w0 W W' : World} {n m g g' : Nat} {d d' : Dk} (h : Tr2 w0 n m g d g' d' W) (hb : Below W.heap.size W W') : Tr2 w0 n m g d g' d' W' := by
  obtain ⟨M, M', ⟨gs, qv, av, h1⟩, ⟨gs', qv', av', h2⟩, h3⟩ := h.at_
  exact ⟨h.le, h.good, h.few, h.good', h.few', ⟨M, M', ⟨gs, qv, av, h1.below hb⟩, ⟨gs', qv', av', h2.below hb⟩, h3⟩, h.low.trans (hb.mono h.low.size)⟩
theorem Tr2.more {w0 W : World} {n m m' g g' : Nat} {d d' : Dk} (h : Tr2 w0 n m g d g' d' W) (hm : m ≤ m') : Tr2 w0 n m' g d g' d' W :=
  ⟨h.le, h.good, ⟨Nat.le_trans h.few.ql hm, h.few.arm⟩, h.good', ⟨Nat.le_trans h.few'.ql hm, h.few'.arm⟩, h.at_, h.low⟩
/-- A call on the first disk. -/
theorem Tr2.post {w0 W W' : World} {n m m' g g' : Nat} {d d' d1 : Dk} {M M' : Nat → Prop} (h : Tr2 w0 n m g d g' d' W) (hd : DiskAt W w0.heap.size M g d) (hd' : DiskAt W w0.heap.size M' g' d') (hx : ∀ k, M k → ¬ M' k)
    (hg : Good n d1) (hf : Few m' d1) (hm : m ≤ m') (hp : Post W w0.heap.size M g d1 W') : Tr2 w0 n m' g d1 g' d' W' := by
  obtain ⟨M2, hd2, hmv⟩ := hp
  obtain ⟨gs, qv, av, hi⟩ := hd
  obtain ⟨gs', qv', av', hi'⟩ := hd'
  refine ⟨h.le, hg, hf, h.good', ⟨Nat.le_trans h.few'.ql hm, h.few'.arm⟩, ⟨M2, M', hd2, ⟨gs', qv', av', hi'.same hmv.keep.size fun k hk => hmv.keep.block k (hi'.bb k hk).2 fun m1 => hx k m1 hk⟩, fun k k2 k' => ?_⟩, h.low.trans (hmv.toBelow (fun k hk => (hi.bb k hk).1) h.low.size)⟩
  rcases hmv.sub k k2 with m1 | m1
  · exact hx k m1 k'
  · have := (hi'.bb k k').2; omega
section
variable {w0 W : World} {n m g g' : Nat} {d d' : Dk}
theorem tr2_write (s : Int) (t : Tx) (h : Tr2 w0 n m g d g' d' W) (hm : m + 1 ≤ 100000) :
    Calls Try.prog 23 #[.pointer (some ⟨g, 0, none⟩), .int .i64 s, .string (str t)] W fun e W' => e = .returned (.int .i64 (write d s t).1) ∧ Tr2 w0 n (m + 1) g (write d s t).2 g' d' W' := by
  obtain ⟨M, M', h1, h2, h3⟩ := h.at_
  exact (write_any s t W h1 (h.one.fit (by omega)) h.low.size (by have := h.few.ql; omega)).mono fun e W' ⟨he, hp⟩ => ⟨he, h.post h1 h2 h3 (h.good.write _ _) (h.few.write _ _) (Nat.le_succ _) hp⟩
theorem tr2_sync (h : Tr2 w0 n m g d g' d' W) (hm : m ≤ 100000) :
    Calls Try.prog 21 #[.pointer (some ⟨g, 0, none⟩)] W fun e W' => e = .returned (.int .i64 (sync d).1) ∧ Tr2 w0 n m g (sync d).2 g' d' W' := by
  obtain ⟨M, M', h1, h2, h3⟩ := h.at_
  exact (sync_any W h1 (h.one.fit hm)).mono fun e W' ⟨he, hp⟩ => ⟨he, h.post h1 h2 h3 h.good.sync h.few.sync (Nat.le_refl _) hp⟩
theorem tr2_fail (x y : Int) (h : Tr2 w0 n m g d g' d' W) (hm : m ≤ 100000) :
    Calls Try.prog 25 #[.pointer (some ⟨g, 0, none⟩), .int .i64 x, .int .i64 y] W fun e W' => e = .returned (.tuple #[]) ∧ Tr2 w0 n m g (fail d x y) g' d' W' := by
  obtain ⟨M, M', h1, h2, h3⟩ := h.at_
  exact (fail_any x y W h1 (h.one.fit hm)).mono fun e W' ⟨he, hp⟩ => ⟨he, h.post h1 h2 h3 (h.good.fail _ _) (h.few.fail _ _) (Nat.le_refl _) hp⟩
theorem tr2_start (h : Tr2 w0 n m g d g' d' W) :
    Calls Try.prog 20 #[.pointer (some ⟨g, 0, none⟩)] W fun e W' => e = .returned (.tuple #[]) ∧ Tr2 w0 n m g (start d) g' d' W' := by
  obtain ⟨M, M', h1, h2, h3⟩ := h.at_
  exact (start_any W h1).mono fun e W' ⟨he, hp⟩ => ⟨he, h.post h1 h2 h3 h.good.start h.few.start (Nat.le_refl _) hp⟩
theorem tr2_arm (a x y : Int) (h : Tr2 w0 n m g d g' d' W) (ha : a ≤ 9223372036854775807) :
    Calls Try.prog 29 #[.pointer (some ⟨g, 0, none⟩), .int .i64 a, .int .i64 x, .int .i64 y] W fun e W' => e = .returned (.tuple #[]) ∧ Tr2 w0 n m g (armD d a x y) g' d' W' := by
  obtain ⟨M, M', h1, h2, h3⟩ := h.at_
  exact (arm_any a x y W h1 h.low.size).mono fun e W' ⟨he, hp⟩ => ⟨he, h.post h1 h2 h3 (h.good.arm _ _ _) (h.few.armD _ _ _ ha) (Nat.le_refl _) hp⟩
theorem tr2_do (a : AV) (h : Tr2 w0 n m g d g' d' W) (hm : m + 1 ≤ 100000) (hl : a.text.length ≤ 1000000) (ha : a.aft ≤ 9223372036854775807) :
    Calls Try.prog 16 #[.pointer (some ⟨g, 0, none⟩), .agg #[.int .i64 a.kind, .int .i64 a.sec, .int .i64 a.byt, .string (str a.text), .bool a.odd, .int .i64 a.aft]] W fun e W' => e = .returned (.tuple #[.string (str (doA d a).1.1), .int .i64 (doA d a).1.2]) ∧ Tr2 w0 n (m + 1) g (doA d a).2 g' d' W' := by
  obtain ⟨M, M', h1, h2, h3⟩ := h.at_
  exact (do_any a W h1 (h.one.fit (by omega)) h.low.size (by have := h.few.ql; omega) hl).mono fun e W' ⟨he, hp⟩ => ⟨he, h.post h1 h2 h3 (h.good.doA _) (h.few.doA _ ha) (Nat.le_succ _) hp⟩
/-- A second disk. -/
theorem tr2_new (hn : 1 ≤ n) (h : Tr w0 n m g d W) :
    Calls Try.prog 13 #[.int .i64 n] W fun e W' => ∃ g', e = .returned (.pointer (some ⟨g', 0, none⟩)) ∧ Tr2 w0 n m g d g' (newD n) W' := by
  obtain ⟨M, gs, qv, av, hd⟩ := h.at_
  refine (new_any n hn h.le W h.low.size).mono ?_
  rintro e W' ⟨g', M', rfl, hd', hM, hb2⟩
  refine ⟨g', rfl, h.le, h.good, h.few, good_new n, ⟨by simp [newD], fun a x y e => by cases e⟩, ⟨M, M', ⟨gs, qv, av, hd.below hb2⟩, hd', fun k k1 k2 => ?_⟩, h.low.trans (hb2.mono h.low.size)⟩
  have := (hd.bb k k1).2
  have := hM k k2
  omega
end

/-! ### One disk, and blocks beside it -/
structure TrM (w0 : World) (n m g : Nat) (d : Dk) (M : Nat → Prop) (W : World) : Prop where
  le : n ≤ 4000
  good : Good n d
  few : Few m d
  at_ : DiskAt W w0.heap.size M g d
  low : Below w0.heap.size w0 W
theorem TrM.tr {w0 W : World} {n m g : Nat} {d : Dk} {M : Nat → Prop} (h : TrM w0 n m g d M W) : Tr w0 n m g d W := ⟨h.le, h.good, h.few, ⟨M, h.at_⟩, h.low⟩
theorem TrM.fit {w0 W : World} {n m g : Nat} {d : Dk} {M : Nat → Prop} (h : TrM w0 n m g d M W) (hm : m ≤ 100000) : Fit n d := Fit.few h.good h.le h.few hm
theorem TrM.below {w0 W W' : World} {n m g : Nat} {d : Dk} {M : Nat → Prop} (h : TrM w0 n m g d M W) (hb : Below W.heap.size W W') : TrM w0 n m g d M W' := by
  obtain ⟨gs, qv, av, hd⟩ := h.at_
  exact ⟨h.le, h.good, h.few, ⟨gs, qv, av, hd.below hb⟩, h.low.trans (hb.mono h.low.size)⟩
theorem TrM.more {w0 W : World} {n m m' g : Nat} {d : Dk} {M : Nat → Prop} (h : TrM w0 n m g d M W) (hm : m ≤ m') : TrM w0 n m' g d M W := ⟨h.le, h.good, ⟨Nat.le_trans h.few.ql hm, h.few.arm⟩, h.at_, h.low⟩
theorem TrM.lt {w0 W : World} {n m g : Nat} {d : Dk} {M : Nat → Prop} (h : TrM w0 n m g d M W) : ∀ k, M k → w0.heap.size ≤ k ∧ k < W.heap.size := by
  obtain ⟨gs, qv, av, hd⟩ := h.at_
  exact hd.bb
theorem TrM.post {w0 W W' : World} {n m m' g : Nat} {d d' : Dk} {M : Nat → Prop} (h : TrM w0 n m g d M W) (hg : Good n d') (hf : Few m' d') (hp : Post W w0.heap.size M g d' W') : ∃ M', TrM w0 n m' g d' M' W' ∧ Moved M M' W W' := by
  obtain ⟨M', hd', hm⟩ := hp
  exact ⟨M', ⟨h.le, hg, hf, hd', h.low.trans (hm.toBelow (fun k hk => (h.lt k hk).1) h.low.size)⟩, hm⟩
/-- A block that is not the disk's. -/
structure Safe (M : Nat → Prop) (k : Nat) (C : Array Value) (T : TypeId) (W : World) : Prop where
  blk : Reg.Blk k C T W
  no : ¬ M k
theorem Safe.moved {M M' : Nat → Prop} {k : Nat} {C : Array Value} {T : TypeId} {W W' : World} (h : Safe M k C T W) (hm : Moved M M' W W') : Safe M' k C T W' :=
  ⟨hm.blk h.blk h.no, fun m => by rcases hm.sub k m with m | m; exact h.no m; have := h.blk.lt; omega⟩
theorem Safe.below {M : Nat → Prop} {k : Nat} {C : Array Value} {T : TypeId} {W W' : World} (h : Safe M k C T W) (hb : Below W.heap.size W W') : Safe M k C T W' := ⟨h.blk.keep hb, h.no⟩
/-- A row that is not the disk's. -/
structure SafeRow (M : Nat → Prop) (B : Nat) (e : TypeId) (sz : Nat) (v : Value) (n : Nat) (xs : List Value) (W : World) : Prop where
  own : W.ownsRow B e sz v n xs
  no : ∀ k, v.ownBlock = some k → ¬ M k
theorem SafeRow.moved {M M' : Nat → Prop} {B : Nat} {e : TypeId} {sz : Nat} {v : Value} {n : Nat} {xs : List Value} {W W' : World} (h : SafeRow M B e sz v n xs W) (hm : Moved M M' W W') : SafeRow M' B e sz v n xs W' := by
  refine ⟨⟨h.own.1, ?_⟩, fun k hk m => by rcases hm.sub k m with m | m; exact h.no k hk m; have := (h.own.lt k hk).2; omega⟩
  rcases h.own.2 with hn | ⟨g', cap, cur, e1, hB, hg, rest⟩
  · exact .inl hn
  · exact .inr ⟨g', cap, cur, e1, hB, (hm.keep.block g' (Array.getElem?_eq_some_iff.1 hg).1 (h.no g' (by rw [e1]; rfl))).trans hg, rest⟩
theorem SafeRow.below {M : Nat → Prop} {B : Nat} {e : TypeId} {sz : Nat} {v : Value} {n : Nat} {xs : List Value} {W W' : World} (h : SafeRow M B e sz v n xs W) (hb : Below W.heap.size W W') : SafeRow M B e sz v n xs W' := ⟨own_below h.own hb, h.no⟩
/-- A row that was made after the disk's blocks. -/
theorem SafeRow.new {M : Nat → Prop} {B : Nat} {e : TypeId} {sz : Nat} {v : Value} {n : Nat} {xs : List Value} {W : World} (h : W.ownsRow B e sz v n xs) (hM : ∀ k, M k → k < B) : SafeRow M B e sz v n xs W :=
  ⟨h, fun k hk m => by have := (h.lt k hk).1; have := hM k m; omega⟩
theorem SafeRow.strs {M : Nat → Prop} {B n c : Nat} {A : Option Addr} {l : List Tx} {W : World} (h : SafeRow M B 9 1 (.slice A n c) n (sv l) W) (hn : l.length = n) : StrsAt W A l := StrsAt.own h.own hn
section
variable {w0 W : World} {n m g : Nat} {d : Dk} {M : Nat → Prop}
theorem tm_write (s : Int) (t : Tx) (h : TrM w0 n m g d M W) (hm : m + 1 ≤ 100000) :
    Calls Try.prog 23 #[.pointer (some ⟨g, 0, none⟩), .int .i64 s, .string (str t)] W fun e W' => e = .returned (.int .i64 (write d s t).1) ∧ ∃ M', TrM w0 n (m + 1) g (write d s t).2 M' W' ∧ Moved M M' W W' :=
  (write_any s t W h.at_ (h.fit (by omega)) h.low.size (by have := h.few.ql; omega)).mono fun e W' ⟨he, hp⟩ => ⟨he, h.post (h.good.write _ _) (h.few.write _ _) hp⟩
theorem tm_sync (h : TrM w0 n m g d M W) (hm : m ≤ 100000) :
    Calls Try.prog 21 #[.pointer (some ⟨g, 0, none⟩)] W fun e W' => e = .returned (.int .i64 (sync d).1) ∧ ∃ M', TrM w0 n m g (sync d).2 M' W' ∧ Moved M M' W W' :=
  (sync_any W h.at_ (h.fit hm)).mono fun e W' ⟨he, hp⟩ => ⟨he, h.post h.good.sync h.few.sync hp⟩
theorem tm_fail (x y : Int) (h : TrM w0 n m g d M W) (hm : m ≤ 100000) :
    Calls Try.prog 25 #[.pointer (some ⟨g, 0, none⟩), .int .i64 x, .int .i64 y] W fun e W' => e = .returned (.tuple #[]) ∧ ∃ M', TrM w0 n m g (fail d x y) M' W' ∧ Moved M M' W W' :=
  (fail_any x y W h.at_ (h.fit hm)).mono fun e W' ⟨he, hp⟩ => ⟨he, h.post (h.good.fail _ _) (h.few.fail _ _) hp⟩
theorem tm_start (h : TrM w0 n m g d M W) :
    Calls Try.prog 20 #[.pointer (some ⟨g, 0, none⟩)] W fun e W' => e = .returned (.tuple #[]) ∧ ∃ M', TrM w0 n m g (start d) M' W' ∧ Moved M M' W W' :=
  (start_any W h.at_).mono fun e W' ⟨he, hp⟩ => ⟨he, h.post h.good.start h.few.start hp⟩
theorem tm_rot (s a x : Int) (h : TrM w0 n m g d M W) (hm : m ≤ 100000) :
    Calls Try.prog 30 #[.pointer (some ⟨g, 0, none⟩), .int .i64 s, .int .i64 a, .int .i64 x] W fun e W' => e = .returned (.tuple #[]) ∧ ∃ M', TrM w0 n m g (rot d s a x) M' W' ∧ Moved M M' W W' :=
  (rot_any s a x W h.at_ (h.fit hm)).mono fun e W' ⟨he, hp⟩ => ⟨he, h.post (h.good.rot _ _ _) (h.few.rot _ _ _) hp⟩
theorem tm_do (a : AV) (h : TrM w0 n m g d M W) (hm : m + 1 ≤ 100000) (hl : a.text.length ≤ 1000000) (ha : a.aft ≤ 9223372036854775807) :
    Calls Try.prog 16 #[.pointer (some ⟨g, 0, none⟩), .agg #[.int .i64 a.kind, .int .i64 a.sec, .int .i64 a.byt, .string (str a.text), .bool a.odd, .int .i64 a.aft]] W fun e W' =>
      e = .returned (.tuple #[.string (str (doA d a).1.1), .int .i64 (doA d a).1.2]) ∧ ∃ M', TrM w0 n (m + 1) g (doA d a).2 M' W' ∧ Moved M M' W W' :=
  (do_any a W h.at_ (h.fit (by omega)) h.low.size (by have := h.few.ql; omega) hl).mono fun e W' ⟨he, hp⟩ => ⟨he, h.post (h.good.doA _) (h.few.doA _ ha) hp⟩
theorem tm_new (n : Nat) (hn : 1 ≤ n) (hn2 : n ≤ 4000) (hb : Below w0.heap.size w0 W) :
    Calls Try.prog 13 #[.int .i64 n] W fun e W' => ∃ g M, e = .returned (.pointer (some ⟨g, 0, none⟩)) ∧ TrM w0 n 0 g (newD n) M W' ∧ (∀ k, M k → W.heap.size ≤ k) ∧ Below W.heap.size W W' := by
  refine (new_any n hn hn2 W hb.size).mono ?_
  rintro e W' ⟨g, M, rfl, hd, hM, hb2⟩
  exact ⟨g, M, rfl, ⟨hn2, good_new n, few_new n, hd, hb.trans (hb2.mono hb.size)⟩, hM, hb2⟩
end

theorem own_of {w w' : World} {B : Nat} {e : TypeId} {size n : Nat} {v : Value} {xs : List Value} (h : w.ownsRow B e size v n xs) (hb : ∀ k, v.ownBlock = some k → w'.heap[k]? = w.heap[k]?) : w'.ownsRow B e size v n xs := by
  refine ⟨h.1, ?_⟩
  rcases h.2 with hn | ⟨g', cap, cur, e1, hB, hg, rest⟩
  · exact .inl hn
  · exact .inr ⟨g', cap, cur, e1, hB, (hb g' (by rw [e1]; rfl)).trans hg, rest⟩
theorem TrM.set {w0 W : World} {n m g : Nat} {d : Dk} {M : Nat → Prop} (h : TrM w0 n m g d M W) (a : Addr) (v : Value) (hM : ¬ M a.block) (hl : w0.heap.size ≤ a.block) : TrM w0 n m g d M (W.setCell a v) := by
  obtain ⟨gs, qv, av, hd⟩ := h.at_
  exact ⟨h.le, h.good, h.few, ⟨gs, qv, av, hd.set a v hM⟩, h.low.setCell hl v⟩
theorem sv_set (l : List Tx) (j : Nat) (t : Tx) : (sv l).set j (.string (str t)) = sv (l.set j t) := by simp [sv]
theorem sv_get (l : List Tx) (j : Nat) : (sv l)[j]? = (l[j]?).map fun t => Value.string (str t) := by simp [sv]

theorem run_idx (t : Tx) (k : Nat) {x : UInt8} (h : t[k]? = some x) (W : World) : (Instr.index 9 (.string (str t)) (.int .i64 (k : Int))).run Try.prog W = .ok (.int .u8 (x.toNat : Int)) W := by
  have hk : k < t.length := (List.getElem?_eq_some_iff.1 h).1
  rw [run_index_string W 9 (str t) .i64 (k : Int) Try.underlying9, dif_pos ⟨by omega, by rw [str_size]; omega⟩]
  have e : (str t)[(k : Int).toNat]'(by rw [str_size]; simpa using hk) = x := by
    have := (List.getElem?_eq_some_iff.1 h).2
    show (str t).data[k] = x
    simp [str, this]
  rw [e]

end D
end Go.Proofs.Ytopjekdhecikdaa
