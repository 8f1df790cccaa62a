/- Disk: 'place', 'at'. -/
import Derived.Test.YtopjekdhecikdaaDe
set_option linter.unusedSimpArgs false
set_option linter.unusedVariables false
set_option maxRecDepth 100000
namespace Go.Proofs.Ytopjekdhecikdaa
open Go.RowKit
namespace D

/-- What is asked of a disk: n sectors, and how many writes wait. -/
structure Fit (n : Nat) (d : Dk) : Prop where
  good : Good n d
  n : n ≤ 4000
  ql : d.q.length ≤ 100000
  arm : ∀ a x y, d.arm = some (a, x, y) → a ≤ 9223372036854775807

theorem isAt_true {n : Nat} {d : Dk} (h : Good n d) {s : Int} (hs : isAt d s = true) : 0 ≤ s ∧ s < n := by
  rw [isAt_of h] at hs; simpa using hs
theorem isAt_false {n : Nat} {d : Dk} (h : Good n d) {s : Int} (hs : isAt d s = false) : s < 0 ∨ (n : Int) ≤ s := by
  rw [isAt_of h] at hs; simp at hs; omega

theorem place_yes (s : Int) (w : World) {B g n : Nat} {M : Nat → Prop} {d : Dk} (hd : DiskAt w B M g d) (hf : Fit n d) (hs : isAt d s = true) :
    Calls Try.prog 44 #[.pointer (some ⟨g, 0, none⟩), .int .i64 s] w fun e w' =>
      e = .returned (.tuple #[.agg #[.int .i64 (s * 64), .int .i64 ((s + 1) * 64)], .bool true]) ∧ Below w.heap.size w w' := by
  obtain ⟨gs, qv, av, h⟩ := hd
  obtain ⟨ckd, fkd, zkd⟩ := h.blk.facts
  obtain ⟨s1, s2⟩ := isAt_true hf.good hs
  have hl := hf.good.len
  have hn := hf.n
  have b1 : 0 ≤ s := s1
  have b2 : s < (d.st.length : Int) / 64 := by omega
  have b3 : s ≤ 4000 := by omega
  have b4 : d.st.length ≤ 256000 := by omega
  have z1 : g < w.heap.size + 1 := by omega
  clear hl hn s1 s2 h hf hs
  go_enter Try.func44, Try.ntmps44
  go_wp2
  refine bodyPost_ret (v := .tuple #[.agg #[.int .i64 (s * 64), .int .i64 ((s + 1) * 64)], .bool true]) (by simp [results, Try.results44, go_sem]) rfl ⟨rfl, ?_⟩
  repeat (first | exact Below.refl _ _ | assumption | (refine Below.setCell ?_ (by first | (simp; done) | (simp; omega) | omega) _) | (refine Below.alloc ?_ (by first | (simp; done) | (simp; omega) | omega) _) | (refine Below.drew ?_))
theorem place_no (s : Int) (w : World) {B g n : Nat} {M : Nat → Prop} {d : Dk} (hd : DiskAt w B M g d) (hf : Fit n d) (hs : isAt d s = false) :
    Calls Try.prog 44 #[.pointer (some ⟨g, 0, none⟩), .int .i64 s] w fun e w' =>
      e = .returned (.tuple #[.agg #[.int .i64 0, .int .i64 0], .bool false]) ∧ Below w.heap.size w w' := by
  obtain ⟨gs, qv, av, h⟩ := hd
  obtain ⟨ckd, fkd, zkd⟩ := h.blk.facts
  have s1 := isAt_false hf.good hs
  have hl := hf.good.len
  have hn := hf.n
  have b4 : d.st.length ≤ 256000 := by omega
  have z1 : g < w.heap.size + 1 := by omega
  rcases s1 with s1 | s1
  · clear hl hn h hf hs
    go_enter Try.func44, Try.ntmps44
    go_wp2
    refine bodyPost_ret (v := .tuple #[.agg #[.int .i64 0, .int .i64 0], .bool false]) (by simp [results, Try.results44, go_sem]) rfl ⟨rfl, ?_⟩
    repeat (first | exact Below.refl _ _ | assumption | (refine Below.setCell ?_ (by first | (simp; done) | (simp; omega) | omega) _) | (refine Below.alloc ?_ (by first | (simp; done) | (simp; omega) | omega) _) | (refine Below.drew ?_))
  · have b1 : 0 ≤ s := by omega
    have b2 : (d.st.length : Int) / 64 ≤ s := by omega
    clear hl hn h hf hs s1
    go_enter Try.func44, Try.ntmps44
    go_wp2
    refine bodyPost_ret (v := .tuple #[.agg #[.int .i64 0, .int .i64 0], .bool false]) (by simp [results, Try.results44, go_sem]) rfl ⟨rfl, ?_⟩
    repeat (first | exact Below.refl _ _ | assumption | (refine Below.setCell ?_ (by first | (simp; done) | (simp; omega) | omega) _) | (refine Below.alloc ?_ (by first | (simp; done) | (simp; omega) | omega) _) | (refine Below.drew ?_))

theorem at_off (s : Int) (w : World) {B g : Nat} {M : Nat → Prop} {d : Dk} (hd : DiskAt w B M g d) (ho : d.off = true) :
    Calls Try.prog 40 #[.pointer (some ⟨g, 0, none⟩), .int .i64 s] w fun e w' =>
      e = .returned (.tuple #[.agg #[.int .i64 0, .int .i64 0], .int .i64 21]) ∧ Below w.heap.size w w' := by
  obtain ⟨gs, qv, av, h⟩ := hd
  obtain ⟨ckd, fkd, zkd⟩ := h.blk.facts
  have z1 : g < w.heap.size + 1 := by omega
  clear h
  go_enter Try.func40, Try.ntmps40
  go_wp2
  refine bodyPost_ret (v := .tuple #[.agg #[.int .i64 0, .int .i64 0], .int .i64 21]) (by simp [results, Try.results40, go_sem]) rfl ⟨rfl, ?_⟩
  repeat (first | exact Below.refl _ _ | assumption | (refine Below.setCell ?_ (by first | (simp; done) | (simp; omega) | omega) _) | (refine Below.alloc ?_ (by first | (simp; done) | (simp; omega) | omega) _) | (refine Below.drew ?_))
theorem at_yes (s : Int) (w : World) {B g n : Nat} {M : Nat → Prop} {d : Dk} (hd : DiskAt w B M g d) (hf : Fit n d) (ho : d.off = false) (hs : isAt d s = true) :
    Calls Try.prog 40 #[.pointer (some ⟨g, 0, none⟩), .int .i64 s] w fun e w' =>
      e = .returned (.tuple #[.agg #[.int .i64 (s * 64), .int .i64 ((s + 1) * 64)], .int .i64 0]) ∧ Below w.heap.size w w' := by
  obtain ⟨gs, qv, av, h⟩ := hd
  obtain ⟨ckd, fkd, zkd⟩ := h.blk.facts
  have z1 : g < w.heap.size + 1 := by omega
  have hp := fun o => place_yes s (w.alloc o) ⟨gs, qv, av, h.alloc o⟩ hf hs
  have HP := Lib.hid hp
  clear h hp
  go_enter Try.func40, Try.ntmps40
  go_wp2_with fail
  go_at_call 44
  (with_reducible refine (HP.out _).mono ?_); rintro e w1 ⟨rfl, hb⟩
  have kr := Reg.Blk.new1 hb
  obtain ⟨ckr, fkr, zkr⟩ := kr.facts
  have z2 : w.heap.size < w1.heap.size + 1 := by omega
  go_wp2
  refine bodyPost_ret (v := .tuple #[.agg #[.int .i64 (s * 64), .int .i64 ((s + 1) * 64)], .int .i64 0]) (by simp [results, Try.results40, go_sem, *]) rfl ⟨rfl, ?_⟩
  have hw1 : Below w.heap.size w w1 := ((Below.refl _ _).alloc (Nat.le_refl _) _).trans (hb.mono (by simp))
  repeat (first | exact Below.refl _ _ | assumption | (refine Below.setCell ?_ (by first | (simp; done) | (simp; omega) | omega) _) | (refine Below.alloc ?_ (by first | (simp; done) | (simp; omega) | omega) _) | (refine Below.drew ?_))
theorem at_no (s : Int) (w : World) {B g n : Nat} {M : Nat → Prop} {d : Dk} (hd : DiskAt w B M g d) (hf : Fit n d) (ho : d.off = false) (hs : isAt d s = false) :
    Calls Try.prog 40 #[.pointer (some ⟨g, 0, none⟩), .int .i64 s] w fun e w' =>
      e = .returned (.tuple #[.agg #[.int .i64 0, .int .i64 0], .int .i64 1]) ∧ Below w.heap.size w w' := by
  obtain ⟨gs, qv, av, h⟩ := hd
  obtain ⟨ckd, fkd, zkd⟩ := h.blk.facts
  have z1 : g < w.heap.size + 1 := by omega
  have hp := fun o => place_no s (w.alloc o) ⟨gs, qv, av, h.alloc o⟩ hf hs
  have HP := Lib.hid hp
  clear h hp
  go_enter Try.func40, Try.ntmps40
  go_wp2_with fail
  go_at_call 44
  (with_reducible refine (HP.out _).mono ?_); rintro e w1 ⟨rfl, hb⟩
  have kr := Reg.Blk.new1 hb
  obtain ⟨ckr, fkr, zkr⟩ := kr.facts
  have z2 : w.heap.size < w1.heap.size + 1 := by omega
  go_wp2
  refine bodyPost_ret (v := .tuple #[.agg #[.int .i64 0, .int .i64 0], .int .i64 1]) (by simp [results, Try.results40, go_sem, *]) rfl ⟨rfl, ?_⟩
  have hw1 : Below w.heap.size w w1 := ((Below.refl _ _).alloc (Nat.le_refl _) _).trans (hb.mono (by simp))
  repeat (first | exact Below.refl _ _ | assumption | (refine Below.setCell ?_ (by first | (simp; done) | (simp; omega) | omega) _) | (refine Below.alloc ?_ (by first | (simp; done) | (simp; omega) | omega) _) | (refine Below.drew ?_))

end D
end Go.Proofs.Ytopjekdhecikdaa
