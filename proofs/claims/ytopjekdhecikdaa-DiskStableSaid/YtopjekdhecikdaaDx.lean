/- Disk's law: a row of booleans beside the disk; what was written after a Sync. -/
import Derived.Test.YtopjekdhecikdaaDu
import Derived.Test.YtopjekdhecikdaaDl
set_option linter.unusedSimpArgs false
set_option linter.unusedVariables false
set_option maxRecDepth 100000
namespace Go.Proofs.Ytopjekdhecikdaa
open Go.RowKit
namespace D

def bv (l : List Bool) : Array Value := (l.map Value.bool).toArray
theorem bv_get {l : List Bool} {i : Nat} {b : Bool} (h : l[i]? = some b) : (bv l)[i]? = some (.bool b) := by simp [bv, h]
theorem bv_set (l : List Bool) (i : Nat) (b : Bool) : (bv l).setIfInBounds i (.bool b) = bv (l.set i b) := by simp [bv]

theorem info_bool : (Try.prog.info? 4).map (fun i => (i.zero, i.size, i.bytes)) = some (some (.bool false), 1, 1) := by kernel_rfl
theorem make_bools (n : Nat) (hn : n ≤ 4000) (w : World) : (Instr.makeSlice 42 (.int .i64 (n : Int)) (.int .i64 (n : Int))).run Try.prog w =
    .ok (.slice (some ⟨w.heap.size, 0, none⟩) n n) (w.alloc (.cells (bv (List.replicate n false)) 4)) := by
  obtain ⟨i0, hi, hz0, hz1, hz2⟩ := info_parts info_bool
  have hr := run_make (P := Try.prog) w 42 4 i0 _ Try.underlying42 hi hz0 .i64 .i64 (n : Int) (n : Int) (by omega) (Int.le_refl _) (by rw [hz2]; omega) (by omega)
  rw [hr]
  have e : (n : Int).toNat = n := by omega
  rw [e, hz1]
  congr 3
  apply Array.ext'
  simp only [Nat.mul_one]
  show (madeCells #[Value.bool false] n).toList = _
  rw [toList_madeCells_one]
  simp [bv]

theorem Safe.set {M : Nat → Prop} {k : Nat} {C : Array Value} {T : TypeId} {W : World} (h : Safe M k C T W) (j : Nat) (v : Value) : Safe M k (C.setIfInBounds j v) T (W.setCell ⟨k, j, none⟩ v) :=
  ⟨((Reg.Upd.refl h.blk).set j v).at_, h.no⟩
theorem SafeRow.set {M : Nat → Prop} {B : Nat} {e : TypeId} {sz : Nat} {v : Value} {n : Nat} {xs : List Value} {W : World} (h : SafeRow M B e sz v n xs W) (a : Addr) (x : Value) (hne : ∀ k, v.ownBlock = some k → k ≠ a.block) :
    SafeRow M B e sz v n xs (W.setCell a x) := ⟨own_of h.own fun k hk => Below.heap_setCell _ _ _ _ (hne k hk), h.no⟩

/-! ### What was written after a Sync -/
structure Wrote (N : Nat) (d0 d : Dk) (wr : List Bool) : Prop where
  off : d.off = false
  arm : d.arm = none
  st : d.st = d0.st
  len : wr.length = N
  q : ∀ p ∈ d.q, wr[p.1]? = some true
theorem Wrote.none_ {N : Nat} {d : Dk} (ho : d.off = false) (ha : d.arm = none) (hq : d.q = []) : Wrote N d d (List.replicate N false) :=
  ⟨ho, ha, rfl, by simp, fun p hp => by rw [hq] at hp; simp at hp⟩
theorem Wrote.more {N : Nat} {d0 d : Dk} {wr : List Bool} (h : Wrote N d0 d wr) {s : Nat} (hs : s < N) (t : Tx) : Wrote N d0 { d with q := d.q ++ [(s, t)] } (wr.set s true) := by
  refine ⟨h.off, h.arm, h.st, by rw [List.length_set, h.len], fun p hp => ?_⟩
  rw [List.getElem?_set]
  rcases List.mem_append.1 hp with hp | hp
  · by_cases e : s = p.1
    · rw [if_pos e, if_pos (by rw [h.len]; exact hs)]
    · rw [if_neg e]; exact h.q p hp
  · simp at hp
    subst hp
    rw [if_pos rfl, if_pos (by rw [h.len]; exact hs)]
theorem eff_done (d : Dk) : eff (start ⟨d.st, [], true, none⟩) = d.st := rfl
/-- A sector that was not written has what it had. -/
theorem Wrote.stable {N : Nat} {d0 d : Dk} {wr : List Bool} (h : Wrote N d0 d wr) (hg : Good N d) (x y : Int) {s : Nat} (hs : wr[s]? = some false) : sec (eff (start (fail d x y))) s = sec d0.st s := by
  have hno : ∀ p ∈ d.q, p.1 ≠ s := fun p hp e => by have := h.q p hp; rw [e, hs] at this; cases this
  have e : eff (start (fail d x y)) = torn (settle d.st (d.q.take (clip x d.q.length))) d.q (clip x d.q.length) (clip y 64) := by
    unfold fail
    rw [if_neg (by simp [h.off])]
    rfl
  rw [e]
  have e2 : sec (settle d.st (d.q.take (clip x d.q.length))) s = sec d0.st s := by
    rw [sec_settle_other hg.len (mem_take hg.q) (mem_take hno), h.st]
  have hl := length_settle hg.len (mem_take (n := clip x d.q.length) hg.q)
  unfold torn
  cases ep : d.q[clip x d.q.length]? with
  | none => exact e2
  | some p =>
    have hp := hg.q p (List.mem_of_getElem? ep)
    have hps := hno p (List.mem_of_getElem? ep)
    show sec (put _ p.1 (p.2.take (clip y 64))) s = _
    rw [sec_put_other (fun h => hps h.symm) (by simp; omega) (by rw [hl]; simp; omega)]
    exact e2

end D
end Go.Proofs.Ytopjekdhecikdaa
