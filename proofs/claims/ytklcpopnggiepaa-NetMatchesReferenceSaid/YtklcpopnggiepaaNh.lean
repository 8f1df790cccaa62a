/- Net: the deferred half of 'Deliver'. -/
import Derived.Test.YtklcpopnggiepaaNg
import Derived.Lib.OwnBridge
set_option linter.unusedSimpArgs false
set_option linter.unusedVariables false
set_option maxRecDepth 100000
namespace Go.Proofs.Ytklcpopnggiepaa
open Go.RowKit
namespace N

theorem sv_enc (l : List Tx) : sv l = l.map Go.Proofs.encStr := rfl
theorem delete_any {w : World} {B n gg cap : Nat} {l : List Tx} (h : w.ownsRow B 9 1 (.slice (some ⟨gg, 0, none⟩) n cap) n (sv l)) (hn : l.length = n) (k : Nat) (hk : k < n) :
    Calls Try.prog 25 #[.slice (some ⟨gg, 0, none⟩) n cap, .int .i64 k, .int .i64 ((k : Int) + 1)] w fun e w' =>
      e = .returned (.slice (some ⟨gg, 0, none⟩) (n - 1) cap) ∧ w'.ownsRow B 9 1 (.slice (some ⟨gg, 0, none⟩) (n - 1) cap) (n - 1) (sv (cutAt l k)) ∧ Turned gg w w' := by
  rw [sv_enc] at h
  obtain ⟨g', cap', e, hB, hlt, hc, hm, hl, hH⟩ := Lib.holds_of_ownsRow h (by simp)
  injection e with e1 _ e3
  injection e1 with e1
  injection e1 with e1
  subst e1; subst e3
  have q := Try.slices_Delete_string gg 0 cap k (k + 1) l w hH (by omega) (by unfold maxLen at hm; omega) (by omega) (by omega)
  rw [hl] at q
  rw [Int.natCast_add] at q
  refine q.mono ?_
  rintro e w' ⟨rfl, qn, rfl⟩
  have hlen : (l.take k ++ l.drop (k + 1) ++ List.replicate (k + 1 - k) ([] : Tx)).length = n := by simp; omega
  refine ⟨by rw [show k + 1 - k = 1 from by omega], ?_, ?_⟩
  · have := Lib.ownsRow_putRow (q := qn) (k := n - 1) h hlen (by omega)
    rw [sv_enc]
    have e : (l.take k ++ l.drop (k + 1) ++ List.replicate (k + 1 - k) ([] : Tx)).take (n - 1) = cutAt l k := by
      unfold cutAt
      rw [List.take_append_of_le_length (by simp; omega), List.take_of_length_le (by simp; omega)]
    rw [e] at this
    exact this
  · refine ⟨by simp [Go.Sort.putRow, Go.Sort.mapBlock, Go.Sort.ahead], fun j hj => ?_, rfl, rfl, rfl⟩
    simp [Go.Sort.putRow, Go.Sort.mapBlock, Go.Sort.ahead, Array.getElem?_modify, Ne.symm hj]

def delM (bq N0 k : Nat) : Prop := k = bq ∨ N0 ≤ k
def DelT (N0 B bq : Nat) (fq : Int → Int → Option Value) (a b : Int) (n k : Nat) (l : List Tx) : List Value → World → Prop
  | [], W => MapIs Try.prog 59 W bq fq ∧ W.ownsRow B 9 1 (qv fq a b) n (sv l)
  | [x], W => MapIs Try.prog 59 W bq fq ∧ x = qv fq a b ∧ W.ownsRow B 9 1 (qv fq a b) n (sv l)
  | [_, x], W => MapIs Try.prog 59 W bq fq ∧ ∃ gg cap, x = .slice (some ⟨gg, 0, none⟩) n cap ∧ W.ownsRow N0 9 1 x n (sv l)
  | [_, _, y], W => MapIs Try.prog 59 W bq fq ∧ ∃ gg cap, y = .slice (some ⟨gg, 0, none⟩) (n - 1) cap ∧ W.ownsRow N0 9 1 y (n - 1) (sv (cutAt l k))
  | [_, _, y, _], W => MapIs Try.prog 59 W bq (upd fq a b y) ∧ ∃ gg cap, y = .slice (some ⟨gg, 0, none⟩) (n - 1) cap ∧ W.ownsRow N0 9 1 y (n - 1) (sv (cutAt l k))
  | _, _ => False
theorem delT_stays {N0 B bq : Nat} {fq : Int → Int → Option Value} {a b : Int} {n k : Nat} {l : List Tx} : ∀ vs w w', DelT N0 B bq fq a b n k l vs w → Below w.heap.size w w' → DelT N0 B bq fq a b n k l vs w' := by
  intro vs w w' h hb
  match vs, h with
  | [], ⟨h1, h2⟩ => exact ⟨h1.same (hb.block _ h1.lt), own_below h2 hb⟩
  | [x], ⟨h1, e, h2⟩ => exact ⟨h1.same (hb.block _ h1.lt), e, own_below h2 hb⟩
  | [x, y], ⟨h1, gg, cap, e, h2⟩ => exact ⟨h1.same (hb.block _ h1.lt), gg, cap, e, own_below h2 hb⟩
  | [x, y, z], ⟨h1, gg, cap, e, h2⟩ => exact ⟨h1.same (hb.block _ h1.lt), gg, cap, e, own_below h2 hb⟩
  | [x, y, z, u], ⟨h1, gg, cap, e, h2⟩ => exact ⟨h1.same (hb.block _ h1.lt), gg, cap, e, own_below h2 hb⟩

set_option maxHeartbeats 4000000 in
theorem gone_any (a b : Int) (ha : B64 a) (hb : B64 b) (k : Nat) (g0 gw gk : Nat) (T0 : TypeId) (u : FrameMode) (w : World) {B g : Nat} {M : Nat → Prop} {d : Nt} (hB : B ≤ w.heap.size) (hd : NetAt w B M g d) (hk : k < (d.q a b).length) (hq : (d.q a b).length ≤ 1000000)
    (k0 : Reg.Blk g0 #[.pointer (some ⟨g, 0, none⟩)] T0 w) (kw : Reg.Blk gw #[.int .i64 a, .int .i64 b] 59 w) (kk : Reg.Blk gk #[.int .i64 k] 3 w) :
    CallsD Try.prog 24 #[.pointer (some ⟨g0, 0, none⟩), .pointer (some ⟨gw, 0, none⟩), .pointer (some ⟨gk, 0, none⟩)] u w fun e u' w' => u' = u ∧ (e = .returned (.tuple #[]) ∧ Post w B M g (cutD d a b k) w') := by
  obtain ⟨bq, bc, fq, fc, h⟩ := hd
  obtain ⟨c0, f0, z0⟩ := k0.facts
  obtain ⟨cw, fw, zw⟩ := kw.facts
  obtain ⟨ck, fk, zk⟩ := kk.facts
  obtain ⟨cd, fd, zd⟩ := h.blk.facts
  have nM : ∀ {x : Nat} {C : Array Value} {T : TypeId}, Reg.Blk x C T w → ¬ delM bq w.heap.size x := fun {x C T} hx m => by
    rcases m with m | m
    · exact h.mpq.not_cells hx m
    · have := hx.lt; omega
  have n0 := nM k0
  have nw := nM kw
  have nk := nM kk
  have nd := nM h.blk
  have hwr : IntKind.i64.wrap ((k : Int) + 1) = (k : Int) + 1 := IntWalk.i64_in _ (by omega)
  have hl := fun (W : World) (hW : Reg.Keep (delM bq w.heap.size) w W) (hm : MapIs Try.prog 59 W bq fq) => True
  obtain ⟨kl, hkl⟩ := key_of ha hb
  have H := Lib.hid h
  clear h hl
  go_enter_d Try.func24, Try.ntmps24
  go_wp2_with fail
  refine Reg.wp_region_eff (delM bq w.heap.size) (fun _ _ _ => True) (DelT w.heap.size B bq fq a b (d.q a b).length k (d.q a b)) (by kernel_rfl) (by kernel_rfl) (fun _ _ _ _ _ _ => trivial) delT_stays ⟨H.out.mpq, H.out.row a b⟩ ?_
  simp only
  iterate 10
    apply Reg.SeqE.val
    rotate_left 2
    · intro δ W hW hkn K hK
      obtain ⟨hc, hf, _⟩ := Reg.kcell hW
      simp only [Act.put, List.setIfInBounds_toArray, List.set_cons_zero, List.set_cons_succ] at hK
      unfold Reg.Does
      go_simp
      try simp only [IntWalk.i64_left]
      first
        | exact hK _ (Below.refl _ _)
    rotate_left 1
    · intro δ δ' hd; first | rfl | (simp only [hd _ (show Reg.reach _ 12 _ _ = true by kernel_rfl)])
    · intro x w; exact trivial
    simp only [Act.put, List.setIfInBounds_toArray, List.set_cons_zero, List.set_cons_succ, List.nil_append, List.cons_append, Nat.reduceAdd, Nat.zero_add]
  -- the look-up
  refine Reg.SeqE.eff (fun e h => by simp at h) (fun δ W3 hW3 hkn hT3 K hK => ?_) ?_
  · simp only [Act.put, List.setIfInBounds_toArray, List.set_cons_zero, List.set_cons_succ] at hK
    obtain ⟨t1, t2⟩ := hT3
    have hrun : (Instr.lookup 54 (.map (some bq)) (.agg #[.int .i64 a, .int .i64 b]) false).run Try.prog W3 = .ok (qv fq a b) W3 := t1.lookup key_law Try.underlying54 (zero_row W3) hkl
    have hTn := Lib.hid (show DelT w.heap.size B bq fq a b (d.q a b).length k (d.q a b) ([] ++ [qv fq a b]) W3 from ⟨t1, rfl, t2⟩)
    clear t1 t2
    unfold Reg.Does
    go_simp
    exact hK _ _ (Reg.Keep.refl _ _) trivial hTn.out
  simp only [Act.put, List.setIfInBounds_toArray, List.set_cons_zero, List.set_cons_succ, List.nil_append, List.cons_append, Nat.reduceAdd, Nat.zero_add]
  -- the copy
  refine Reg.SeqE.eff (fun e h => ?_) (fun δ W3 hW3 hkn hT3 K hK => ?_) ?_
  · simp only [List.getLast?_singleton, Option.some.injEq] at h
    subst h
    kernel_rfl
  · obtain ⟨t1, e10, t2⟩ := hT3
    have hC := Lib.hid (clone_any t2 rfl hq)
    have t1' := Lib.hid t1
    clear t1 t2
    simp only [Act.put, List.setIfInBounds_toArray, List.set_cons_zero, List.set_cons_succ] at hK
    have e10' : δ 10 = qv fq a b := e10
    rw [e10'] at hK
    unfold Reg.Does
    go_simp
    (with_reducible refine hC.out.mono ?_); rintro e w4 ⟨v, rfl, ho, hb4⟩
    obtain ⟨gg, cap, hv, _, hlt⟩ := ho.form (by omega)
    exact hK _ _ (Reg.Keep.ofBelow hb4) trivial ⟨t1'.out.same (hb4.block _ t1'.out.lt), gg, cap, hv, own_base ho hW3.size⟩
  simp only [Act.put, List.setIfInBounds_toArray, List.set_cons_zero, List.set_cons_succ, List.nil_append, List.cons_append, Nat.reduceAdd, Nat.zero_add]
  iterate 3
    apply Reg.SeqE.val
    rotate_left 2
    · intro δ W hW hkn K hK
      obtain ⟨hc, hf, _⟩ := Reg.kcell hW
      simp only [Act.put, List.setIfInBounds_toArray, List.set_cons_zero, List.set_cons_succ] at hK
      unfold Reg.Does
      go_simp
      try simp only [IntWalk.i64_left]
      first
        | exact hK _ (Below.refl _ _)
    rotate_left 1
    · intro δ δ' hd; first | rfl | (simp only [hd _ (show Reg.reach _ 12 _ _ = true by kernel_rfl)])
    · intro x w; exact trivial
    simp only [Act.put, List.setIfInBounds_toArray, List.set_cons_zero, List.set_cons_succ, List.nil_append, List.cons_append, Nat.reduceAdd, Nat.zero_add]
  -- the element is struck out of the copy
  refine Reg.SeqE.eff (fun e h => ?_) (fun δ W3 hW3 hkn hT3 K hK => ?_) ?_
  · simp only [List.getLast?_cons_cons, List.getLast?_singleton, Option.some.injEq] at h
    subst h
    kernel_rfl
  · obtain ⟨t1, gg, cap, e11, t2⟩ := hT3
    have e11' : δ 11 = .slice (some ⟨gg, 0, none⟩) (d.q a b).length cap := e11
    rw [e11] at t2
    have hgg : w.heap.size ≤ gg := (t2.lt gg rfl).1
    have hne : bq ≠ gg := by have := H.out.mpq.lt; omega
    have hC := Lib.hid (delete_any t2 rfl k hk)
    have t1' := Lib.hid t1
    clear t1 t2 e11
    simp only [Act.put, List.setIfInBounds_toArray, List.set_cons_zero, List.set_cons_succ] at hK
    rw [e11'] at hK
    unfold Reg.Does
    go_simp
    (with_reducible refine hC.out.mono ?_); rintro e w4 ⟨rfl, ho, htn⟩
    exact hK _ _ ⟨htn.os, htn.tape, htn.output, by rw [htn.size]; exact Nat.le_refl _, fun j _ hn => htn.far j (fun e => hn (.inr (by rw [e]; exact hgg)))⟩ trivial ⟨t1'.out.same (htn.far _ hne), gg, cap, rfl, ho⟩
  simp only [Act.put, List.setIfInBounds_toArray, List.set_cons_zero, List.set_cons_succ, List.nil_append, List.cons_append, Nat.reduceAdd, Nat.zero_add]
  -- the store
  refine Reg.SeqE.eff (fun e h => ?_) (fun δ W3 hW3 hkn hT3 K hK => ?_) ?_
  · simp only [List.getLast?_cons_cons, List.getLast?_singleton, Option.some.injEq] at h
    subst h
    kernel_rfl
  · obtain ⟨t1, gg, cap, e15, t2⟩ := hT3
    have hgg : w.heap.size ≤ gg := by rw [e15] at t2; exact (t2.lt gg rfl).1
    have hne : gg ≠ bq := by have := H.out.mpq.lt; omega
    obtain ⟨w4, hrun, hm, htn⟩ := t1.update (T := 54) (v := δ 15) key_law Try.underlying54 hkl
    have hrun' : (Instr.mapUpdate 54 (.map (some bq)) (.agg #[.int .i64 a, .int .i64 b]) (δ 15)).run Try.prog W3 = .ok () w4 := hrun
    have hKeep : Reg.Keep (delM bq w.heap.size) W3 w4 := ⟨htn.os, htn.tape, htn.output, by rw [htn.size]; exact Nat.le_refl _, fun j _ hn => htn.far j (fun e => hn (.inl e))⟩
    have ho : w4.ownsRow w.heap.size 9 1 (δ 15) ((d.q a b).length - 1) (sv (cutAt (d.q a b) k)) := own_of t2 fun j hj => htn.far j (fun e => by
      have e15' : δ 15 = .slice (some ⟨gg, 0, none⟩) ((d.q a b).length - 1) cap := e15
      rw [e15'] at hj
      simp only [Value.ownBlock, Option.some.injEq] at hj
      omega)
    have hTn := Lib.hid (show DelT w.heap.size B bq fq a b (d.q a b).length k (d.q a b) ([δ 10, δ 11, δ 15] ++ [undef]) w4 from ⟨hm, gg, cap, e15, ho⟩)
    clear t1 t2 e15 hm htn ho hrun
    simp only [Act.put, List.setIfInBounds_toArray, List.set_cons_zero, List.set_cons_succ] at hK
    unfold Reg.Does
    go_simp
    exact hK undef _ hKeep trivial hTn.out
  simp only [Act.put, List.setIfInBounds_toArray, List.set_cons_zero, List.set_cons_succ, List.nil_append, List.cons_append, Nat.reduceAdd, Nat.zero_add]
  refine Reg.SeqE.nil (fun δ W5 hW5 hF hT5 => ?_)
  obtain ⟨hm, gg, cap, e15, ho⟩ := hT5
  have hlc : (cutAt (d.q a b) k).length = (d.q a b).length - 1 := by simp [cutAt]; omega
  have hgg : w.heap.size ≤ gg := by rw [e15] at ho; exact (ho.lt gg rfl).1
  have hp := H.out.put hW5 (fun j m => by rcases m with m | m; exact .inl m; exact .inr (.inr m)) hm (own_base ho hB) hlc (fun j hj => by
    have e15' : δ 15 = .slice (some ⟨gg, 0, none⟩) ((d.q a b).length - 1) cap := e15
    rw [e15'] at hj
    simp only [Value.ownBlock, Option.some.injEq] at hj
    subst hj
    exact .inr hgg)
  have HP := Lib.hid hp
  clear hW5 hF hm ho hp e15
  go_wp2_with fail
  go_end0
  exact ⟨rfl, _, ⟨bq, bc, _, fc, HP.out.1⟩, HP.out.2⟩

end N
end Go.Proofs.Ytklcpopnggiepaa
