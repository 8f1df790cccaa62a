/- The reference disk's memory. -/
import Derived.Test.YtopjekdhecikdaaDu
import Derived.Test.YtopjekdhecikdaaDl
set_option linter.unusedSimpArgs false
set_option linter.unusedVariables false
set_option maxRecDepth 100000
namespace Go.Proofs.Ytopjekdhecikdaa
open Go.RowKit
namespace D

def pr (q : List (Nat × Tx)) : List Value := q.flatMap fun p => [.int .i64 (p.1 : Int), .string (str p.2)]
theorem pr_get {q : List (Nat × Tx)} : ∀ {i : Nat} (h : i < q.length), (pr q)[i * 2]? = some (.int .i64 (q[i].1 : Int)) ∧ (pr q)[i * 2 + 1]? = some (.string (str q[i].2)) := by
  induction q with
  | nil => intro i h; simp at h
  | cons p q ih =>
    intro i h
    cases i with
    | zero => simp [pr]
    | succ i =>
      have := ih (i := i) (by simpa using h)
      have e : pr (p :: q) = [.int .i64 (p.1 : Int), .string (str p.2)] ++ pr q := by simp [pr]
      rw [e, List.getElem?_append_right (by simp; omega), List.getElem?_append_right (by simp; omega)]
      simp only [List.length_cons, List.length_nil, List.getElem_cons_succ]
      rw [show (i + 1) * 2 - (0 + 1 + 1) = i * 2 from by omega, show (i + 1) * 2 + 1 - (0 + 1 + 1) = i * 2 + 1 from by omega]
      exact this
theorem pr_snoc (q : List (Nat × Tx)) (s : Nat) (t : Tx) : pr (q ++ [(s, t)]) = pr q ++ [.int .i64 (s : Int), .string (str t)] := by simp [pr]

structure IsR (w : World) (B n : Nat) (M : Nat → Prop) (g : Nat) (d : Dk) (sb qv : Value) (am : Bool) (a x y : Int) : Prop where
  blk : Reg.Blk g #[sb, qv, .bool (!d.off), .bool am, .int .i64 a, .int .i64 x, .int .i64 y] 63 w
  stb : w.ownsRow B 9 1 sb n (sv (secs n d.st))
  que : w.ownsRow B 72 2 qv d.q.length (pr d.q)
  arm : d.arm = if am = true then some (a, x, y) else none
  pos : am = true → 0 ≤ a
  mg : M g
  ms : ∀ k, sb.ownBlock = some k → M k
  mq : ∀ k, qv.ownBlock = some k → M k
  bb : ∀ k, M k → B ≤ k ∧ k < w.heap.size
def RefAt (w : World) (B n : Nat) (M : Nat → Prop) (g : Nat) (d : Dk) : Prop := ∃ sb qv am a x y, IsR w B n M g d sb qv am a x y
def RPost (w : World) (B n : Nat) (M : Nat → Prop) (g : Nat) (d : Dk) (w' : World) : Prop := ∃ M', RefAt w' B n M' g d ∧ Moved M M' w w'

theorem own_type {w : World} {B n sz : Nat} {e : TypeId} {v : Value} {xs : List Value} (h : w.ownsRow B e sz v n xs) {k : Nat} {C : Array Value} {T : TypeId} (hk : Reg.Blk k C T w) (hT : T ≠ e) : v.ownBlock ≠ some k := by
  rcases h.2 with ⟨e1, _⟩ | ⟨g', cap, cur, e1, _, hh, _⟩
  · rw [e1]; simp [Value.ownBlock]
  · rw [e1]
    simp only [Value.ownBlock, ne_eq, Option.some.injEq]
    rintro rfl
    have := hk.symm.trans hh
    injection this with this
    injection this with _ e2
    exact hT e2
theorem own_apart {w : World} {B B' n n' sz sz' : Nat} {e e' : TypeId} {v v' : Value} {xs xs' : List Value} (h : w.ownsRow B e sz v n xs) (h' : w.ownsRow B' e' sz' v' n' xs') (hT : e ≠ e') {k : Nat} (hk : v.ownBlock = some k) : v'.ownBlock ≠ some k := by
  rcases h.2 with ⟨e1, _⟩ | ⟨g', cap, cur, e1, _, hh, _⟩
  · rw [e1] at hk; simp [Value.ownBlock] at hk
  · rw [e1] at hk
    simp only [Value.ownBlock, Option.some.injEq] at hk
    subst hk
    exact own_type h' hh hT

theorem IsR.same {w w' : World} {B n : Nat} {M : Nat → Prop} {g : Nat} {d : Dk} {sb qv : Value} {am : Bool} {a x y : Int} (h : IsR w B n M g d sb qv am a x y) (hs : w.heap.size ≤ w'.heap.size) (hk : ∀ k, M k → w'.heap[k]? = w.heap[k]?) : IsR w' B n M g d sb qv am a x y :=
  ⟨(hk g h.mg).trans h.blk, own_of h.stb fun k e => hk k (h.ms k e), own_of h.que fun k e => hk k (h.mq k e), h.arm, h.pos, h.mg, h.ms, h.mq, fun k m => ⟨(h.bb k m).1, Nat.lt_of_lt_of_le (h.bb k m).2 hs⟩⟩
section
variable {w : World} {B n : Nat} {M : Nat → Prop} {g : Nat} {d : Dk} {sb qv : Value} {am : Bool} {a x y : Int}
theorem IsR.below {w' : World} (h : IsR w B n M g d sb qv am a x y) (hb : Below w.heap.size w w') : IsR w' B n M g d sb qv am a x y := h.same hb.size fun k m => hb.block k (h.bb k m).2
theorem IsR.alloc (h : IsR w B n M g d sb qv am a x y) (o : Obj) : IsR (w.alloc o) B n M g d sb qv am a x y := h.same (by simp) fun k m => Below.heap_alloc w o k (h.bb k m).2
theorem IsR.drew (h : IsR w B n M g d sb qv am a x y) : IsR w.drew B n M g d sb qv am a x y := h.same (Nat.le_refl _) fun _ _ => rfl
theorem IsR.sform (h : IsR w B n M g d sb qv am a x y) (hn : 1 ≤ n) : ∃ gs c, sb = .slice (some ⟨gs, 0, none⟩) n c ∧ M gs ∧ gs < w.heap.size ∧ gs ≠ g := by
  obtain ⟨gs, c, hv, hb, hl⟩ := h.stb.form hn
  exact ⟨gs, c, hv, h.ms gs (by rw [hv]; rfl), hl, fun e => own_type h.stb h.blk (by decide) (by rw [hv, ← e]; rfl)⟩
theorem IsR.qform (h : IsR w B n M g d sb qv am a x y) : ∃ A c, qv = .slice A d.q.length c ∧ d.q.length ≤ c := by
  rcases h.que.2 with ⟨e, hn⟩ | ⟨g', cap, cur, e, hb, hg, hc, _⟩
  · exact ⟨none, 0, by rw [e, hn], by omega⟩
  · exact ⟨some ⟨g', 0, none⟩, cap, e, hc⟩
/-- The cells of a pending write. -/
theorem IsR.cells {A : Option Addr} {c : Nat} (h : IsR w B n M g d sb (.slice A d.q.length c) am a x y) {k : Nat} (hk : k < d.q.length) :
    ∃ gq, A = some ⟨gq, 0, none⟩ ∧ gq < w.heap.size ∧ w.cell? ⟨gq, k * 2, none⟩ = some (.int .i64 (d.q[k].1 : Int)) ∧ w.cell? ⟨gq, k * 2 + 1, none⟩ = some (.string (str d.q[k].2)) := by
  obtain ⟨gq, cap, hv, _, hlt⟩ := h.que.form (by omega)
  have hA : A = some ⟨gq, 0, none⟩ ∧ c = cap := by injection hv with a b c; exact ⟨a, c⟩
  obtain ⟨rfl, rfl⟩ := hA
  obtain ⟨p1, p2⟩ := pr_get hk
  exact ⟨gq, rfl, hlt, by rw [h.que.cellAt _ (by omega)]; exact p1, by rw [h.que.cellAt _ (by omega)]; exact p2⟩
/-- The cell of a sector. -/
theorem IsR.cell {gs c : Nat} (h : IsR w B n M g d (.slice (some ⟨gs, 0, none⟩) n c) qv am a x y) {s : Nat} (hs : s < n) :
    w.cell? ⟨gs, s, none⟩ = some (.string (str (sec d.st s))) ∧ w.frozen? ⟨gs, s, none⟩ = false := by
  refine ⟨?_, h.stb.frozenAt _⟩
  rw [h.stb.cellAt _ (by omega), sv_get, secs_get hs]; rfl
/-- A sector is stored. -/
theorem IsR.put {gs c : Nat} (h : IsR w B n M g d (.slice (some ⟨gs, 0, none⟩) n c) qv am a x y) (hl : d.st.length = n * 64) {s : Nat} {t : Tx} (hs : s < n) (ht : t.length = 64) :
    IsR (w.setCell ⟨gs, s, none⟩ (.string (str t))) B n M g { d with st := D.put d.st s t } (.slice (some ⟨gs, 0, none⟩) n c) qv am a x y := by
  have hg : gs ≠ g := fun e => own_type h.stb h.blk (by decide) (by rw [← e]; rfl)
  have hst := (h.stb.stored s (.string (str t))).1
  rw [sv_set, ← secs_put hl hs ht] at hst
  refine ⟨(Below.heap_setCell _ _ _ _ (fun e => hg e.symm)).trans h.blk, hst, own_of h.que fun k e => Below.heap_setCell _ _ _ _ (fun e2 => ?_), h.arm, h.pos, h.mg, h.ms, h.mq, fun k m => ⟨(h.bb k m).1, by simpa using (h.bb k m).2⟩⟩
  subst e2
  exact own_apart h.que h.stb (by decide) e rfl
/-- Whatever is stored into the disk's own block. -/
theorem IsR.upd {w' : World} (h : IsR w B n M g d sb qv am a x y) {q' : List (Nat × Tx)} {off' : Bool} {arm' : Option (Int × Int × Int)} {qv' : Value} {am' : Bool} {a' x' y' : Int}
    (hu : Reg.Upd g #[sb, qv', .bool (!off'), .bool am', .int .i64 a', .int .i64 x', .int .i64 y'] 63 w w')
    (hq : w.ownsRow B 72 2 qv' q'.length (pr q')) (ha : arm' = if am' = true then some (a', x', y') else none) (hp : am' = true → 0 ≤ a') (hm : ∀ k, qv'.ownBlock = some k → M k) :
    IsR w' B n M g ⟨d.st, q', off', arm'⟩ sb qv' am' a' x' y' := by
  refine ⟨hu.at_, own_of h.stb fun k e => hu.far k fun e2 => ?_, own_of hq fun k e => hu.far k fun e2 => ?_, ha, hp, h.mg, h.ms, hm, fun k m => ⟨(h.bb k m).1, by rw [hu.size]; exact (h.bb k m).2⟩⟩
  · subst e2; exact own_type h.stb h.blk (by decide) e
  · subst e2; exact own_type hq h.blk (by decide) e
theorem IsR.setq (h : IsR w B n M g d sb qv am a x y) : IsR (w.setCell ⟨g, 1, none⟩ (.slice none 0 0)) B n M g ⟨d.st, [], d.off, d.arm⟩ sb (.slice none 0 0) am a x y :=
  h.upd ((Reg.Upd.refl h.blk).set 1 _) (World.ownsRow_nil _ _ _ _) h.arm h.pos (fun k hk => by simp [Value.ownBlock] at hk)
theorem IsR.setoff (h : IsR w B n M g d sb qv am a x y) (b : Bool) : IsR (w.setCell ⟨g, 2, none⟩ (.bool b)) B n M g ⟨d.st, d.q, !b, d.arm⟩ sb qv am a x y := by
  have hu := (Reg.Upd.refl h.blk).set 2 (.bool b)
  refine h.upd (off' := !b) ?_ h.que h.arm h.pos h.mq
  rw [Bool.not_not]; exact hu
theorem IsR.setarm (h : IsR w B n M g d sb qv am a x y) : IsR (w.setCell ⟨g, 3, none⟩ (.bool false)) B n M g ⟨d.st, d.q, d.off, none⟩ sb qv false a x y :=
  h.upd ((Reg.Upd.refl h.blk).set 3 _) h.que rfl (fun e => by cases e) h.mq
theorem RPost.trans {w1 w' : World} {M1 : Nat → Prop} (m : Moved M M1 w w1) (h : RPost w1 B n M1 g d w') : RPost w B n M g d w' := by
  obtain ⟨M', hd, hm⟩ := h
  exact ⟨M', hd, m.trans hm⟩
end

/-! ### set, settle -/
theorem rset_any (s : Nat) (t : Tx) (w : World) {B n : Nat} {M : Nat → Prop} {g : Nat} {d : Dk} {sb qv : Value} {am : Bool} {a x y : Int} (h : IsR w B n M g d sb qv am a x y) (hl : d.st.length = n * 64) (hn : n ≤ 4000) (hs : s < n) (ht : t.length = 64) :
    Calls Try.prog 47 #[.pointer (some ⟨g, 0, none⟩), .int .i64 s, .string (str t)] w fun e w' =>
      e = .returned (.tuple #[]) ∧ IsR w' B n M g { d with st := put d.st s t } sb qv am a x y ∧ Moved M M w w' := by
  obtain ⟨gs, c, rfl, hm, hlt, hne⟩ := h.sform (by omega)
  obtain ⟨ckd, fkd, zkd⟩ := h.blk.facts
  obtain ⟨c1, f1⟩ := h.cell hs
  have hp := Lib.hid (h.put hl hs ht)
  have hsn : (s : Int) < (n : Int) := by omega
  clear h
  go_enter Try.func47, Try.ntmps47
  go_wp2
  go_end0
  exact ⟨rfl, hp.out, Moved.set _ _ _ hm⟩

set_option maxHeartbeats 1000000 in
theorem rsettle_any (m : Nat) (w : World) {B n : Nat} {M : Nat → Prop} {g : Nat} {d : Dk} {sb qv : Value} {am : Bool} {a x y : Int} (h : IsR w B n M g d sb qv am a x y) (hg : Good n d) (hn : n ≤ 4000) (hql : d.q.length ≤ 100000) (hm : m ≤ d.q.length) :
    Calls Try.prog 46 #[.pointer (some ⟨g, 0, none⟩), .int .i64 m] w fun e w' =>
      e = .returned (.tuple #[]) ∧ IsR w' B n M g { d with st := settle d.st (d.q.take m) } sb qv am a x y ∧ Moved M M w w' := by
  obtain ⟨A, c, rfl, hcap⟩ := h.qform
  have Hg := Lib.hid hg
  have H0 : Hid (IsR w B n M g { d with st := settle d.st (d.q.take 0) } sb (.slice A d.q.length c) am a x y) := h
  clear hg h
  go_enter Try.func46, Try.ntmps46
  go_wp2_with fail
  go_loopw [4] (fun i wr => ∃ k : Nat, k ≤ m ∧ i = .int .i64 k ∧ IsR wr B n M g { d with st := settle d.st (d.q.take k) } sb (.slice A d.q.length c) am a x y ∧ Moved M M w wr) (fun i _ => m - (intOf i).toNat)
  case atStart => exact ⟨0, Nat.zero_le _, rfl, H0.out, Moved.refl _ _⟩
  case round =>
    clear H0
    obtain ⟨k, hk, rfl, hI, hM⟩ := hrel
    by_cases hlt : k < m
    · obtain ⟨gq, hA, zq, q1, q2⟩ := hI.cells (k := k) (show k < d.q.length by omega)
      obtain ⟨ckd, fkd, zkd⟩ := hI.blk.facts
      have hqk := Hg.out.q _ (List.getElem_mem (show k < d.q.length by omega))
      have hkm : (k : Int) < (m : Int) := by omega
      have hkq : (k : Int) < (d.q.length : Int) := by omega
      have HI := Lib.hid hI
      have HM := Lib.hid hM
      have HS := Lib.hid (fun (W : World) (hW : Below wr.heap.size wr W) => rset_any d.q[k].1 d.q[k].2 W (HI.out.below hW) (length_settle Hg.out.len (mem_take Hg.out.q)) hn hqk.1 hqk.2)
      have Hst := Lib.hid (settle_take (st := d.st) (q := d.q) (k := k) (by omega))
      subst hA
      clear hI hM
      go_wp2_with fail
      refine Reg.wp_region_seq (by kernel_rfl) (by kernel_rfl) ?_
      simp only
      iterate 17
        apply Reg.SeqOK.val
        · intro γ W hW K hK
          obtain ⟨hc, hf, _⟩ := bcell hW
          simp only [Act.put, List.setIfInBounds_toArray, List.set_cons_zero, List.set_cons_succ] at hK
          unfold Reg.Does
          go_simp
          try simp only [IntWalk.i64_left]
          first
            | exact hK _ (Below.refl _ _)
        simp only [Act.put, List.setIfInBounds_toArray, List.set_cons_zero, List.set_cons_succ, List.nil_append, List.cons_append, Nat.reduceAdd, Nat.zero_add]
      refine Reg.SeqOK.last (by kernel_rfl) (by kernel_rfl) (fun γ W hW _ _ _ => ?_)
      have hS := Lib.hid (HS.out W hW)
      have HW := Lib.hid hW
      clear hW
      unfold Reg.Does
      go_simp
      (with_reducible refine hS.out.mono ?_); rintro e w1 ⟨rfl, hI1, hM1⟩
      have HI1 := Lib.hid hI1
      have HM1 := Lib.hid ((HM.out.trans (Moved.below HW.out)).trans hM1)
      clear hI1 hM1
      go_wp2_with fail
      refine ⟨⟨k + 1, by omega, by go_num, ?_, HM1.out⟩, by simp [intOf]; omega⟩
      rw [Hst.out]; exact HI1.out
    · obtain rfl : k = m := by omega
      have HI := Lib.hid hI
      have HM := Lib.hid hM
      clear hI hM
      go_wp2
      go_end0
      exact ⟨rfl, HI.out, HM.out⟩

end D
end Go.Proofs.Ytopjekdhecikdaa
