/- Disk: 'set', 'settle'. -/
import Derived.Test.YtopjekdhecikdaaDa
set_option linter.unusedSimpArgs false
set_option linter.unusedVariables false
set_option maxRecDepth 100000
namespace Go.Proofs.Ytopjekdhecikdaa
open Go.RowKit
namespace D

/-! ### copy out of a string -/
theorem run_copy_str {P : Program} (w : World) (dT sT ty elem : TypeId) (g o dLen dCap : Nat) (cur : Array Value) (T : TypeId) (t : Tx)
    (hu : P.underlying dT = some (.slice elem)) (hs : (P.info? elem).map (·.size) = some 1) (hg : w.heap[g]? = some (.cells cur T (0, 0))) (hn : t.length ≤ dLen) (hfit : o + t.length ≤ cur.size) :
    (Builtin.copy_ #[dT, sT] ty #[.slice (some ⟨g, o, none⟩) dLen dCap, .string (str t)]).run P w = .ok (goInt t.length) (w.setRow g (cur.toList.take o ++ bts t ++ cur.toList.drop (o + t.length)).toArray) := by
  have hst := run_storeCells_at P g o T (bts t) 0 cur w hg (by simpa [bts_len] using hfit) (fun v hv => by
    simp only [bts, List.mem_map] at hv
    obtain ⟨b, _, rfl⟩ := hv
    rfl)
  cases hq : P.info? elem with
  | none => simp [hq] at hs
  | some i =>
    have hi : i.size = 1 := by simpa [hq] using hs
    have e1 : Nat.min (str t).size dLen = t.length := by rw [str_size]; exact Nat.min_eq_left hn
    have e3 : List.take t.length (List.map (fun b => Value.int .u8 (b.toNat : Int)) (str t).data.toList) = bts t := by rw [List.take_of_length_le (by simp [str])]; simp [str, bts]
    simp only [Nat.add_zero, bts_len] at hst
    simp [Builtin.copy_, run_underlying hu, Builtin.lenOf, Builtin.firstCells, sizeOf, typeInfo, hq, hi, e1, e3, hst]

theorem does_copy_str {P : Program} {ops : Array Oper} {o : Oper} {a : Act} {w : World} {K : Act → World → Prop} (hgd : o.guard = none) (d s : Operand) (dT sT : TypeId)
    (ho : o.op = .call { callee := .builtin .copy, args := #[d, s], argTypes := #[dT, sT] }) (elem : TypeId) (hu : P.underlying dT = some (.slice elem)) (hsz : (P.info? elem).map (·.size) = some 1)
    (g off dLen dCap : Nat) (hd : a.eval d = .slice (some ⟨g, off, none⟩) dLen dCap) (t : Tx) (hs : a.eval s = .string (str t)) (cur : Tx) (T : TypeId) (hg : Reg.Blk g (bts cur).toArray T w) (hn : t.length ≤ dLen) (hfit : off + t.length ≤ cur.length)
    (h : ∀ w', Reg.Upd g (bts (cur.take off ++ (t ++ cur.drop (off + t.length)))).toArray T w w' → K (a.put o.dst (goInt t.length)) w') : Reg.Does P ops o a w K := by
  unfold Reg.Does
  rw [if_pos (by simp [Region.wanted, hgd])]
  have hrun := run_copy_str (P := P) w dT sT o.type elem g off dLen dCap (bts cur).toArray T t hu hsz hg hn (by simpa [bts_len] using hfit)
  unfold Oper.wp
  simp only [execOp, ho, resolve, invoke, builtin, Sem.run_bind, Sem.run_pure, Result.andThen_ok, List.map_toArray, List.map_cons, List.map_nil, hd, hs, hrun]
  refine h _ ⟨?_, by simp, fun k hk => setRow_other w g k _ hk, rfl, rfl, rfl⟩
  rw [setRow_heap w g _ _ T _ hg]
  simp [bts, List.map_take, List.map_drop]

/-- 'set': the same blocks hold the disk. -/
theorem IsD.newst {w w' : World} {B : Nat} {M : Nat → Prop} {g : Nat} {d : Dk} {gs : Nat} {qv av : Value} (h : IsD w B M g d gs qv av) {st' : Tx} (hl : st'.length = d.st.length)
    (hu : Reg.Upd gs (bts st').toArray 5 w w') : IsD w' B M g { d with st := st' } gs qv av := by
  have hne : ∀ k (C : Array Value) (T : TypeId), Reg.Blk k C T w → T ≠ 5 → k ≠ gs := fun k C T hk hT e => by
    subst e
    have := hk.symm.trans h.stb
    injection this with this
    injection this with _ e2
    exact hT e2
  refine ⟨?_, hu.at_, ?_, ?_, h.mg, h.ms, h.mq, fun k m => ⟨(h.bb k m).1, by rw [hu.size]; exact (h.bb k m).2⟩⟩
  · simp only [hl]
    exact (hu.far g (hne g _ _ h.blk (by decide))).trans h.blk
  · refine ⟨h.que.1, ?_⟩
    rcases h.que.2 with hn | ⟨g', cap, cur, e, hb, hg, rest⟩
    · exact .inl hn
    · exact .inr ⟨g', cap, cur, e, hb, (hu.far g' (hne g' _ _ hg (by decide))).trans hg, rest⟩
  · have ha := h.arm
    revert ha
    show ArmAt w M d.arm av → ArmAt w' M d.arm av
    cases d.arm with
    | none => exact id
    | some x =>
      obtain ⟨a, x, y⟩ := x
      rintro ⟨ga, e, hb, hm⟩
      exact ⟨ga, e, (hu.far ga (hne ga _ _ hb (by decide))).trans hb, hm⟩
theorem IsD.put {w w' : World} {B : Nat} {M : Nat → Prop} {g : Nat} {d : Dk} {gs : Nat} {qv av : Value} (h : IsD w B M g d gs qv av) {s : Nat} {t : Tx} (hl : s * 64 + t.length ≤ d.st.length)
    (hu : Reg.Upd gs (bts (put d.st s t)).toArray 5 w w') : IsD w' B M g { d with st := D.put d.st s t } gs qv av := h.newst (length_put hl) hu
theorem moved_upd {M : Nat → Prop} {w w' : World} {g : Nat} {C : Array Value} {T : TypeId} (hm : M g) (hu : Reg.Upd g C T w w') : Moved M M w w' :=
  ⟨⟨hu.os, hu.tape, hu.output, by rw [hu.size]; exact Nat.le_refl _, fun k _ hn => hu.far k (fun e => hn (e ▸ hm))⟩, fun _ h => .inl h⟩

theorem set_any (s : Nat) (t : Tx) (w : World) {B g n gs : Nat} {qv av : Value} {M : Nat → Prop} {d : Dk} (h : IsD w B M g d gs qv av) (hf : Fit n d) (hs : s < n) (ht : t.length ≤ 64) :
    Calls Try.prog 43 #[.pointer (some ⟨g, 0, none⟩), .agg #[.int .i64 ((s : Int) * 64), .int .i64 (((s : Int) + 1) * 64)], .string (str t)] w fun e w' =>
      e = .returned (.tuple #[]) ∧ IsD w' B M g { d with st := put d.st s t } gs qv av ∧ Moved M M w w' := by
  obtain ⟨ckd, fkd, zkd⟩ := h.blk.facts
  have hl := hf.good.len
  have hn := hf.n
  have hz : gs < w.heap.size := h.stb.lt
  have c1 : 0 ≤ ((s : Int) + 1) * 64 := by omega
  have c2 : ((s : Int) + 1) * 64 ≤ (d.st.length : Int) := by omega
  have c3 : 0 ≤ (s : Int) * 64 := by omega
  have c4 : (s : Int) * 64 ≤ max (((s : Int) + 1) * 64) 0 := by omega
  have c5 : ((s : Int) * 64).toNat = s * 64 := by omega
  have c6 : (((s : Int) + 1) * 64).toNat = s * 64 + 64 := by omega
  have c7 : ¬ d.st.length = s * 64 := by omega
  have c8 : (s : Int) * 64 ≤ (s : Int) * 64 + 64 := by omega
  have b2 : d.st.length ≤ 256000 := by omega
  have b3 : s * 64 + t.length ≤ d.st.length := by omega
  have z1 : g < w.heap.size + 1 := by omega
  have Hh := Lib.hid h
  clear h hf hl
  go_enter Try.func43, Try.ntmps43
  go_wp2_with fail
  refine Reg.wp_region_seq (by kernel_rfl) (by kernel_rfl) ?_
  simp only
  iterate 10
    apply Reg.SeqOK.val
    · intro γ W hW K hK
      obtain ⟨hc, hf, _⟩ := bcell hW
      simp only [Act.put, List.setIfInBounds_toArray, List.set_cons_zero, List.set_cons_succ] at hK
      unfold Reg.Does
      go_simp
      try simp only [IntWalk.i64_left]
      first
        | exact hK _ (Below.refl _ _)
    simp only [Act.put, List.setIfInBounds_toArray, List.set_cons_zero, List.set_cons_succ, List.nil_append, List.cons_append, Nat.reduceAdd, Nat.zero_add]
  refine Reg.SeqOK.last (by kernel_rfl) (by kernel_rfl) (fun γ W hW _ _ _ => ?_)
  have h1 := ((Hh.out).alloc (.cells #[.int .i64 ((s : Int) * 64), .int .i64 (((s : Int) + 1) * 64)] 66)).below hW
  refine does_copy_str (by rfl) (.tmp 14) (.tmp 15) _ _ (by rfl) 5 Try.underlying56 (by kernel_rfl) gs (s * 64) _ _ (by rfl) t (by rfl) d.st 5 h1.stb (by omega) b3 (fun w' hu => ?_)
  go_wp2
  go_end0
  exact ⟨rfl, h1.put b3 hu, ((Moved.alloc w _).trans (Moved.below hW)).trans (moved_upd h1.ms hu)⟩

theorem settle_take {st : Tx} {q : List (Nat × Tx)} {k : Nat} (h : k < q.length) : settle st (q.take (k + 1)) = put (settle st (q.take k)) q[k].1 q[k].2 := by
  rw [List.take_succ_eq_append_getElem h, settle_append]; rfl
theorem Fit.settle {n : Nat} {d : Dk} (h : Fit n d) (m : Nat) : Fit n { d with st := settle d.st (d.q.take m) } :=
  ⟨⟨length_settle h.good.len (mem_take h.good.q), h.good.q⟩, h.n, h.ql, h.arm⟩

/-- The cells of the pending writes. -/
theorem IsD.cells {w : World} {B : Nat} {M : Nat → Prop} {g : Nat} {d : Dk} {gs : Nat} {A : Option Addr} {c : Nat} {av : Value} (h : IsD w B M g d gs (.slice A d.q.length c) av) {k : Nat} (hk : k < d.q.length) :
    ∃ gq, A = some ⟨gq, 0, none⟩ ∧ gq < w.heap.size ∧ w.cell? ⟨gq, k * 3, none⟩ = some (.int .i64 ((d.q[k].1 : Int) * 64)) ∧ w.cell? ⟨gq, k * 3 + 1, none⟩ = some (.int .i64 (((d.q[k].1 : Int) + 1) * 64)) ∧ w.cell? ⟨gq, k * 3 + 2, none⟩ = some (.string (str d.q[k].2)) := by
  obtain ⟨gq, cap, hv, _, hlt⟩ := h.que.form (by omega)
  have hA : A = some ⟨gq, 0, none⟩ ∧ c = cap := by injection hv with a b c; exact ⟨a, c⟩
  obtain ⟨rfl, rfl⟩ := hA
  obtain ⟨p1, p2, p3⟩ := pnd_get hk
  refine ⟨gq, rfl, hlt, ?_, ?_, ?_⟩
  · rw [h.que.cellAt _ (by omega)]; exact p1
  · rw [h.que.cellAt _ (by omega)]; exact p2
  · rw [h.que.cellAt _ (by omega)]; exact p3

set_option maxHeartbeats 1000000 in
theorem settle_any (m : Nat) (A : Option Addr) (c : Nat) (w : World) {B g n gs : Nat} {av : Value} {M : Nat → Prop} {d : Dk} (h : IsD w B M g d gs (.slice A d.q.length c) av) (hf : Fit n d) (hm : m ≤ d.q.length) :
    Calls Try.prog 42 #[.pointer (some ⟨g, 0, none⟩), .slice A m c] w fun e w' =>
      e = .returned (.tuple #[]) ∧ IsD w' B M g { d with st := settle d.st (d.q.take m) } gs (.slice A d.q.length c) av ∧ Moved M M w w' := by
  have hql := hf.ql
  have Hf := Lib.hid hf
  have H0 : IsD w B M g { d with st := settle d.st (d.q.take 0) } gs (.slice A d.q.length c) av := h
  clear hf h
  go_enter Try.func42, Try.ntmps42
  go_wp2_with fail
  go_loopw [8] (fun i wr => ∃ k : Nat, k ≤ m ∧ i = .int .i64 k ∧ IsD wr B M g { d with st := settle d.st (d.q.take k) } gs (.slice A d.q.length c) av ∧ Moved M M w wr) (fun i _ => m - (intOf i).toNat)
  case atStart => exact ⟨0, Nat.zero_le _, rfl, H0, Moved.refl _ _⟩
  case round =>
    obtain ⟨k, hk, rfl, hI, hM⟩ := hrel
    by_cases hlt : k < m
    · obtain ⟨gq, hA, zq, q1, q2, q3⟩ := hI.cells (k := k) (show k < d.q.length by omega)
      have hset := fun o => set_any d.q[k].1 d.q[k].2 (wr.alloc o) (hI.alloc o) (Hf.out.settle k) (Hf.out.good.q _ (List.getElem_mem (show k < d.q.length by omega))).1 (Nat.le_of_eq (Hf.out.good.q _ (List.getElem_mem (show k < d.q.length by omega))).2)
      have HS := Lib.hid hset
      have z1 : gq < wr.heap.size + 1 := by omega
      subst hA
      clear hset H0
      go_wp2_with fail
      (with_reducible refine (HS.out _).mono ?_); rintro e w1 ⟨rfl, hI1, hM1⟩
      rw [← settle_take (show k < d.q.length by omega)] at hI1
      go_wp2_with fail
      go_roundw
      case rel => exact ⟨k + 1, by omega, by go_num, hI1, (hM.trans (Moved.alloc _ _)).trans hM1⟩
      case measure => simp [intOf]; omega
    · obtain rfl : k = m := by omega
      go_wp2
      go_end0
      exact ⟨rfl, hI, hM⟩

end D
end Go.Proofs.Ytopjekdhecikdaa
