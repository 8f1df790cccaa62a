/- Disk: 'Read'. -/
import Derived.Test.YtopjekdhecikdaaDh
set_option linter.unusedSimpArgs false
set_option linter.unusedVariables false
set_option maxRecDepth 100000
namespace Go.Proofs.Ytopjekdhecikdaa
open Go.RowKit
namespace D

theorem look_last {q : List (Nat × Tx)} {s k : Nat} {x : Tx} (hk : k < q.length) (he : q[k].1 = s) (h : ∀ j (hj : j < q.length), k < j → q[j].1 ≠ s) : look q s x = q[k].2 := by
  have e : q = q.take k ++ (q[k] :: q.drop (k + 1)) := by rw [List.getElem_cons_drop, List.take_append_drop]
  have hd : ∀ p ∈ q.drop (k + 1), p.1 ≠ s := fun p hp => by
    obtain ⟨j, hj, rfl⟩ := List.getElem_of_mem hp
    rw [List.getElem_drop]
    exact h _ (by simp at hj; omega) (by omega)
  have e2 : ∀ (a b : List (Nat × Tx)) (p : Nat × Tx), p.1 = s → (∀ r ∈ b, r.1 ≠ s) → look (a ++ (p :: b)) s x = p.2 := fun a b p hp hb => by
    unfold look
    rw [List.foldl_append, List.foldl_cons, if_pos hp]
    exact look_other hb
  generalize hp : q[k] = p at *
  rw [e]
  exact e2 _ _ _ he hd

theorem read_off (s : Int) (w : World) {B g : Nat} {M : Nat → Prop} {d : Dk} (hd : DiskAt w B M g d) (ho : d.off = true) :
    Calls Try.prog 18 #[.pointer (some ⟨g, 0, none⟩), .int .i64 s] w fun e w' => e = .returned (.tuple #[.string (str []), .int .i64 21]) ∧ Below w.heap.size w w' := by
  have hp := Lib.hid (at_off s w hd ho)
  go_enter Try.func18, Try.ntmps18
  go_wp2_with fail
  (with_reducible refine hp.out.mono ?_); rintro e w1 ⟨rfl, hb⟩
  go_wp2
  go_ret2
  exact ⟨rfl, hb.alloc hb.size _⟩
theorem read_no (s : Int) (w : World) {B g n : Nat} {M : Nat → Prop} {d : Dk} (hd : DiskAt w B M g d) (hf : Fit n d) (ho : d.off = false) (hs : isAt d s = false) :
    Calls Try.prog 18 #[.pointer (some ⟨g, 0, none⟩), .int .i64 s] w fun e w' => e = .returned (.tuple #[.string (str []), .int .i64 1]) ∧ Below w.heap.size w w' := by
  have hp := Lib.hid (at_no s w hd hf ho hs)
  go_enter Try.func18, Try.ntmps18
  go_wp2_with fail
  (with_reducible refine hp.out.mono ?_); rintro e w1 ⟨rfl, hb⟩
  go_wp2
  go_ret2
  exact ⟨rfl, hb.alloc hb.size _⟩

set_option maxHeartbeats 2000000 in
theorem read_yes (s : Nat) (w : World) {B g n : Nat} {M : Nat → Prop} {d : Dk} (hd : DiskAt w B M g d) (hf : Fit n d) (ho : d.off = false) (hs : isAt d s = true) :
    Calls Try.prog 18 #[.pointer (some ⟨g, 0, none⟩), .int .i64 s] w fun e w' => e = .returned (.tuple #[.string (str (look d.q s (sec d.st s))), .int .i64 0]) ∧ Below w.heap.size w w' := by
  have hp := Lib.hid (at_yes s w hd hf ho hs)
  obtain ⟨s1, s2⟩ := isAt_true hf.good hs
  obtain ⟨gs, qv, av, h⟩ := hd
  obtain ⟨A, c, rfl, hcap⟩ := h.qform
  have hl := hf.good.len
  have hn := hf.n
  have hql := hf.ql
  have hz := h.blk.lt
  go_enter Try.func18, Try.ntmps18
  go_wp2_with fail
  (with_reducible refine hp.out.mono ?_); rintro e w1 ⟨rfl, hb⟩
  have h1 := h.below hb
  obtain ⟨ckd, fkd, zkd⟩ := h1.blk.facts
  have HH := Lib.hid h1
  have HB := Lib.hid hb
  clear h h1 hb
  go_wp2_with fail
  go_loopw [8] (fun i wr => ∃ k : Nat, k ≤ d.q.length ∧ i = .int .i64 ((k : Int) - 1) ∧ (∀ j (hj : j < d.q.length), k ≤ j → d.q[j].1 ≠ s) ∧ Below (w1.heap.size + 1) (w1.alloc (.cells #[.int .i64 ((s : Int) * 64), .int .i64 (((s : Int) + 1) * 64)] 66)) wr) (fun i _ => (intOf i + 1).toNat)
  case atStart => exact ⟨d.q.length, Nat.le_refl _, by go_num, fun j hj hk => absurd hj (by omega), Below.refl _ _⟩
  case round =>
    obtain ⟨k, hk, rfl, hne, hW⟩ := hrel
    have HNE := Lib.hid hne
    have h2 := (HH.out.alloc (.cells #[.int .i64 ((s : Int) * 64), .int .i64 (((s : Int) + 1) * 64)] 66)).below (by simpa using hW)
    have ks : Reg.Blk w1.heap.size #[.int .i64 ((s : Int) * 64), .int .i64 (((s : Int) + 1) * 64)] 66 wr := (Reg.Blk.new w1 _ _).keep (by simpa using hW)
    have HW : Hid (Below w.heap.size w wr) := ((HB.out).alloc HB.out.size _).trans (hW.mono (by have := HB.out.size; omega))
    have HW0 := Lib.hid hW
    clear hne hW ckd fkd zkd
    obtain ⟨ckd, fkd, zkd⟩ := h2.blk.facts
    obtain ⟨cks, fks, zks⟩ := ks.facts
    by_cases hk0 : k = 0
    · subst hk0
      have c1 : 0 ≤ ((s : Int) + 1) * 64 := by omega
      have c2 : ((s : Int) + 1) * 64 ≤ (d.st.length : Int) := by omega
      have c3 : 0 ≤ (s : Int) * 64 := by omega
      have c4 : (s : Int) * 64 ≤ max (((s : Int) + 1) * 64) 0 := by omega
      have c5 : ((s : Int) * 64).toNat = s * 64 := by omega
      have c6 : (((s : Int) + 1) * 64).toNat = s * 64 + 64 := by omega
      have c7 : ¬ d.st.length = s * 64 := by omega
      have c8 : (s : Int) * 64 ≤ (s : Int) * 64 + 64 := by omega
      have hcv : ∀ W, Below wr.heap.size wr W → (convert 56 9 (.slice (some ⟨gs, s * 64, none⟩) 64 (d.st.length - s * 64))).run Try.prog W = .ok (.string (str (sec d.st s))) W := fun W hb =>
        run_bts_string (h2.below hb).stb (s * 64) 64 _ (by omega)
      have H2 := Lib.hid h2
      clear h2 hl hn hf hs
      go_wp2_with fail
      refine Reg.wp_region_seq (by kernel_rfl) (by kernel_rfl) ?_
      simp only
      iterate 12
        apply Reg.SeqOK.val
        · intro γ W hW K hK
          obtain ⟨hc, hf, _⟩ := bcell hW
          simp only [Act.put, List.setIfInBounds_toArray, List.set_cons_zero, List.set_cons_succ] at hK
          unfold Reg.Does
          go_simp
          try simp only [IntWalk.i64_left]
          first
            | exact hK _ (Below.refl _ _)
        simp only [Act.put, List.setIfInBounds_toArray, List.set_cons_zero, List.set_cons_succ, List.nil_append, List.cons_append, Nat.reduceAdd, Nat.zero_add]
      refine Reg.SeqOK.nil (by kernel_rfl) (fun γ W hW _ _ _ => ?_)
      go_wp2
      go_ret2
      refine ⟨?_, HW.out.trans (hW.mono HW.out.size)⟩
      have e : look d.q s (sec d.st s) = sec d.st s := look_other (fun p hpm => by
        obtain ⟨j, hj, rfl⟩ := List.getElem_of_mem hpm
        exact HNE.out j hj (Nat.zero_le _))
      rw [e]
      rfl
    · obtain ⟨j, rfl⟩ : ∃ j, k = j + 1 := ⟨k - 1, by omega⟩
      rw [show ((j + 1 : Nat) : Int) - 1 = (j : Int) from by omega]
      obtain ⟨gq, hA, zq, q1, q2, q3⟩ := h2.cells (k := j) (by omega)
      subst hA
      have H2 := Lib.hid h2
      have hjl : j < d.q.length := by omega
      clear h2 hl hn hf hs
      have hcj : (j : Int) < (d.q.length : Int) := by omega
      by_cases he : d.q[j].1 = s
      · rw [he] at q1
        have He := Lib.hid he
        clear he
        generalize hp2 : d.q[j].2 = pt at q3
        have HP2 := Lib.hid hp2
        clear hp2 hk0
        go_wp2_with fail
        refine Reg.wp_region_seq (by kernel_rfl) (by kernel_rfl) ?_
        simp only
        iterate 12
          apply Reg.SeqOK.val
          · intro γ W hW K hK
            obtain ⟨hc, hf, _⟩ := bcell hW
            simp only [Act.put, List.setIfInBounds_toArray, List.set_cons_zero, List.set_cons_succ] at hK
            unfold Reg.Does
            go_simp
            try simp only [IntWalk.i64_left]
            first
              | exact hK _ (Below.refl _ _)
          simp only [Act.put, List.setIfInBounds_toArray, List.set_cons_zero, List.set_cons_succ, List.nil_append, List.cons_append, Nat.reduceAdd, Nat.zero_add]
        refine Reg.SeqOK.nil (by kernel_rfl) (fun γ W hW _ _ _ => ?_)
        have HW2 := Lib.hid hW
        obtain ⟨hc, hf', _⟩ := bcell hW
        clear hW
        go_wp2
        go_ret2
        refine ⟨?_, HW.out.trans (HW2.out.mono HW.out.size)⟩
        rw [look_last hjl He.out (fun i hi hji => HNE.out i hi (by omega)), HP2.out]
        rfl
      · have He := Lib.hid he
        generalize hp1 : d.q[j].1 = x at q1 he
        have HP1 := Lib.hid hp1
        have hx2 : ((x : Int) * 64 == (s : Int) * 64) = false := by simp; omega
        clear hp1 hk0
        go_wp2_with fail
        refine Reg.wp_region_seq (by kernel_rfl) (by kernel_rfl) ?_
        simp only
        iterate 12
          apply Reg.SeqOK.val
          · intro γ W hW K hK
            obtain ⟨hc, hf, _⟩ := bcell hW
            simp only [Act.put, List.setIfInBounds_toArray, List.set_cons_zero, List.set_cons_succ] at hK
            unfold Reg.Does
            go_simp
            try simp only [IntWalk.i64_left]
            first
              | exact hK _ (Below.refl _ _)
          simp only [Act.put, List.setIfInBounds_toArray, List.set_cons_zero, List.set_cons_succ, List.nil_append, List.cons_append, Nat.reduceAdd, Nat.zero_add]
        refine Reg.SeqOK.nil (by kernel_rfl) (fun γ W hW _ _ _ => ?_)
        have HW2 := Lib.hid hW
        clear hW
        go_wp2_with fail
        go_roundw
        case rel => exact ⟨j, by omega, by go_num, fun i hi hji => by
            rcases Nat.eq_or_lt_of_le hji with e | e
            · subst e; exact He.out
            · exact HNE.out i hi (by omega), HW0.out.trans (HW2.out.mono (by have := HW0.out.size; simpa using this))⟩
        case measure => first | (simp [intOf]; done) | (simp [intOf]; omega)

theorem read_any (s : Int) (w : World) {B g n : Nat} {M : Nat → Prop} {d : Dk} (hd : DiskAt w B M g d) (hf : Fit n d) :
    Calls Try.prog 18 #[.pointer (some ⟨g, 0, none⟩), .int .i64 s] w fun e w' => e = .returned (.tuple #[.string (str (read d s).1), .int .i64 (read d s).2]) ∧ Below w.heap.size w w' := by
  unfold read
  cases ho : d.off
  · rw [if_neg (by simp)]
    cases hs : isAt d s
    · exact read_no s w hd hf ho hs
    · obtain ⟨s1, s2⟩ := isAt_true hf.good hs
      obtain ⟨k, rfl⟩ := Int.eq_ofNat_of_zero_le s1
      exact read_yes k w hd hf ho hs
  · exact read_off s w hd ho

end D
end Go.Proofs.Ytopjekdhecikdaa
