/- Disk: 'count' in one word, 'Sync', 'Arm'. -/
import Derived.Test.YtopjekdhecikdaaDf
set_option linter.unusedSimpArgs false
set_option linter.unusedVariables false
set_option maxRecDepth 100000
namespace Go.Proofs.Ytopjekdhecikdaa
open Go.RowKit
namespace D

theorem Fit.fail {n : Nat} {d : Dk} (h : Fit n d) (x y : Int) : Fit n (fail d x y) := by
  refine ⟨h.good.fail x y, h.n, ?_, ?_⟩
  · unfold D.fail; split
    · exact h.ql
    · simp
  · unfold D.fail; split
    · exact h.arm
    · intro a b c e; cases e
theorem Fit.count {n : Nat} {d : Dk} (h : Fit n d) : Fit n (count d).2 := by
  unfold D.count
  cases ha : d.arm with
  | none => exact h
  | some t =>
    obtain ⟨a, x, y⟩ := t
    simp only
    split
    · exact ⟨⟨h.good.len, h.good.q⟩, h.n, h.ql, fun a' x' y' e => by have := h.arm a x y ha; injection e with e; injection e with e; omega⟩
    · exact h.fail x y

theorem count_any (w : World) {B g n : Nat} {M : Nat → Prop} {d : Dk} (hd : DiskAt w B M g d) (hf : Fit n d) :
    Calls Try.prog 41 #[.pointer (some ⟨g, 0, none⟩)] w fun e w' => e = .returned (.int .i64 (count d).1) ∧ Post w B M g (count d).2 w' := by
  cases ha : d.arm with
  | none =>
    have e : count d = (0, d) := by unfold D.count; rw [ha]
    rw [e]
    refine (count_none w hd ha).mono ?_
    rintro e w' ⟨rfl, rfl⟩
    exact ⟨rfl, M, hd, Moved.refl _ _⟩
  | some t =>
    obtain ⟨a, x, y⟩ := t
    by_cases h0 : 0 < a
    · have e : count d = (0, { d with arm := some (a - 1, x, y) }) := by unfold D.count; rw [ha]; simp [h0]
      rw [e]
      exact count_tick w hd ha h0 (hf.arm a x y ha)
    · have e : count d = (21, fail d x y) := by unfold D.count; rw [ha]; simp [h0]
      rw [e]
      exact count_fail w hd hf ha (by omega)

theorem sync_off (w : World) {B g : Nat} {M : Nat → Prop} {d : Dk} (hd : DiskAt w B M g d) (ho : d.off = true) :
    Calls Try.prog 21 #[.pointer (some ⟨g, 0, none⟩)] w fun e w' => e = .returned (.int .i64 21) ∧ w = w' := by
  obtain ⟨gs, qv, av, h⟩ := hd
  obtain ⟨ckd, fkd, zkd⟩ := h.blk.facts
  clear h
  go_enter Try.func21, Try.ntmps21
  go_wp2
  go_ret
  exact ⟨rfl, rfl⟩

set_option maxHeartbeats 1000000 in
theorem sync_on (w : World) {B g n : Nat} {M : Nat → Prop} {d : Dk} (hd : DiskAt w B M g d) (hf : Fit n d) (ho : d.off = false) :
    Calls Try.prog 21 #[.pointer (some ⟨g, 0, none⟩)] w fun e w' => e = .returned (.int .i64 (sync d).1) ∧ Post w B M g (sync d).2 w' := by
  have hc := Lib.hid (count_any w hd hf)
  have Hs : Hid (sync d = if (count d).1 ≠ 0 then count d else (0, { (count d).2 with st := settle (count d).2.st (count d).2.q, q := [] })) := by unfold Hid sync; rw [if_neg (by simp [ho])]
  have hf2 := Lib.hid hf.count
  obtain ⟨gs, qv, av, h⟩ := hd
  obtain ⟨ckd, fkd, zkd⟩ := h.blk.facts
  clear h hf
  generalize count d = cd at *
  by_cases h0 : cd.1 = 0
  · obtain ⟨c1, c2⟩ := cd
    obtain rfl : c1 = 0 := h0
    go_enter Try.func21, Try.ntmps21
    go_wp2_with fail
    (with_reducible refine hc.out.mono ?_); rintro e w1 ⟨rfl, M1, ⟨gs1, qv1, av1, h1⟩, hM1⟩
    obtain ⟨A, c, rfl, hcap⟩ := h1.qform
    clear ckd fkd zkd
    obtain ⟨ckd, fkd, zkd⟩ := h1.blk.facts
    have hS := Lib.hid (settle_any c2.q.length A c w1 h1 hf2.out (Nat.le_refl _))
    clear h1
    go_wp2_with fail
    (with_reducible refine hS.out.mono ?_); rintro e w2 ⟨rfl, h2, hM2⟩
    clear ckd fkd zkd
    obtain ⟨ckd, fkd, zkd⟩ := h2.blk.facts
    have HH := Lib.hid h2
    clear h2
    go_wp2
    go_ret
    refine ⟨by rw [Hs.out]; rfl, M1, ⟨gs1, .slice none 0 0, av1, ?_⟩, (hM1.trans hM2).trans (Moved.set _ ⟨g, 1, none⟩ _ HH.out.mg)⟩
    have := HH.out.setq
    rw [Hs.out]
    simp only [List.take_length, ne_eq, not_true_eq_false, if_false] at this ⊢
    exact this
  · have h3 : (cd.1 == 0) = false := by simp [h0]
    have h4 : (cd.1 != 0) = true := by simp [h0]
    go_enter Try.func21, Try.ntmps21
    go_wp2_with fail
    (with_reducible refine hc.out.mono ?_); rintro e w1 ⟨rfl, h1⟩
    go_wp2
    go_ret
    rw [Hs.out, if_pos h0]
    exact ⟨rfl, h1⟩

theorem sync_any (w : World) {B g n : Nat} {M : Nat → Prop} {d : Dk} (hd : DiskAt w B M g d) (hf : Fit n d) :
    Calls Try.prog 21 #[.pointer (some ⟨g, 0, none⟩)] w fun e w' => e = .returned (.int .i64 (sync d).1) ∧ Post w B M g (sync d).2 w' := by
  cases ho : d.off
  · exact sync_on w hd hf ho
  · have e : sync d = (21, d) := by unfold sync; rw [if_pos ho]
    rw [e]
    refine (sync_off w hd ho).mono ?_
    rintro e w' ⟨rfl, rfl⟩
    exact ⟨rfl, M, hd, Moved.refl _ _⟩

theorem arm_off (a x y : Int) (w : World) {B g : Nat} {M : Nat → Prop} {d : Dk} (hd : DiskAt w B M g d) (ho : d.off = true) :
    Calls Try.prog 29 #[.pointer (some ⟨g, 0, none⟩), .int .i64 a, .int .i64 x, .int .i64 y] w fun e w' => e = .returned (.tuple #[]) ∧ w = w' := by
  obtain ⟨gs, qv, av, h⟩ := hd
  obtain ⟨ckd, fkd, zkd⟩ := h.blk.facts
  clear h
  go_enter Try.func29, Try.ntmps29
  go_wp2
  exact bodyPost_ret (results_none rfl _ _ _) rfl ⟨rfl, rfl⟩

theorem IsD.mono {w : World} {B : Nat} {M M' : Nat → Prop} {g : Nat} {d : Dk} {gs : Nat} {qv av : Value} (h : IsD w B M g d gs qv av) (hm : ∀ k, M k → M' k) (hb : ∀ k, M' k → B ≤ k ∧ k < w.heap.size) : IsD w B M' g d gs qv av := by
  refine ⟨h.blk, h.stb, h.que, ?_, hm _ h.mg, hm _ h.ms, fun k hk => hm _ (h.mq k hk), hb⟩
  have ha := h.arm
  revert ha
  cases d.arm with
  | none => exact id
  | some x =>
    obtain ⟨a, x, y⟩ := x
    rintro ⟨ga, e, hb, hg⟩
    exact ⟨ga, e, hb, hm _ hg⟩
/-- A new alarm. -/
theorem IsD.newarm {w : World} {B : Nat} {M : Nat → Prop} {g : Nat} {d : Dk} {gs : Nat} {qv av : Value} (h : IsD w B M g d gs qv av) (hB : B ≤ w.heap.size) (a x y : Int) :
    IsD ((w.alloc (.cells #[.int .i64 a, .int .i64 x, .int .i64 y] 76)).setCell ⟨g, 3, none⟩ (.pointer (some ⟨w.heap.size, 0, none⟩))) B (fun k => M k ∨ k = w.heap.size) g ⟨d.st, d.q, d.off, some (a, x, y)⟩ gs qv (.pointer (some ⟨w.heap.size, 0, none⟩)) := by
  have h2 := (h.alloc (.cells #[.int .i64 a, .int .i64 x, .int .i64 y] 76)).mono (M' := fun k => M k ∨ k = w.heap.size) (fun k => .inl) (fun k hk => by
    rcases hk with m | rfl
    · have := h.bb k m; simp; omega
    · simp; exact hB)
  exact h2.upd ((Reg.Upd.refl h2.blk).set 3 _) h2.que ⟨w.heap.size, rfl, Reg.Blk.new _ _ _, .inr rfl⟩ h2.mq

set_option maxHeartbeats 1000000 in
theorem arm_on (a x y : Int) (w : World) {B g : Nat} {M : Nat → Prop} {d : Dk} (hd : DiskAt w B M g d) (ho : d.off = false) (hB : B ≤ w.heap.size) :
    Calls Try.prog 29 #[.pointer (some ⟨g, 0, none⟩), .int .i64 a, .int .i64 x, .int .i64 y] w fun e w' => e = .returned (.tuple #[]) ∧ Post w B M g (armD d a x y) w' := by
  obtain ⟨gs, qv, av, h⟩ := hd
  obtain ⟨ckd, fkd, zkd⟩ := h.blk.facts
  have HH := Lib.hid h
  have Hs : Hid (armD d a x y = { d with arm := if 0 ≤ a then some (a, x, y) else none }) := by unfold Hid armD; rw [if_neg (by simp [ho])]
  clear h
  by_cases h0 : 0 ≤ a
  · go_enter Try.func29, Try.ntmps29
    go_wp2
    go_end0
    refine ⟨rfl, ?_⟩
    rw [Hs.out, if_pos h0]
    have h2 := HH.out.setarm
    have h3 := h2.newarm (by simp; exact hB) a x y
    have m2 : Moved M M w (w.setCell ⟨g, 3, none⟩ (.pointer none)) := Moved.set _ ⟨g, 3, none⟩ _ HH.out.mg
    have hz : g < (w.setCell ⟨g, 3, none⟩ (.pointer none)).heap.size := by simp; exact zkd
    have m3 : Moved M (fun k => M k ∨ k = (w.setCell ⟨g, 3, none⟩ (.pointer none)).heap.size) w (((w.setCell ⟨g, 3, none⟩ (.pointer none)).alloc (.cells #[.int .i64 a, .int .i64 x, .int .i64 y] 76)).setCell ⟨g, 3, none⟩ (.pointer (some ⟨(w.setCell ⟨g, 3, none⟩ (.pointer none)).heap.size, 0, none⟩))) := by
      have m4 := ((m2.trans (Moved.alloc _ (.cells #[.int .i64 a, .int .i64 x, .int .i64 y] 76))).trans (Moved.set _ ⟨g, 3, none⟩ (.pointer (some ⟨(w.setCell ⟨g, 3, none⟩ (.pointer none)).heap.size, 0, none⟩)) HH.out.mg))
      refine ⟨m4.keep, fun k hk => ?_⟩
      rcases hk with hk | rfl
      · exact .inl hk
      · right; simp
    rw [World.setCell_alloc_past _ _ _ _ hz] at h3 m3
    simp only [World.size_setCell] at h3 m3
    exact ⟨_, ⟨gs, _, _, h3⟩, m3⟩
  · go_enter Try.func29, Try.ntmps29
    go_wp2
    go_end0
    refine ⟨rfl, ?_⟩
    rw [Hs.out, if_neg (by omega)]
    exact ⟨M, ⟨gs, _, _, HH.out.setarm⟩, Moved.set _ ⟨g, 3, none⟩ _ HH.out.mg⟩

theorem arm_any (a x y : Int) (w : World) {B g : Nat} {M : Nat → Prop} {d : Dk} (hd : DiskAt w B M g d) (hB : B ≤ w.heap.size) :
    Calls Try.prog 29 #[.pointer (some ⟨g, 0, none⟩), .int .i64 a, .int .i64 x, .int .i64 y] w fun e w' => e = .returned (.tuple #[]) ∧ Post w B M g (armD d a x y) w' := by
  cases ho : d.off
  · exact arm_on a x y w hd ho hB
  · have e : armD d a x y = d := by unfold armD; rw [if_pos ho]
    rw [e]
    refine (arm_off a x y w hd ho).mono ?_
    rintro e w' ⟨rfl, rfl⟩
    exact ⟨rfl, M, hd, Moved.refl _ _⟩

/-! ### bytes to a string -/
theorem run_bts_string {w : World} {gs : Nat} {st : Tx} (h : Reg.Blk gs (bts st).toArray 5 w) (off len cap : Nat) (hl : off + len ≤ st.length) :
    (convert 56 9 (.slice (some ⟨gs, off, none⟩) len cap)).run Try.prog w = .ok (.string (str ((st.drop off).take len))) w := by
  have e := run_convert_bytes_arg (P := Try.prog) w 56 5 Try.underlying56 Try.underlying5 gs off len cap (((st.drop off).take len).map fun b => (b.toNat : Int)) (by simp; omega) (fun i hi => by
    rw [h.facts.1]
    simp only [List.getElem?_toArray, bts_get]
    rw [List.getElem?_eq_getElem (by omega)]
    simp [hi, List.getElem?_take, List.getElem?_drop, List.getElem?_eq_getElem (show off + i < st.length by omega)]) 9 Try.underlying9
  rw [e]
  have hi : ((fun n : Int => UInt8.ofNat n.toNat) ∘ fun b : UInt8 => (b.toNat : Int)) = id := by funext b; simp
  simp [strOfNums, str, hi]

theorem raw_any (w : World) {B g n : Nat} {M : Nat → Prop} {d : Dk} (hd : DiskAt w B M g d) (hf : Fit n d) :
    Calls Try.prog 31 #[.pointer (some ⟨g, 0, none⟩)] w fun e w' => e = .returned (.string (str d.st)) ∧ w = w' := by
  obtain ⟨gs, qv, av, h⟩ := hd
  obtain ⟨ckd, fkd, zkd⟩ := h.blk.facts
  have hc := run_bts_string h.stb 0 d.st.length d.st.length (by omega)
  rw [List.drop_zero, List.take_length] at hc
  clear h
  go_enter Try.func31, Try.ntmps31
  go_wp2
  go_ret
  exact ⟨rfl, rfl⟩

end D
end Go.Proofs.Ytopjekdhecikdaa
