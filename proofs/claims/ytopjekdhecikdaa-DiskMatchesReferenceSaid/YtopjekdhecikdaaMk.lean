/- The law's 'want'. -/
import Derived.Test.YtopjekdhecikdaaMj
set_option linter.unusedSimpArgs false
set_option linter.unusedVariables false
set_option maxRecDepth 100000
namespace Go.Proofs.Ytopjekdhecikdaa
open Go.RowKit
namespace D

set_option maxHeartbeats 4000000 in
theorem want_write (a : AV) (w : World) {B g n : Nat} {M : Nat → Prop} {d : Dk} (hd : RefAt w B n M g d) (hf : Fit n d) (hn : 1 ≤ n) (hB : B ≤ w.heap.size) (hq1 : d.q.length + 1 ≤ 100000) (hl : a.text.length ≤ 1000000) (hk : a.kind = 0) :
    Calls Try.prog 17 #[.pointer (some ⟨g, 0, none⟩), actV a] w fun e w' => e = .returned (.tuple #[.string (str []), .int .i64 (write d a.sec (atext a.text a.odd)).1]) ∧ RPost w B n M g (write d a.sec (atext a.text a.odd)).2 w' := by
  unfold actV
  obtain ⟨kind, sec, byt, text, odd, aft⟩ := a
  simp only at hl hk ⊢
  subst hk
  obtain ⟨sb, qv, am, a1, x1, y1, h⟩ := hd
  have H := Lib.hid h
  clear h
  go_enter Try.func17, Try.ntmps17
  go_wp2_with fail
  refine Reg.wp_region_seq (by kernel_rfl) (by kernel_rfl) ?_
  simp only
  iterate 5
    apply Reg.SeqOK.val
    · intro γ W hW K hK
      obtain ⟨hc, hf, _⟩ := bcell hW
      simp only [Act.put, List.setIfInBounds_toArray, List.set_cons_zero, List.set_cons_succ] at hK
      unfold Reg.Does
      go_simp
      try simp only [IntWalk.i64_left]
      first
        | exact hK _ (Below.refl _ _)
        | (go_at_call 24; (with_reducible refine (text_any _ _ _ _ _ _ _ (by assumption)).mono ?_); rintro e w' ⟨rfl, hb⟩; exact hK _ hb)
    simp only [Act.put, List.setIfInBounds_toArray, List.set_cons_zero, List.set_cons_succ, List.nil_append, List.cons_append, Nat.reduceAdd, Nat.zero_add]
  refine Reg.SeqOK.tail (by kernel_rfl) (by kernel_rfl) (fun γ W hW _ _ _ => ?_)
  have h2 := (H.out.alloc (.cells #[.int .i64 0, .int .i64 sec, .int .i64 byt, .string (str text), .bool odd, .int .i64 aft] 34)).below hW
  have hbw : B ≤ W.heap.size := by have := hW.size; simp at this; omega
  have hS := Lib.hid (rwrite_any sec (atext text odd) W ⟨_, _, _, _, _, _, h2⟩ hf hn hbw hq1)
  clear h2
  refine Reg.tail_cons ?_
  unfold Reg.Does
  go_simp
  go_wp2_with fail
  (with_reducible refine hS.out.mono ?_); rintro e w3 ⟨rfl, hp⟩
  refine Reg.tail_cons ?_
  unfold Reg.Does
  go_simp
  refine Reg.tail_cons ?_
  unfold Reg.Does
  go_simp
  refine Reg.tail_nil ?_
  go_wp2_with fail
  go_ret2
  exact ⟨rfl, hp.trans ((Moved.alloc _ _).trans (Moved.below hW))⟩

set_option maxHeartbeats 4000000 in
theorem want_1 (a : AV) (w : World) {B g n : Nat} {M : Nat → Prop} {d : Dk} (hd : RefAt w B n M g d) (hf : Fit n d) (hn : 1 ≤ n) (hB : B ≤ w.heap.size) (hk : a.kind = 1) :
    Calls Try.prog 17 #[.pointer (some ⟨g, 0, none⟩), actV a] w fun e w' => e = .returned (.tuple #[.string (str (read d a.sec).1), .int .i64 (read d a.sec).2]) ∧ RPost w B n M g d w' := by
  unfold actV
  obtain ⟨kind, sec, byt, text, odd, aft⟩ := a
  simp only at hk ⊢
  subst hk
  obtain ⟨sb, qv, am, a1, x1, y1, h⟩ := hd
  have h2 := h.alloc (.cells #[.int .i64 1, .int .i64 sec, .int .i64 byt, .string (str text), .bool odd, .int .i64 aft] 34)
  have hS := Lib.hid (rread_any sec _ ⟨_, _, _, _, _, _, h2⟩ hf hn)
  have Hd := Lib.hid h
  clear h h2
  go_enter Try.func17, Try.ntmps17
  go_wp2_with fail
  (with_reducible refine hS.out.mono ?_); rintro e w3 ⟨rfl, hb⟩
  go_wp2
  go_ret2
  exact ⟨rfl, M, ⟨_, _, _, _, _, _, (Hd.out.alloc _).below hb⟩, (Moved.alloc _ _).trans (Moved.below hb)⟩

set_option maxHeartbeats 4000000 in
theorem want_2 (a : AV) (w : World) {B g n : Nat} {M : Nat → Prop} {d : Dk} (hd : RefAt w B n M g d) (hf : Fit n d) (hn : 1 ≤ n) (hB : B ≤ w.heap.size) (hk : a.kind = 2) :
    Calls Try.prog 17 #[.pointer (some ⟨g, 0, none⟩), actV a] w fun e w' => e = .returned (.tuple #[.string (str []), .int .i64 (sync d).1]) ∧ RPost w B n M g (sync d).2 w' := by
  unfold actV
  obtain ⟨kind, sec, byt, text, odd, aft⟩ := a
  simp only at hk ⊢
  subst hk
  obtain ⟨sb, qv, am, a1, x1, y1, h⟩ := hd
  have h2 := h.alloc (.cells #[.int .i64 2, .int .i64 sec, .int .i64 byt, .string (str text), .bool odd, .int .i64 aft] 34)
  have hS := Lib.hid (rsync_any _ ⟨_, _, _, _, _, _, h2⟩ hf)
  clear h h2
  go_enter Try.func17, Try.ntmps17
  go_wp2_with fail
  (with_reducible refine hS.out.mono ?_); rintro e w3 ⟨rfl, hp⟩
  go_wp2
  go_ret2
  exact ⟨rfl, hp.trans (Moved.alloc _ _)⟩

set_option maxHeartbeats 4000000 in
theorem want_3 (a : AV) (w : World) {B g n : Nat} {M : Nat → Prop} {d : Dk} (hd : RefAt w B n M g d) (hf : Fit n d) (hn : 1 ≤ n) (hB : B ≤ w.heap.size) (hk : a.kind = 3) :
    Calls Try.prog 17 #[.pointer (some ⟨g, 0, none⟩), actV a] w fun e w' => e = .returned (.tuple #[.string (str []), .int .i64 0]) ∧ RPost w B n M g (fail d a.sec a.byt) w' := by
  unfold actV
  obtain ⟨kind, sec, byt, text, odd, aft⟩ := a
  simp only at hk ⊢
  subst hk
  obtain ⟨sb, qv, am, a1, x1, y1, h⟩ := hd
  have h2 := h.alloc (.cells #[.int .i64 3, .int .i64 sec, .int .i64 byt, .string (str text), .bool odd, .int .i64 aft] 34)
  have hS := Lib.hid (rfail_any sec byt _ ⟨_, _, _, _, _, _, h2⟩ hf)
  clear h h2
  go_enter Try.func17, Try.ntmps17
  go_wp2_with fail
  (with_reducible refine hS.out.mono ?_); rintro e w3 ⟨rfl, hp⟩
  go_wp2
  go_ret2
  exact ⟨rfl, hp.trans (Moved.alloc _ _)⟩

set_option maxHeartbeats 4000000 in
theorem want_4 (a : AV) (w : World) {B g n : Nat} {M : Nat → Prop} {d : Dk} (hd : RefAt w B n M g d) (hf : Fit n d) (hn : 1 ≤ n) (hB : B ≤ w.heap.size) (hk : a.kind = 4) :
    Calls Try.prog 17 #[.pointer (some ⟨g, 0, none⟩), actV a] w fun e w' => e = .returned (.tuple #[.string (str []), .int .i64 0]) ∧ RPost w B n M g (start d) w' := by
  unfold actV
  obtain ⟨kind, sec, byt, text, odd, aft⟩ := a
  simp only at hk ⊢
  subst hk
  obtain ⟨sb, qv, am, a1, x1, y1, h⟩ := hd
  have h2 := h.alloc (.cells #[.int .i64 4, .int .i64 sec, .int .i64 byt, .string (str text), .bool odd, .int .i64 aft] 34)
  have hS := Lib.hid (rstart_any _ ⟨_, _, _, _, _, _, h2⟩)
  clear h h2
  go_enter Try.func17, Try.ntmps17
  go_wp2_with fail
  (with_reducible refine hS.out.mono ?_); rintro e w3 ⟨rfl, hp⟩
  go_wp2
  go_ret2
  exact ⟨rfl, hp.trans (Moved.alloc _ _)⟩

set_option maxHeartbeats 4000000 in
theorem want_5 (a : AV) (w : World) {B g n : Nat} {M : Nat → Prop} {d : Dk} (hd : RefAt w B n M g d) (hf : Fit n d) (hn : 1 ≤ n) (hB : B ≤ w.heap.size) (hk : a.kind = 5) :
    Calls Try.prog 17 #[.pointer (some ⟨g, 0, none⟩), actV a] w fun e w' => e = .returned (.tuple #[.string (str []), .int .i64 0]) ∧ RPost w B n M g (armD d a.aft a.sec a.byt) w' := by
  unfold actV
  obtain ⟨kind, sec, byt, text, odd, aft⟩ := a
  simp only at hk ⊢
  subst hk
  obtain ⟨sb, qv, am, a1, x1, y1, h⟩ := hd
  have h2 := h.alloc (.cells #[.int .i64 5, .int .i64 sec, .int .i64 byt, .string (str text), .bool odd, .int .i64 aft] 34)
  have hS := Lib.hid (rarm_any aft sec byt _ ⟨_, _, _, _, _, _, h2⟩)
  clear h h2
  go_enter Try.func17, Try.ntmps17
  go_wp2_with fail
  (with_reducible refine hS.out.mono ?_); rintro e w3 ⟨rfl, hp⟩
  go_wp2
  go_ret2
  exact ⟨rfl, hp.trans (Moved.alloc _ _)⟩

set_option maxHeartbeats 4000000 in
theorem want_6 (a : AV) (w : World) {B g n : Nat} {M : Nat → Prop} {d : Dk} (hd : RefAt w B n M g d) (hf : Fit n d) (hn : 1 ≤ n) (hB : B ≤ w.heap.size) (hk : a.kind = 6) :
    Calls Try.prog 17 #[.pointer (some ⟨g, 0, none⟩), actV a] w fun e w' => e = .returned (.tuple #[.string (str []), .int .i64 0]) ∧ RPost w B n M g (rot d a.sec a.byt a.aft) w' := by
  unfold actV
  obtain ⟨kind, sec, byt, text, odd, aft⟩ := a
  simp only at hk ⊢
  subst hk
  obtain ⟨sb, qv, am, a1, x1, y1, h⟩ := hd
  have h2 := h.alloc (.cells #[.int .i64 6, .int .i64 sec, .int .i64 byt, .string (str text), .bool odd, .int .i64 aft] 34)
  have hS := Lib.hid (rrot_any sec byt aft _ ⟨_, _, _, _, _, _, h2⟩ hf hn)
  clear h h2
  go_enter Try.func17, Try.ntmps17
  go_wp2_with fail
  (with_reducible refine hS.out.mono ?_); rintro e w3 ⟨rfl, hp⟩
  go_wp2
  go_ret2
  exact ⟨rfl, hp.trans (Moved.alloc _ _)⟩

set_option maxHeartbeats 4000000 in
theorem want_7 (a : AV) (w : World) {B g n : Nat} {M : Nat → Prop} {d : Dk} (hd : RefAt w B n M g d) (hf : Fit n d) (hn : 1 ≤ n) (hB : B ≤ w.heap.size) (hk : a.kind = 7) :
    Calls Try.prog 17 #[.pointer (some ⟨g, 0, none⟩), actV a] w fun e w' => e = .returned (.tuple #[.string (str d.st), .int .i64 0]) ∧ RPost w B n M g d w' := by
  unfold actV
  obtain ⟨kind, sec, byt, text, odd, aft⟩ := a
  simp only at hk ⊢
  subst hk
  obtain ⟨sb, qv, am, a1, x1, y1, h⟩ := hd
  have h2 := h.alloc (.cells #[.int .i64 7, .int .i64 sec, .int .i64 byt, .string (str text), .bool odd, .int .i64 aft] 34)
  have hS := Lib.hid (rraw_any _ ⟨_, _, _, _, _, _, h2⟩ hf hn)
  have Hd := Lib.hid h
  clear h h2
  go_enter Try.func17, Try.ntmps17
  go_wp2_with fail
  (with_reducible refine hS.out.mono ?_); rintro e w3 ⟨rfl, hb⟩
  go_wp2
  go_ret2
  exact ⟨rfl, M, ⟨_, _, _, _, _, _, (Hd.out.alloc _).below hb⟩, (Moved.alloc _ _).trans (Moved.below hb)⟩

theorem want_none (a : AV) (w : World) {B g n : Nat} {M : Nat → Prop} {d : Dk} (hd : RefAt w B n M g d) (h0 : a.kind ≠ 0) (h1 : a.kind ≠ 1) (h2 : a.kind ≠ 2) (h3 : a.kind ≠ 3) (h4 : a.kind ≠ 4) (h5 : a.kind ≠ 5) (h6 : a.kind ≠ 6) (h7 : a.kind ≠ 7) :
    Calls Try.prog 17 #[.pointer (some ⟨g, 0, none⟩), actV a] w fun e w' => e = .returned (.tuple #[.string (str []), .int .i64 0]) ∧ RPost w B n M g d w' := by
  unfold actV
  obtain ⟨kind, sec, byt, text, odd, aft⟩ := a
  simp only at h0 h1 h2 h3 h4 h5 h6 h7 ⊢
  obtain ⟨sb, qv, am, a1, x1, y1, h⟩ := hd
  have b0 : (kind == 0) = false := by simpa using h0
  have b1 : (kind == 1) = false := by simpa using h1
  have b2 : (kind == 2) = false := by simpa using h2
  have b3 : (kind == 3) = false := by simpa using h3
  have b4 : (kind == 4) = false := by simpa using h4
  have b5 : (kind == 5) = false := by simpa using h5
  have b6 : (kind == 6) = false := by simpa using h6
  have b7 : (kind == 7) = false := by simpa using h7
  have Hd := Lib.hid h
  clear h
  go_enter Try.func17, Try.ntmps17
  go_wp2
  go_ret2
  exact ⟨rfl, M, ⟨_, _, _, _, _, _, Hd.out.alloc _⟩, Moved.alloc _ _⟩

theorem want_any (a : AV) (w : World) {B g n : Nat} {M : Nat → Prop} {d : Dk} (hd : RefAt w B n M g d) (hf : Fit n d) (hn : 1 ≤ n) (hB : B ≤ w.heap.size) (hq1 : d.q.length + 1 ≤ 100000) (hl : a.text.length ≤ 1000000) :
    Calls Try.prog 17 #[.pointer (some ⟨g, 0, none⟩), actV a] w fun e w' => e = .returned (.tuple #[.string (str (doA d a).1.1), .int .i64 (doA d a).1.2]) ∧ RPost w B n M g (doA d a).2 w' := by
  unfold doA
  by_cases h0 : a.kind = 0
  · rw [if_pos h0]; exact want_write a w hd hf hn hB hq1 hl h0
  rw [if_neg h0]
  by_cases h1 : a.kind = 1
  · rw [if_pos h1]; exact want_1 a w hd hf hn hB h1
  rw [if_neg h1]
  by_cases h2 : a.kind = 2
  · rw [if_pos h2]; exact want_2 a w hd hf hn hB h2
  rw [if_neg h2]
  by_cases h3 : a.kind = 3
  · rw [if_pos h3]; exact want_3 a w hd hf hn hB h3
  rw [if_neg h3]
  by_cases h4 : a.kind = 4
  · rw [if_pos h4]; exact want_4 a w hd hf hn hB h4
  rw [if_neg h4]
  by_cases h5 : a.kind = 5
  · rw [if_pos h5]; exact want_5 a w hd hf hn hB h5
  rw [if_neg h5]
  by_cases h6 : a.kind = 6
  · rw [if_pos h6]; exact want_6 a w hd hf hn hB h6
  rw [if_neg h6]
  by_cases h7 : a.kind = 7
  · rw [if_pos h7]; exact want_7 a w hd hf hn hB h7
  rw [if_neg h7]
  exact want_none a w hd h0 h1 h2 h3 h4 h5 h6 h7

end D
end Go.Proofs.Ytopjekdhecikdaa
