/- Disk: 'Rot', 'New', 'Read'. -/
import Derived.Test.YtopjekdhecikdaaDg
import Derived.Laws.BitsAllLaws
set_option linter.unusedSimpArgs false
set_option linter.unusedVariables false
set_option maxRecDepth 100000
namespace Go.Proofs.Ytopjekdhecikdaa
open Go.RowKit
namespace D

theorem bts_rot (st : Tx) (i : Nat) (m : Int) (hm : m.toNat < 256) (hi : i < st.length) : bts (rotAt st i m) = (bts st).set i (.int .u8 (((st[i]).toNat ^^^ m.toNat : Nat) : Int)) := by
  have hx : (st[i]).toNat ^^^ m.toNat < 2 ^ 8 := Nat.xor_lt_two_pow (st[i]).toNat_lt hm
  apply List.ext_getElem?
  intro j
  unfold rotAt
  rw [bts_get, List.getElem?_modify, List.getElem?_set, bts_len]
  by_cases e : i = j
  · subst e
    rw [if_pos rfl, if_pos hi, List.getElem?_eq_getElem hi]
    simp only [Option.map_some, if_true, Option.map_eq_map]
    rw [UInt8.toNat_ofNat_of_lt' (by simpa using hx)]
  · rw [if_neg e, bts_get]
    simp [e]

theorem rot_no (s at' m : Int) (w : World) {B g n : Nat} {M : Nat → Prop} {d : Dk} (hd : DiskAt w B M g d) (hf : Fit n d) (hr : rotOk d s at' m = false) :
    Calls Try.prog 30 #[.pointer (some ⟨g, 0, none⟩), .int .i64 s, .int .i64 at', .int .i64 m] w fun e w' => e = .returned (.tuple #[]) ∧ Below w.heap.size w w' := by
  unfold rotOk at hr
  cases hs : isAt d s
  · have hp := Lib.hid (place_no s w hd hf hs)
    go_enter Try.func30, Try.ntmps30
    go_wp2_with fail
    (with_reducible refine hp.out.mono ?_); rintro e w1 ⟨rfl, hb⟩
    go_wp2
    go_end0
    exact ⟨rfl, hb.alloc hb.size _⟩
  · rw [hs] at hr
    have hp := Lib.hid (place_yes s w hd hf hs)
    cases r1 : decide (0 ≤ at')
    case false =>
      go_enter Try.func30, Try.ntmps30
      go_wp2_with fail
      (with_reducible refine hp.out.mono ?_); rintro e w1 ⟨rfl, hb⟩
      go_wp2
      go_end0
      exact ⟨rfl, hb.alloc hb.size _⟩
    cases r2 : decide (at' < 64)
    case false =>
      go_enter Try.func30, Try.ntmps30
      go_wp2_with fail
      (with_reducible refine hp.out.mono ?_); rintro e w1 ⟨rfl, hb⟩
      go_wp2
      go_end0
      exact ⟨rfl, hb.alloc hb.size _⟩
    cases r3 : decide (0 < m)
    case false =>
      go_enter Try.func30, Try.ntmps30
      go_wp2_with fail
      (with_reducible refine hp.out.mono ?_); rintro e w1 ⟨rfl, hb⟩
      go_wp2
      go_end0
      exact ⟨rfl, hb.alloc hb.size _⟩
    cases r4 : decide (m < 256)
    case false =>
      go_enter Try.func30, Try.ntmps30
      go_wp2_with fail
      (with_reducible refine hp.out.mono ?_); rintro e w1 ⟨rfl, hb⟩
      go_wp2
      go_end0
      exact ⟨rfl, hb.alloc hb.size _⟩
    rw [r1, r2, r3, r4] at hr
    cases hr

set_option maxHeartbeats 1000000 in
theorem rot_yes (s at' m : Int) (w : World) {B g n : Nat} {M : Nat → Prop} {d : Dk} (hd : DiskAt w B M g d) (hf : Fit n d) (hr : rotOk d s at' m = true) :
    Calls Try.prog 30 #[.pointer (some ⟨g, 0, none⟩), .int .i64 s, .int .i64 at', .int .i64 m] w fun e w' => e = .returned (.tuple #[]) ∧ Post w B M g (rot d s at' m) w' := by
  have Hr : Hid (rot d s at' m = { d with st := rotAt d.st (s.toNat * 64 + at'.toNat) m }) := by unfold Hid rot; rw [if_pos hr]
  unfold rotOk at hr
  simp only [Bool.and_eq_true, decide_eq_true_eq] at hr
  obtain ⟨hs, a1, a2, m1, m2⟩ := hr
  have hp := Lib.hid (place_yes s w hd hf hs)
  obtain ⟨s1, s2⟩ := isAt_true hf.good hs
  obtain ⟨gs, qv, av, h⟩ := hd
  have hl := hf.good.len
  have hn := hf.n
  obtain ⟨x, rfl⟩ := Int.eq_ofNat_of_zero_le s1
  obtain ⟨y, rfl⟩ := Int.eq_ofNat_of_zero_le a1
  go_enter Try.func30, Try.ntmps30
  go_wp2_with fail
  (with_reducible refine hp.out.mono ?_); rintro e w1 ⟨rfl, hb⟩
  have h1 := h.below hb
  obtain ⟨ckd, fkd, zkd⟩ := h1.blk.facts
  obtain ⟨cks, fks, zks⟩ := h1.stb.facts
  have HH := Lib.hid h1
  have hgs := h1.ms
  obtain ⟨i, hi⟩ : ∃ i : Nat, i = x * 64 + y := ⟨_, rfl⟩
  have hil : i < d.st.length := by omega
  have e1 : IntKind.i64.wrap ((x : Int) * 64 + (y : Int)) = (i : Int) := by rw [IntWalk.i64_left, IntWalk.wrap64_in _ (by omega)]; omega
  have e2 : IntKind.u8.wrap m = m := by unfold IntKind.wrap; simp [IntKind.bits, IntKind.signed]; omega
  have q0 : w1.cell? ⟨gs, i, none⟩ = some (.int .u8 ((d.st[i]).toNat : Int)) := by
    rw [cks, List.getElem?_toArray, bts_get, List.getElem?_eq_getElem hil]; rfl
  have Hi := Lib.hid hi
  have z1 : g < w1.heap.size + 1 := by omega
  have z2 : gs < w1.heap.size + 1 := by omega
  have hb0 := Lib.hid hb
  clear h h1 hi cks hb hl s1 s2 a1 hf hn
  go_wp2_with fail
  refine Reg.wp_region_seq (by kernel_rfl) (by kernel_rfl) ?_
  simp only
  have e3 : bits .xor .u8 ((d.st[i]).toNat : Int) m = (((d.st[i]).toNat ^^^ m.toNat : Nat) : Int) := by
    have := (d.st[i]).toNat_lt
    rw [u8_xor _ _ (by omega) (by omega) (by omega) (by omega)]; simp
  iterate 14
    apply Reg.SeqOK.val
    · intro γ W hW K hK
      obtain ⟨hc, hf, _⟩ := bcell hW
      simp only [Act.put, List.setIfInBounds_toArray, List.set_cons_zero, List.set_cons_succ] at hK
      unfold Reg.Does
      go_simp
      try simp only [IntWalk.i64_left]
      first
        | exact hK _ (Below.refl _ _)
    simp only [Act.put, List.setIfInBounds_toArray, List.set_cons_zero, List.set_cons_succ, List.nil_append, List.cons_append, Nat.reduceAdd, Nat.zero_add]
  refine Reg.SeqOK.last (by kernel_rfl) (by kernel_rfl) (fun γ W hW _ _ _ => ?_)
  have h2 := (HH.out.alloc (.cells #[.int .i64 ((x : Int) * 64), .int .i64 (((x : Int) + 1) * 64)] 66)).below hW
  obtain ⟨cks, fks, zks⟩ := h2.stb.facts
  have H2 := Lib.hid h2
  have hb0 : Below w.heap.size w w1 := hb0.out
  have q1 : W.cell? ⟨gs, i, none⟩ = some (.int .u8 ((d.st[i]).toNat : Int)) := by
    rw [cks, List.getElem?_toArray, bts_get, List.getElem?_eq_getElem hil]; rfl
  clear h2 cks
  unfold Reg.Does
  go_simp
  go_wp2
  go_end0
  refine ⟨rfl, ?_⟩
  rw [Hr.out]
  have hu := (Reg.Upd.refl H2.out.stb).set i (.int .u8 (((d.st[i]).toNat ^^^ m.toNat : Nat) : Int))
  have e4 : (bts d.st).toArray.setIfInBounds i (.int .u8 (((d.st[i]).toNat ^^^ m.toNat : Nat) : Int)) = (bts (rotAt d.st i m)).toArray := by
    rw [bts_rot _ _ _ (by omega) hil]; simp
  rw [e4] at hu
  have e5 : (x : Int).toNat * 64 + (y : Int).toNat = i := by have := Hi.out; omega
  rw [e5]
  exact ⟨M, ⟨gs, _, _, H2.out.newst (by simp [rotAt]) hu⟩, (((Moved.below hb0).trans (Moved.alloc _ _)).trans (Moved.below hW)).trans (moved_upd hgs hu)⟩

theorem rot_any (s at' m : Int) (w : World) {B g n : Nat} {M : Nat → Prop} {d : Dk} (hd : DiskAt w B M g d) (hf : Fit n d) :
    Calls Try.prog 30 #[.pointer (some ⟨g, 0, none⟩), .int .i64 s, .int .i64 at', .int .i64 m] w fun e w' => e = .returned (.tuple #[]) ∧ Post w B M g (rot d s at' m) w' := by
  cases hr : rotOk d s at' m
  · refine (rot_no s at' m w hd hf hr).mono ?_
    rintro e w' ⟨rfl, hb⟩
    have e : rot d s at' m = d := by unfold rot; rw [hr]; rfl
    rw [e]
    obtain ⟨gs, qv, av, h⟩ := hd
    exact ⟨rfl, M, ⟨gs, qv, av, h.below hb⟩, Moved.below hb⟩
  · exact rot_yes s at' m w hd hf hr

theorem info_u8 : (Try.prog.info? 5).map (fun i => (i.zero, i.size, i.bytes)) = some (some (.int .u8 0), 1, 1) := by kernel_rfl
theorem make_bytes (n : Nat) (hn : n ≤ 4000) (w : World) : (Instr.makeSlice 56 (.int .i64 ((n : Int) * 64)) (.int .i64 ((n : Int) * 64))).run Try.prog w =
    .ok (.slice (some ⟨w.heap.size, 0, none⟩) (n * 64) (n * 64)) (w.alloc (.cells (bts (List.replicate (n * 64) 0)).toArray 5)) := by
  obtain ⟨i0, hi, hz0, hz1, hz2⟩ := info_parts info_u8
  have hr := run_make (P := Try.prog) w 56 5 i0 _ Try.underlying56 hi hz0 .i64 .i64 ((n : Int) * 64) ((n : Int) * 64) (by omega) (Int.le_refl _) (by rw [hz2]; omega) (by omega)
  rw [hr]
  have e : ((n : Int) * 64).toNat = n * 64 := by omega
  rw [e, hz1]
  congr 3
  apply Array.ext'
  simp only [Nat.mul_one]
  show (madeCells #[Value.int .u8 0] (n * 64)).toList = _
  rw [toList_madeCells_one]
  simp [bts]

theorem new_any (n : Nat) (hn : 1 ≤ n) (hn2 : n ≤ 4000) (w : World) {B : Nat} (hB : B ≤ w.heap.size) :
    Calls Try.prog 13 #[.int .i64 n] w fun e w' => ∃ g M, e = .returned (.pointer (some ⟨g, 0, none⟩)) ∧ DiskAt w' B M g (newD n) ∧ (∀ k, M k → w.heap.size ≤ k) ∧ Below w.heap.size w w' := by
  have hm := make_bytes n hn2
  go_enter Try.func13, Try.ntmps13
  go_wp2
  go_ret
  refine ⟨_, fun k => k = w.heap.size ∨ k = w.heap.size + 1, rfl, ⟨w.heap.size, .slice none 0 0, .pointer none, ?_⟩, ?_, ?_⟩
  · refine ⟨?_, (Reg.Blk.new _ _ _).alloc _, World.ownsRow_nil _ _ _ _, rfl, .inr rfl, .inl rfl, fun k hk => by simp [Value.ownBlock] at hk, fun k hk => ?_⟩
    · have := Reg.Blk.new (w.alloc (.cells (bts (List.replicate (n * 64) 0)).toArray 5)) #[.slice (some ⟨w.heap.size, 0, none⟩) (n * 64) (n * 64), .slice none 0 0, .bool false, .pointer none] 60
      simp only [World.size_alloc] at this
      simpa [newD] using this
    · simp only [World.size_alloc]; omega
  · intro k hk; omega
  · exact ((Below.refl _ _).alloc (Nat.le_refl _) _).alloc (by simp) _
theorem new_no (x : Int) (hx : x < 1 ∨ 4000 < x) (w : World) :
    Calls Try.prog 13 #[.int .i64 x] w fun e w' => e = .returned (.pointer none) ∧ w = w' := by
  rcases hx with hx | hx
  · go_enter Try.func13, Try.ntmps13
    go_wp2
    go_ret
    exact ⟨rfl, rfl⟩
  · go_enter Try.func13, Try.ntmps13
    go_wp2
    go_ret
    exact ⟨rfl, rfl⟩

end D
end Go.Proofs.Ytopjekdhecikdaa
