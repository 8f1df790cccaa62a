/- The reference disk: 'Raw'. -/
import Derived.Test.YtopjekdhecikdaaMi
import Derived.Room.AppendFits
set_option linter.unusedSimpArgs false
set_option linter.unusedVariables false
set_option maxRecDepth 100000
namespace Go.Proofs.Ytopjekdhecikdaa
open Go.RowKit
namespace D

theorem cells_str (t : Tx) : Go.Lib.strCells (str t) = bts t := by simp [Go.Lib.strCells, bts, str]
theorem make_room (n : Nat) (hn : n ≤ 4000) (w : World) : (Instr.makeSlice 56 (.int .i64 0) (.int .i64 ((n : Int) * 64))).run Try.prog w =
    .ok (.slice (some ⟨w.heap.size, 0, none⟩) 0 (n * 64)) (w.alloc (.cells (bts (List.replicate (n * 64) 0)).toArray 5)) := by
  obtain ⟨i0, hi, hz0, hz1, hz2⟩ := info_parts info_u8
  have hr := run_make (P := Try.prog) w 56 5 i0 _ Try.underlying56 hi hz0 .i64 .i64 0 ((n : Int) * 64) (by omega) (by omega) (by rw [hz2]; omega) (by omega)
  rw [hr]
  have e : ((n : Int) * 64).toNat = n * 64 := by omega
  rw [e, hz1]
  congr 3
  apply Array.ext'
  simp only [Nat.mul_one]
  show (madeCells #[Value.int .u8 0] (n * 64)).toList = _
  rw [toList_madeCells_one]
  simp [bts]
theorem take_sec {st : Tx} (k : Nat) : st.take (k * 64) ++ sec st k = st.take ((k + 1) * 64) := by
  unfold sec
  rw [Nat.succ_mul, List.take_add]

set_option maxHeartbeats 2000000 in
theorem rraw_any (w : World) {B g n : Nat} {M : Nat → Prop} {d : Dk} (hd : RefAt w B n M g d) (hf : Fit n d) (hn : 1 ≤ n) :
    Calls Try.prog 39 #[.pointer (some ⟨g, 0, none⟩)] w fun e w' => e = .returned (.string (str d.st)) ∧ Below w.heap.size w w' := by
  obtain ⟨sb, qv, am, a, x, y, h⟩ := hd
  obtain ⟨gs, cs, rfl, hm, hltg, hne⟩ := h.sform hn
  obtain ⟨ckd, fkd, zkd⟩ := h.blk.facts
  have hl := hf.good.len
  have hn2 := hf.n
  have hmk := make_room n hn2
  have emul : IntKind.i64.wrap ((n : Int) * 64) = (n : Int) * 64 := by rw [IntWalk.i64_left, IntWalk.wrap64_in _ (by omega)]
  have H := Lib.hid h
  obtain ⟨i0, hi0, hz0, hz1, hz2⟩ := info_parts info_u8
  have own0 : (w.alloc (.cells (bts (List.replicate (n * 64) 0)).toArray 5)).ownsRow w.heap.size 5 1 (.slice (some ⟨w.heap.size, 0, none⟩) 0 (n * 64)) 0 (bts (d.st.take 0)) :=
    ⟨by simp [bts], .inr ⟨w.heap.size, n * 64, _, rfl, Nat.le_refl _, Reg.Blk.new _ _ _, Nat.zero_le _, by unfold maxLen; omega, by simp [bts], by simp [bts]⟩⟩
  have Own0 := Lib.hid own0
  clear h hf own0
  go_enter Try.func39, Try.ntmps39
  go_wp2_with fail
  go_loopw [3, 4] (fun o i wr => ∃ k : Nat, k ≤ n ∧ i = .int .i64 k ∧ o = .slice (some ⟨w.heap.size, 0, none⟩) (k * 64) (n * 64) ∧ wr.ownsRow w.heap.size 5 1 (.slice (some ⟨w.heap.size, 0, none⟩) (k * 64) (n * 64)) (k * 64) (bts (d.st.take (k * 64))) ∧ Below w.heap.size w wr) (fun _ i _ => n - (intOf i).toNat)
  case atStart => exact ⟨0, Nat.zero_le _, rfl, rfl, Own0.out, (Below.refl _ _).alloc (Nat.le_refl _) _⟩
  case round =>
    obtain ⟨k, hk, rfl, rfl, hown, hW⟩ := hrel
    have h2 := H.out.below hW
    have HW := Lib.hid hW
    have HO := Lib.hid hown
    clear ckd fkd zkd
    obtain ⟨ckd, fkd, zkd⟩ := h2.blk.facts
    by_cases hlt : k < n
    · obtain ⟨t1, t2⟩ := h2.cell hlt
      have hkn : (k : Int) < (n : Int) := by omega
      have hk0 : (0 : Int) ≤ (k : Int) := by omega
      have hs64 : (sec d.st k).length = 64 := sec_len (by omega)
      have y1 : (str (sec d.st k)).size = 64 := by rw [str_size]; exact hs64
      have tk := Lib.hid (take_sec (st := d.st) k)
      have hcs := Lib.hid (cells_str (sec d.st k))
      clear h2 hW hown
      go_wp2_with (at_builtin; refine Go.Lib.wpList_append_fits_string _ (by rfl) _ _ _ _ (by rfl) w.heap.size 5 i0 Try.underlying56 Try.underlying9 hi0 hz1 (some ⟨w.heap.size, 0, none⟩) (k * 64) (n * 64) (bts (d.st.take (k * 64))) (by rfl) HO.out (str (sec d.st k)) (by rfl) (by omega) (by omega) ?_; intro w3 hown1 hgrow; have HO1 := Lib.hid hown1; have HG := Lib.hid hgrow; clear hown1 hgrow ckd fkd t1 t2)
      have e1 : k * 64 + 64 = (k + 1) * 64 := by omega
      refine ⟨⟨k + 1, by omega, by go_num, ?_, ?_, ?_⟩, by simp [intOf]; omega⟩
      · rw [← e1]
      · have := HO1.out
        rw [y1, e1, hcs.out, ← show bts (d.st.take (k * 64) ++ sec d.st k) = bts (d.st.take (k * 64)) ++ bts (sec d.st k) from by simp [bts], tk.out] at this
        exact this
      · exact HW.out.grown HG.out HW.out.size (fun j hj => (HO.out.lt j hj).1)
    · obtain rfl : k = n := by omega
      have hblk : Reg.Blk w.heap.size (bts d.st).toArray 5 wr := by
        rcases hown.2 with ⟨e, _⟩ | ⟨g', cap, cur, e, _, hg, _, _, hsz, ht⟩
        · cases e
        · injection e with e1 e2 e3
          injection e1 with e1
          injection e1 with e1
          subst e1 e3
          rw [List.take_of_length_le (by rw [Array.length_toList]; omega), List.take_of_length_le (by omega)] at ht
          rw [← ht]
          simp only [Array.toArray_toList]
          exact hg
      have hcv := run_bts_string hblk 0 (k * 64) (k * 64) (by omega)
      rw [List.drop_zero, List.take_of_length_le (by omega)] at hcv
      clear h2 hW hown
      go_wp2
      go_ret
      exact ⟨rfl, HW.out⟩

end D
end Go.Proofs.Ytopjekdhecikdaa
