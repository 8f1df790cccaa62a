/- The reference disk: 'zero', 'New'. -/
import Derived.Test.YtopjekdhecikdaaMg
set_option linter.unusedSimpArgs false
set_option linter.unusedVariables false
set_option maxRecDepth 100000
namespace Go.Proofs.Ytopjekdhecikdaa
open Go.RowKit
namespace D

def z64 : Tx := List.replicate 64 0
theorem zero_any (w : World) : Calls Try.prog 32 #[.int .i64 64] w fun e w' => e = .returned (.string (str z64)) ∧ w = w' := by
  go_enter Try.func32, Try.ntmps32
  go_wp2_with fail
  go_loop [3, 4] (fun s i => ∃ k : Nat, k ≤ 64 ∧ i = .int .i64 k ∧ s = .string (str (List.replicate k 0))) (fun _ i => 64 - (intOf i).toNat)
  case atStart => exact ⟨0, Nat.zero_le _, rfl, rfl⟩
  case round =>
    obtain ⟨k, hk, rfl, rfl⟩ := hrel
    by_cases hlt : k < 64
    · have hcat : str (List.replicate k (0 : UInt8)) ++ (⟨#[0]⟩ : ByteArray) = str (List.replicate (k + 1) 0) := by
        have := str_append (List.replicate k (0 : UInt8)) [0]
        rw [← List.replicate_succ'] at this
        exact this
      have y5 : ¬ 9223372036854775807 < (str (List.replicate k (0 : UInt8))).size + (⟨#[0]⟩ : ByteArray).size := by
        rw [str_size, List.length_replicate]
        have : (⟨#[0]⟩ : ByteArray).size = 1 := rfl
        omega
      have hk64 : (k : Int) < 64 := by omega
      go_wp2
      go_round
      case rel => exact ⟨k + 1, by omega, by go_num, rfl⟩
      case measure => simp [intOf]; omega
    · obtain rfl : k = 64 := by omega
      go_wp2
      go_ret
      exact ⟨rfl, rfl⟩

theorem secs_zero (n : Nat) : secs n (List.replicate (n * 64) 0) = List.replicate n z64 := by
  apply List.ext_getElem?
  intro i
  rcases Nat.lt_or_ge i n with hi | hi
  · rw [secs_get hi, List.getElem?_replicate, if_pos hi]
    unfold sec z64
    rw [List.drop_replicate, List.take_replicate]
    congr 2
    omega
  · rw [List.getElem?_eq_none (by rw [secs_len']; omega), List.getElem?_eq_none (by rw [List.length_replicate]; omega)]

set_option maxHeartbeats 4000000 in
theorem rnew_any (n : Nat) (hn : 1 ≤ n) (hn2 : n ≤ 4000) (w : World) {B : Nat} (hB : B ≤ w.heap.size) :
    Calls Try.prog 15 #[.int .i64 n] w fun e w' => ∃ g M, e = .returned (.pointer (some ⟨g, 0, none⟩)) ∧ RefAt w' B n M g (newD n) ∧ (∀ k, M k → w.heap.size ≤ k) ∧ Below w.heap.size w w' := by
  obtain ⟨i0, hi0, hz0, hz1, hz2⟩ := info_parts info_str
  have hz64 : (str z64).size = 64 := by rw [str_size]; rfl
  have Hz := Lib.hid (zero_any)
  have c1 : ¬ (n : Int) < 1 := by omega
  have c2 : ¬ (4000 : Int) < (n : Int) := by omega
  go_enter Try.func15, Try.ntmps15
  go_wp2_with fail
  (with_reducible refine (Hz.out _).mono ?_); rintro e w1 ⟨rfl, rfl⟩
  go_wp2_with fail
  go_loopw [5] (fun i wr => ∃ k : Nat, k ≤ n ∧ i = .int .i64 k ∧ ∃ A c, Reg.Blk w.heap.size #[.slice A k c, .slice none 0 0, .bool true, .bool false, .int .i64 0, .int .i64 0, .int .i64 0] 63 wr ∧
    wr.ownsRow w.heap.size 9 1 (.slice A k c) k (sv (List.replicate k z64)) ∧ Below w.heap.size w wr) (fun i _ => n - (intOf i).toNat)
  case atStart => exact ⟨0, Nat.zero_le _, rfl, none, 0, Reg.Blk.new _ _ _, World.ownsRow_nil _ _ _ _, (Below.refl _ _).alloc (Nat.le_refl _) _⟩
  case round =>
    obtain ⟨k, hk, rfl, A, c, hblk, hown, hW⟩ := hrel
    obtain ⟨ckd, fkd, zkd⟩ := hblk.facts
    have HW := Lib.hid hW
    have HO := Lib.hid hown
    have HB := Lib.hid hblk
    by_cases hlt : k < n
    · have hkn : (k : Int) < (n : Int) := by omega
      have ag : (Value.slice A k c).ownBlock ≠ some w.heap.size := own_type hown hblk (by decide)
      have k1 : wr.cell? ⟨w.heap.size, 0, none⟩ = some (.slice A k c) := ckd 0
      have k4 := fkd 0
      have K1 := Lib.hid (fun o => (World.cell?_alloc_lt wr o ⟨w.heap.size, 0, none⟩ zkd).trans k1)
      have K4 := Lib.hid (fun o => (World.frozen?_alloc_old wr o ⟨w.heap.size, 0, none⟩ (Nat.ne_of_lt zkd)).trans k4)
      generalize hzz : z64 = zz at *
      clear hblk hown hW
      go_wp2_with (at_builtin; refine wpList_append_lies _ (by rfl) _ _ _ (by rfl) w.heap.size 9 i0 _ 1 16 Try.underlying39 hi0 hz0 hz1 hz2 rfl (by omega) (.slice A k c) k (sv (List.replicate k zz)) (by rfl) (HO.out.alloc _) ⟨wr.heap.size, 0, none⟩ 1 1 [.string (str zz)] (by rfl) (by rfl) (World.news_of_block (cs := #[.string (str zz)]) (t := 9) (fr := (0, 0)) (heap_alloc_new wr _)) (by simp [Value.oneCell']) (by omega) (by unfold maxLen; omega) (by omega) (by have := HW.out.size; simp; omega) (wr.heap.size + 1) (by simp) ?_; intro gg cap w3 hown1 hgrow hat hlt3; have k5 : w3.cell? ⟨w.heap.size, 0, none⟩ = some (.slice A k c) := (hgrow.cell_far _ (by simp; omega) (Ne.symm ag)).trans (K1.out _); have k6 : w3.frozen? ⟨w.heap.size, 0, none⟩ = false := (hgrow.frozen_far _ (by simp; omega) (Ne.symm ag)).trans (K4.out _); have HO1 := Lib.hid hown1; have HG := Lib.hid hgrow; clear hown1 hgrow hat ckd fkd k1 k4)
      have hb3 : Reg.Blk w.heap.size #[.slice A k c, .slice none 0 0, .bool true, .bool false, .int .i64 0, .int .i64 0, .int .i64 0] 63 w3 := (HG.out.block _ (by simp; omega) (Ne.symm ag)).trans (HB.out.alloc _)
      have hu := (Reg.Upd.refl hb3).set 0 (.slice (some ⟨gg, 0, none⟩) (k + 1) cap)
      refine ⟨⟨k + 1, by omega, by go_num, _, _, hu.at_, ?_, ?_⟩, by simp [intOf]; omega⟩
      · have := own_of (w' := w3.setCell ⟨w.heap.size, 0, none⟩ (.slice (some ⟨gg, 0, none⟩) (k + 1) cap)) HO1.out fun j e => hu.far j fun e2 => by subst e2; exact own_type HO1.out hb3 (by decide) e
        rw [List.replicate_succ', show sv (List.replicate k zz ++ [zz]) = sv (List.replicate k zz) ++ [.string (str zz)] from by simp [sv]]
        exact this
      · exact ((HW.out.alloc HW.out.size _).grown HG.out (by have := HW.out.size; simp; omega) (fun j hj => (HO.out.lt j hj).1)).setCell (Nat.le_refl _) _
    · obtain rfl : k = n := by omega
      go_wp2
      go_ret
      refine ⟨w.heap.size, fun j => j = w.heap.size ∨ (Value.slice A k c).ownBlock = some j, rfl, ⟨.slice A k c, .slice none 0 0, false, 0, 0, 0, HB.out, ?_, World.ownsRow_nil _ _ _ _, rfl, (fun e => by cases e), .inl rfl, fun j e => .inr e, (fun j hj => by simp [Value.ownBlock] at hj), fun j hj => ?_⟩, fun j hj => ?_, HW.out⟩
      · show wr.ownsRow B _ 1 _ k (sv (secs k (List.replicate (k * 64) 0)))
        rw [secs_zero]
        exact own_base HO.out hB
      · rcases hj with rfl | e
        · exact ⟨hB, HB.out.lt⟩
        · have := HO.out.lt j e; omega
      · rcases hj with rfl | e
        · exact Nat.le_refl _
        · exact (HO.out.lt j e).1

end D
end Go.Proofs.Ytopjekdhecikdaa
