/- Digests: 'blocks'. -/
import Derived.Test.YthdjdlndfkemiaaGreatDoorSb
import Derived.Lib.BufferWrite
import Derived.Lib.SlBuf
import Derived.Lib.IndexBytes
set_option linter.unusedSimpArgs false
set_option linter.unusedVariables false
set_option maxRecDepth 100000
namespace Go.Proofs.YthdjdlndfkemiaaGreatDoor
open Go.RowKit
namespace S

theorem run_copy_str (w : World) (dT sT ty elem : TypeId) (g o dLen dCap : Nat) (s : ByteArray) (cur : Array Value) (t : TypeId)
    (hu : Tryz.prog.underlying dT = some (.slice elem)) (hs : (Tryz.prog.info? elem).map (·.size) = some 1) (hg : w.heap[g]? = some (.cells cur t (0, 0))) (hfit : o + min s.size dLen ≤ cur.size) :
    (Builtin.copy_ #[dT, sT] ty #[.slice (some ⟨g, o, none⟩) dLen dCap, .string s]).run Tryz.prog w =
      .ok (goInt (min s.size dLen)) (w.setRow g (cur.toList.take o ++ Lib.byteCells (s.data.toList.take (min s.size dLen)) ++ cur.toList.drop (o + min s.size dLen)).toArray) := by
  have hlen : (Lib.byteCells (s.data.toList.take (min s.size dLen))).length = min s.size dLen := by
    rw [Lib.byteCells_length, List.length_take, ← Lib.size_eq]; omega
  have hst := run_storeCells_at Tryz.prog g o t (Lib.byteCells (s.data.toList.take (min s.size dLen))) 0 cur w hg (by rw [hlen]; simpa using hfit) (Lib.byteCells_one _)
  have htk : List.take (min s.size dLen) (List.map (fun b : UInt8 => Value.int IntKind.u8 (b.toNat : Int)) s.data.toList) = Lib.byteCells (s.data.toList.take (min s.size dLen)) := by
    rw [← List.map_take]; rfl
  rw [hlen] at hst
  simp only [Nat.add_zero] at hst
  cases hq : Tryz.prog.info? elem with
  | none => simp [hq] at hs
  | some i =>
    have hmin : Nat.min s.size dLen = min s.size dLen := rfl
    simp [Builtin.copy_, run_underlying hu, Builtin.lenOf, Builtin.firstCells, sizeOf, typeInfo, hq, hmin]
    rw [htk, hst]
    simp only [Result.andThen]
    rw [show ((min s.size dLen : Nat) : Int) = min (s.size : Int) (dLen : Int) by omega, List.append_assoc]

theorem byt_drop (l : Tx) (f i : Nat) : byt (l.drop f) i = byt l (f + i) := by unfold byt; rw [List.getElem?_drop]
/-- Eight cells, the first bytes of a text and zeros. -/
theorem cells8 (t : Tx) : (Lib.byteCells (t.take (min t.length 8)) ++ [Value.int .u8 0, .int .u8 0, .int .u8 0, .int .u8 0, .int .u8 0, .int .u8 0, .int .u8 0, .int .u8 0].drop (min t.length 8)) =
    [.int .u8 (byt t 0), .int .u8 (byt t 1), .int .u8 (byt t 2), .int .u8 (byt t 3), .int .u8 (byt t 4), .int .u8 (byt t 5), .int .u8 (byt t 6), .int .u8 (byt t 7)] := by
  match t with
  | [] => rfl
  | [_] => rfl
  | [_, _] => rfl
  | [_, _, _] => rfl
  | [_, _, _, _] => rfl
  | [_, _, _, _, _] => rfl
  | [_, _, _, _, _, _] => rfl
  | [_, _, _, _, _, _, _] => rfl
  | a :: b :: c :: d :: e :: f :: g :: h :: r =>
    have : min (a :: b :: c :: d :: e :: f :: g :: h :: r).length 8 = 8 := by simp
    rw [this]; rfl

theorem blocks_any (s : ByteArray) (g : Nat) (w : World) (hs : s.size ≤ 140737488351232) (kb : Reg.Blk g #[.int .u64 (st s.data.toList 0 : Nat)] 86 w) :
    Calls Tryz.prog 80 #[.string s, .func (Fn.func 81) #[.pointer (some ⟨g, 0, none⟩)] #[]] w fun e w' => e = .returned (.tuple #[]) ∧ Reg.Keep (fun k => k = g) w w' ∧ Reg.Blk g #[.int .u64 (sumN s.data.toList : Nat)] 86 w' := by
  have KB := Lib.hid kb
  have hzg := kb.lt
  clear kb
  go_enter Tryz.func80, Tryz.ntmps80
  go_wp2_with fail
  go_loopw [4] (fun i wr => ∃ k : Nat, k ≤ s.size / 8 + 1 ∧ i = .int .i64 ((8 * k : Nat) : Int) ∧ Reg.Keep (fun k => k = g) w wr ∧ Reg.Blk g #[.int .u64 (st s.data.toList k : Nat)] 86 wr) (fun i _ => s.size + 8 - (intOf i).toNat)
  case atStart => exact ⟨0, by omega, rfl, ⟨rfl, rfl, rfl, Nat.le_refl _, fun _ _ _ => rfl⟩, KB.out⟩
  case round =>
    obtain ⟨k, hk, rfl, hkeep, kb⟩ := hrel
    have HK := Lib.hid hkeep
    have KB2 := Lib.hid kb
    clear hkeep kb
    by_cases hlt : 8 * k ≤ s.size
    · have hki : ((8 * k : Nat) : Int) ≤ (s.size : Int) := by omega
      have hk0 : (0 : Int) ≤ ((8 * k : Nat) : Int) := by omega
      obtain ⟨f, hf⟩ : ∃ f, f = 8 * k := ⟨_, rfl⟩
      rw [← hf] at hki hk0 hlt ⊢
      have HF := Lib.hid hf
      clear hf
      go_wp2_with fail
      refine Reg.wp_region_seq (by kernel_rfl) (by kernel_rfl) ?_
      simp only
      iterate 4
        apply Reg.SeqOK.val
        · intro γ W hW K hK
          obtain ⟨hc, hf, _⟩ := bcell hW
          simp only [Act.put, List.setIfInBounds_toArray, List.set_cons_zero, List.set_cons_succ] at hK
          unfold Reg.Does
          go_simp
          try simp only [IntWalk.i64_left]
          first
            | exact hK _ (Below.refl _ _)
        simp only [Act.put, List.setIfInBounds_toArray, List.set_cons_zero, List.set_cons_succ, List.nil_append, List.cons_append, Nat.reduceAdd, Nat.zero_add]
      refine Reg.SeqOK.last (by kernel_rfl) (by kernel_rfl) (fun γ W hW q1 q2 q3 => ?_)
      clear q1 q2 q3
      have hblk : Reg.Blk wr.heap.size #[.int .u8 0, .int .u8 0, .int .u8 0, .int .u8 0, .int .u8 0, .int .u8 0, .int .u8 0, .int .u8 0] 106 W := (Reg.Blk.new _ _ _).keep hW
      have hrun := run_copy_str W 78 9 3 5 wr.heap.size 0 8 8 (s.extract f s.size) _ 106 Tryz.underlying78 (by kernel_rfl) hblk (by simp; omega)
      unfold Reg.Does
      rw [if_pos (by rfl)]
      refine Lib.wp_copy_run W _ _ _ _ rfl _ _ rfl rfl hrun ?_
      have hl : (s.extract f s.size).size = (s.data.toList.drop f).length := by rw [Lib.size_eq, Lib.extract_to_end]
      have hcells := cells8 (s.data.toList.drop f)
      simp only [byt_drop] at hcells
      rw [Lib.extract_to_end, hl]
      simp only [List.take_zero, List.nil_append, Nat.zero_add]
      rw [hcells]
      obtain ⟨W2, hW2⟩ : ∃ W2, W2 = W.setRow wr.heap.size [Value.int .u8 (byt s.data.toList (f + 0)), .int .u8 (byt s.data.toList (f + 1)), .int .u8 (byt s.data.toList (f + 2)), .int .u8 (byt s.data.toList (f + 3)), .int .u8 (byt s.data.toList (f + 4)), .int .u8 (byt s.data.toList (f + 5)), .int .u8 (byt s.data.toList (f + 6)), .int .u8 (byt s.data.toList (f + 7))].toArray := ⟨_, rfl⟩
      have kr : Reg.Blk wr.heap.size #[.int .u8 (byt s.data.toList (f + 0)), .int .u8 (byt s.data.toList (f + 1)), .int .u8 (byt s.data.toList (f + 2)), .int .u8 (byt s.data.toList (f + 3)), .int .u8 (byt s.data.toList (f + 4)), .int .u8 (byt s.data.toList (f + 5)), .int .u8 (byt s.data.toList (f + 6)), .int .u8 (byt s.data.toList (f + 7))] 106 W2 := by rw [hW2]; exact setRow_heap W _ _ _ _ _ hblk
      have hk2 : Below wr.heap.size wr W2 := by
        have h1 : Below wr.heap.size wr W := ((Below.refl _ _).alloc (Nat.le_refl _) _).trans (hW.mono (by simp))
        rw [hW2]
        exact ⟨h1.os, h1.tape, h1.output, by simpa [World.setRow] using h1.size, fun k hk => (setRow_other _ _ _ _ (by omega)).trans (h1.block k hk)⟩
      have hrw : W.setRow wr.heap.size [Value.int .u8 (byt s.data.toList (f + 0)), .int .u8 (byt s.data.toList (f + 1)), .int .u8 (byt s.data.toList (f + 2)), .int .u8 (byt s.data.toList (f + 3)), .int .u8 (byt s.data.toList (f + 4)), .int .u8 (byt s.data.toList (f + 5)), .int .u8 (byt s.data.toList (f + 6)), .int .u8 (byt s.data.toList (f + 7))].toArray = W2 := hW2.symm
      rw [hrw]
      have kb2 := KB2.out.keep hk2
      have HK2 := Lib.hid hk2
      have HTA := Lib.hid (take_any g (st s.data.toList k) (fun i => byt s.data.toList (f + i)) W2 (st_lt _ (by rw [← Lib.size_eq]; omega) _) (fun i => byt_lt _ _) kb2)
      clear hk2 hrw hW2 hblk hrun hl hcells hW kb2
      obtain ⟨ckr, fkr, zkr⟩ := Reg.Blk.facts kr
      go_wp2_with fail
      refine HTA.out.mono ?_
      rintro e W3 ⟨rfl, hk3, kb3⟩
      have Q3 := Lib.hid (And.intro hk3 kb3)
      clear hk3 kb3
      go_wp2_with fail
      refine ⟨⟨k + 1, by have := HF.out; omega, by have := HF.out; rw [this]; go_num, ?_, ?_⟩, by simp [intOf]; omega⟩
      · have h0 : Reg.Keep (fun k => k = g) wr W2 := Reg.Keep.ofBelow HK2.out
        exact (HK.out.trans h0).trans Q3.out.1
      · have e : st s.data.toList (k + 1) = mixN (st s.data.toList k ^^^ bl (fun i => byt s.data.toList (f + i)) 8) := by rw [HF.out]; rfl
        rw [e]
        exact Q3.out.2
    · obtain rfl : k = s.size / 8 + 1 := by omega
      have hki : ¬ ((8 * (s.size / 8 + 1) : Nat) : Int) ≤ (s.size : Int) := by omega
      have hki2 : (s.size : Int) < ((8 * (s.size / 8 + 1) : Nat) : Int) := by omega
      have hk0 : (0 : Int) ≤ ((8 * (s.size / 8 + 1) : Nat) : Int) := by omega
      obtain ⟨f, hf⟩ : ∃ f, f = 8 * (s.size / 8 + 1) := ⟨_, rfl⟩
      rw [← hf] at hki hki2 hk0 hlt ⊢
      clear hf
      go_wp2_with fail
      go_end0
      refine ⟨rfl, HK.out, ?_⟩
      have := KB2.out
      unfold sumN
      rw [← Lib.size_eq]
      exact this
end S
end Go.Proofs.YthdjdlndfkemiaaGreatDoor
