/- Digests: 'take'. -/
import Derived.Test.YthdjdlndfkemiaaDoorProg
import Derived.Test.YthdjdlndfkemiaaDoorReg
import Derived.Test.YthdjdlndfkemiaaDoorReh
import Derived.WalkKit
import Derived.ProofKit
import Derived.WalkSpells
import Derived.WalkLawsBesides
import Derived.Defers
import Derived.Deep.RegionHeld3
import Derived.Deep.RegionLaw
import Derived.Lib.Hide
import Derived.Laws.Bits64
import Derived.Laws.Bits64b
import Derived.Test.YthdjdlndfkemiaaDoorSa
import Derived.Lib.BufferWrite
import Derived.Lib.SlBuf
import Derived.Lib.IndexBytes
set_option linter.unusedSimpArgs false
set_option linter.unusedVariables false
set_option maxRecDepth 100000
namespace Go.Proofs.YthdjdlndfkemiaaDoor
open Go.RowKit
namespace S

theorem bcell {B : Nat} {W w1 : World} (hb : Below B W w1) : (∀ b o, b < B → w1.cell? ⟨b, o, none⟩ = W.cell? ⟨b, o, none⟩) ∧ (∀ b o, b < B → w1.frozen? ⟨b, o, none⟩ = W.frozen? ⟨b, o, none⟩) ∧ B ≤ B :=
  ⟨fun b o h => hb.cell (p := ⟨b, o, none⟩) h, fun b o h => hb.frozen (p := ⟨b, o, none⟩) h, Nat.le_refl _⟩
theorem ret_bool {a b : Bool} (h : a = b) : Ending.returned (.bool a) = .returned (.bool b) := by rw [h]
theorem ret_str {a b : ByteArray} (h : a = b) : Ending.returned (.string a) = .returned (.string b) := by rw [h]

theorem xorI {a b : Nat} (ha : a < 18446744073709551616) (hb : b < 18446744073709551616) : bits .xor .u64 (a : Int) (b : Int) = ((a ^^^ b : Nat) : Int) := bits_xor_u64_nat a b ha hb
theorem mulI (a c : Nat) : IntKind.u64.wrap ((a : Int) * (c : Int)) = ((a * c % 18446744073709551616 : Nat) : Int) := by
  rw [IntKind.wrap_u64]
  omega
theorem orI {a b : Nat} (ha : a * 256 < 18446744073709551616) (hb : b < 256) : bits .or .u64 ((a : Int) * 256) (b : Int) = ((a * 256 + b : Nat) : Int) := by
  have h : (a : Int) * 256 = ((a * 256 : Nat) : Int) := by omega
  rw [h, bits_or_u64_nat _ _ ha (by omega)]
  have := Nat.two_pow_add_eq_or_of_lt (i := 8) (b := b) (by omega) a
  rw [Nat.mul_comm a 256, show (256 : Nat) = 2 ^ 8 from rfl, this]
theorem divI (a c : Nat) : (a : Int) / (c : Int) = ((a / c : Nat) : Int) := rfl
/-- What 'take' writes. -/
theorem takeI {s b : Nat} (hs : s < 18446744073709551616) (hb : b < 18446744073709551616) :
    bits .xor .u64 (IntKind.u64.wrap (bits .xor .u64 (IntKind.u64.wrap (bits .xor .u64 (bits .xor .u64 (s : Int) (b : Int)) (bits .xor .u64 (s : Int) (b : Int) / 2147483648) * 11400714819323198485)) (IntKind.u64.wrap (bits .xor .u64 (bits .xor .u64 (s : Int) (b : Int)) (bits .xor .u64 (s : Int) (b : Int) / 2147483648) * 11400714819323198485) / 134217728) * 15074714826142052245))
      (IntKind.u64.wrap (bits .xor .u64 (IntKind.u64.wrap (bits .xor .u64 (bits .xor .u64 (s : Int) (b : Int)) (bits .xor .u64 (s : Int) (b : Int) / 2147483648) * 11400714819323198485)) (IntKind.u64.wrap (bits .xor .u64 (bits .xor .u64 (s : Int) (b : Int)) (bits .xor .u64 (s : Int) (b : Int) / 2147483648) * 11400714819323198485) / 134217728) * 15074714826142052245) / 8589934592) = ((mixN (s ^^^ b) : Nat) : Int) := by
  have step (x p c : Nat) (hx : x < 18446744073709551616) : IntKind.u64.wrap (bits .xor .u64 (x : Int) ((x : Int) / (p : Int)) * (c : Int)) = (((x ^^^ (x / p)) * c % 18446744073709551616 : Nat) : Int) := by
    rw [divI, xorI hx (div_lt' hx), mulI]
  have s1 := step (s ^^^ b) 2147483648 11400714819323198485 (xor_lt hs hb)
  have s2 := step (mixA (s ^^^ b)) 134217728 15074714826142052245 (mixA_lt _)
  have s3 : bits .xor .u64 (mixB (mixA (s ^^^ b)) : Int) ((mixB (mixA (s ^^^ b)) : Int) / ((8589934592 : Nat) : Int)) = ((mixN (s ^^^ b) : Nat) : Int) := by
    rw [divI, xorI (mixB_lt _) (div_lt' (mixB_lt _))]; rfl
  rw [xorI hs hb]
  have e1 : ((2147483648 : Nat) : Int) = 2147483648 := rfl
  have e2 : ((11400714819323198485 : Nat) : Int) = 11400714819323198485 := rfl
  have e3 : ((134217728 : Nat) : Int) = 134217728 := rfl
  have e4 : ((15074714826142052245 : Nat) : Int) = 15074714826142052245 := rfl
  have e5 : ((8589934592 : Nat) : Int) = 8589934592 := rfl
  rw [e1, e2] at s1
  rw [e3, e4] at s2
  rw [e5] at s3
  rw [s1]
  change bits .xor .u64 (IntKind.u64.wrap (bits .xor .u64 ((mixA (s ^^^ b) : Nat) : Int) (((mixA (s ^^^ b) : Nat) : Int) / 134217728) * 15074714826142052245)) (IntKind.u64.wrap (bits .xor .u64 ((mixA (s ^^^ b) : Nat) : Int) (((mixA (s ^^^ b) : Nat) : Int) / 134217728) * 15074714826142052245) / 8589934592) = _
  rw [s2]
  exact s3

theorem take_any (g : Nat) (s : Nat) (B : Nat → Nat) (w : World) (hs : s < 18446744073709551616) (hB : ∀ i, B i < 256) (kb : Reg.Blk g #[.int .u64 s] 76 w) :
    Calls Tryd.prog 51 #[.pointer (some ⟨g, 0, none⟩), .agg #[.int .u8 (B 0), .int .u8 (B 1), .int .u8 (B 2), .int .u8 (B 3), .int .u8 (B 4), .int .u8 (B 5), .int .u8 (B 6), .int .u8 (B 7)]] w fun e w' => e = .returned (.tuple #[]) ∧ Reg.Keep (fun k => k = g) w w' ∧ Reg.Blk g #[.int .u64 (mixN (s ^^^ bl B 8) : Nat)] 76 w' := by
  have HB := Lib.hid hB
  clear hB
  go_enter Tryd.func51, Tryd.ntmps51
  go_wp2_with fail
  obtain ⟨W1, hW1⟩ : ∃ W1, W1 = w.alloc (.cells #[.int .u8 (B 0), .int .u8 (B 1), .int .u8 (B 2), .int .u8 (B 3), .int .u8 (B 4), .int .u8 (B 5), .int .u8 (B 6), .int .u8 (B 7)] 95) := ⟨_, rfl⟩
  have hcell : ∀ k, k < 8 → W1.cell? ⟨w.heap.size, k, none⟩ = some (.int .u8 (B k)) := fun k hk => by
    subst hW1
    obtain ⟨c, _⟩ := Reg.cells_at (Reg.heap_new w (.cells #[.int .u8 (B 0), .int .u8 (B 1), .int .u8 (B 2), .int .u8 (B 3), .int .u8 (B 4), .int .u8 (B 5), .int .u8 (B 6), .int .u8 (B 7)] 95))
    rw [c]
    match k, hk with
    | 0, _ => rfl
    | 1, _ => rfl
    | 2, _ => rfl
    | 3, _ => rfl
    | 4, _ => rfl
    | 5, _ => rfl
    | 6, _ => rfl
    | 7, _ => rfl
  have HC := Lib.hid hcell
  have kb2 : Reg.Blk g #[.int .u64 s] 76 W1 := by rw [hW1]; exact kb.alloc _
  obtain ⟨ckb, fkb, zkb⟩ := Reg.Blk.facts kb2
  have HW := Lib.hid hW1
  rw [← hW1]
  clear hcell hW1
  go_loop [4, 7] (fun n i => ∃ k : Nat, k ≤ 8 ∧ i = .int .i64 k ∧ n = .int .u64 (bl B k)) (fun _ i => 8 - (intOf i).toNat)
  case atStart => exact ⟨0, by omega, rfl, rfl⟩
  case round =>
    obtain ⟨k, hk, rfl, rfl⟩ := hrel
    by_cases hlt : k < 8
    · have hcl := HC.out k hlt
      have hk0 : (0 : Int) ≤ (k : Int) := by omega
      have hk4 : (k : Int) < 8 := by omega
      have hb1 := bl_lt B HB.out k
      have hb2 := HB.out k
      have hb3 : bl B k * 256 < 18446744073709551616 := by
        have : 256 ^ k ≤ 256 ^ 7 := Nat.pow_le_pow_right (by omega) (by omega)
        omega
      have HO := Lib.hid (orI hb3 hb2)
      go_wp2_with fail
      refine ⟨⟨k + 1, by omega, by go_num, by rw [HO.out]; rfl⟩, by simp [intOf]; omega⟩
    · obtain rfl : k = 8 := by omega
      have hb1 := bl_lt B HB.out 8
      have hb4 : bl B 8 < 18446744073709551616 := hb1
      have HTK := Lib.hid (takeI hs hb4)
      clear hb1 hb4
      go_wp2_with fail
      rw [HTK.out]
      go_end0
      have up := Reg.upd1 (x := .int .u64 (mixN (s ^^^ bl B 8) : Nat)) kb2
      have hz : w.heap.size ≤ W1.heap.size := by rw [HW.out]; simp
      have hk1 : Reg.Keep (fun k => k = g) w W1 := by
        rw [HW.out]; exact Reg.Keep.ofBelow ((Below.refl _ _).alloc (Nat.le_refl _) _)
      exact ⟨rfl, Reg.updK (M := fun k => k = g) rfl _ _ _ _ hk1 up, up.at_⟩
end S
end Go.Proofs.YthdjdlndfkemiaaDoor

/- Digests: 'blocks'. -/
namespace Go.Proofs.YthdjdlndfkemiaaDoor
open Go.RowKit
namespace S

theorem run_copy_str (w : World) (dT sT ty elem : TypeId) (g o dLen dCap : Nat) (s : ByteArray) (cur : Array Value) (t : TypeId)
    (hu : Tryd.prog.underlying dT = some (.slice elem)) (hs : (Tryd.prog.info? elem).map (·.size) = some 1) (hg : w.heap[g]? = some (.cells cur t (0, 0))) (hfit : o + min s.size dLen ≤ cur.size) :
    (Builtin.copy_ #[dT, sT] ty #[.slice (some ⟨g, o, none⟩) dLen dCap, .string s]).run Tryd.prog w =
      .ok (goInt (min s.size dLen)) (w.setRow g (cur.toList.take o ++ Lib.byteCells (s.data.toList.take (min s.size dLen)) ++ cur.toList.drop (o + min s.size dLen)).toArray) := by
  have hlen : (Lib.byteCells (s.data.toList.take (min s.size dLen))).length = min s.size dLen := by
    rw [Lib.byteCells_length, List.length_take, ← Lib.size_eq]; omega
  have hst := run_storeCells_at Tryd.prog g o t (Lib.byteCells (s.data.toList.take (min s.size dLen))) 0 cur w hg (by rw [hlen]; simpa using hfit) (Lib.byteCells_one _)
  have htk : List.take (min s.size dLen) (List.map (fun b : UInt8 => Value.int IntKind.u8 (b.toNat : Int)) s.data.toList) = Lib.byteCells (s.data.toList.take (min s.size dLen)) := by
    rw [← List.map_take]; rfl
  rw [hlen] at hst
  simp only [Nat.add_zero] at hst
  cases hq : Tryd.prog.info? elem with
  | none => simp [hq] at hs
  | some i =>
    have hmin : Nat.min s.size dLen = min s.size dLen := rfl
    simp [Builtin.copy_, run_underlying hu, Builtin.lenOf, Builtin.firstCells, sizeOf, typeInfo, hq, hmin]
    rw [htk, hst]
    simp only [Result.andThen]
    rw [show ((min s.size dLen : Nat) : Int) = min (s.size : Int) (dLen : Int) by omega, List.append_assoc]

theorem byt_drop (l : Tx) (f i : Nat) : byt (l.drop f) i = byt l (f + i) := by unfold byt; rw [List.getElem?_drop]
/-- Eight cells, the first bytes of a text and zeros. -/
theorem cells8 (t : Tx) : (Lib.byteCells (t.take (min t.length 8)) ++ [Value.int .u8 0, .int .u8 0, .int .u8 0, .int .u8 0, .int .u8 0, .int .u8 0, .int .u8 0, .int .u8 0].drop (min t.length 8)) =
    [.int .u8 (byt t 0), .int .u8 (byt t 1), .int .u8 (byt t 2), .int .u8 (byt t 3), .int .u8 (byt t 4), .int .u8 (byt t 5), .int .u8 (byt t 6), .int .u8 (byt t 7)] := by
  match t with
  | [] => rfl
  | [_] => rfl
  | [_, _] => rfl
  | [_, _, _] => rfl
  | [_, _, _, _] => rfl
  | [_, _, _, _, _] => rfl
  | [_, _, _, _, _, _] => rfl
  | [_, _, _, _, _, _, _] => rfl
  | a :: b :: c :: d :: e :: f :: g :: h :: r =>
    have : min (a :: b :: c :: d :: e :: f :: g :: h :: r).length 8 = 8 := by simp
    rw [this]; rfl

theorem blocks_any (s : ByteArray) (g : Nat) (w : World) (hs : s.size ≤ 140737488351232) (kb : Reg.Blk g #[.int .u64 (st s.data.toList 0 : Nat)] 76 w) :
    Calls Tryd.prog 50 #[.string s, .func (Fn.func 51) #[.pointer (some ⟨g, 0, none⟩)] #[]] w fun e w' => e = .returned (.tuple #[]) ∧ Reg.Keep (fun k => k = g) w w' ∧ Reg.Blk g #[.int .u64 (sumN s.data.toList : Nat)] 76 w' := by
  have KB := Lib.hid kb
  have hzg := kb.lt
  clear kb
  go_enter Tryd.func50, Tryd.ntmps50
  go_wp2_with fail
  go_loopw [4] (fun i wr => ∃ k : Nat, k ≤ s.size / 8 + 1 ∧ i = .int .i64 ((8 * k : Nat) : Int) ∧ Reg.Keep (fun k => k = g) w wr ∧ Reg.Blk g #[.int .u64 (st s.data.toList k : Nat)] 76 wr) (fun i _ => s.size + 8 - (intOf i).toNat)
  case atStart => exact ⟨0, by omega, rfl, ⟨rfl, rfl, rfl, Nat.le_refl _, fun _ _ _ => rfl⟩, KB.out⟩
  case round =>
    obtain ⟨k, hk, rfl, hkeep, kb⟩ := hrel
    have HK := Lib.hid hkeep
    have KB2 := Lib.hid kb
    clear hkeep kb
    by_cases hlt : 8 * k ≤ s.size
    · have hki : ((8 * k : Nat) : Int) ≤ (s.size : Int) := by omega
      have hk0 : (0 : Int) ≤ ((8 * k : Nat) : Int) := by omega
      obtain ⟨f, hf⟩ : ∃ f, f = 8 * k := ⟨_, rfl⟩
      rw [← hf] at hki hk0 hlt ⊢
      have HF := Lib.hid hf
      clear hf
      go_wp2_with fail
      refine Reg.wp_region_seq (by kernel_rfl) (by kernel_rfl) ?_
      simp only
      iterate 4
        apply Reg.SeqOK.val
        · intro γ W hW K hK
          obtain ⟨hc, hf, _⟩ := bcell hW
          simp only [Act.put, List.setIfInBounds_toArray, List.set_cons_zero, List.set_cons_succ] at hK
          unfold Reg.Does
          go_simp
          try simp only [IntWalk.i64_left]
          first
            | exact hK _ (Below.refl _ _)
        simp only [Act.put, List.setIfInBounds_toArray, List.set_cons_zero, List.set_cons_succ, List.nil_append, List.cons_append, Nat.reduceAdd, Nat.zero_add]
      refine Reg.SeqOK.last (by kernel_rfl) (by kernel_rfl) (fun γ W hW q1 q2 q3 => ?_)
      clear q1 q2 q3
      have hblk : Reg.Blk wr.heap.size #[.int .u8 0, .int .u8 0, .int .u8 0, .int .u8 0, .int .u8 0, .int .u8 0, .int .u8 0, .int .u8 0] 95 W := (Reg.Blk.new _ _ _).keep hW
      have hrun := run_copy_str W 83 9 3 5 wr.heap.size 0 8 8 (s.extract f s.size) _ 95 Tryd.underlying83 (by kernel_rfl) hblk (by simp; omega)
      unfold Reg.Does
      rw [if_pos (by rfl)]
      refine Lib.wp_copy_run W _ _ _ _ rfl _ _ rfl rfl hrun ?_
      have hl : (s.extract f s.size).size = (s.data.toList.drop f).length := by rw [Lib.size_eq, Lib.extract_to_end]
      have hcells := cells8 (s.data.toList.drop f)
      simp only [byt_drop] at hcells
      rw [Lib.extract_to_end, hl]
      simp only [List.take_zero, List.nil_append, Nat.zero_add]
      rw [hcells]
      obtain ⟨W2, hW2⟩ : ∃ W2, W2 = W.setRow wr.heap.size [Value.int .u8 (byt s.data.toList (f + 0)), .int .u8 (byt s.data.toList (f + 1)), .int .u8 (byt s.data.toList (f + 2)), .int .u8 (byt s.data.toList (f + 3)), .int .u8 (byt s.data.toList (f + 4)), .int .u8 (byt s.data.toList (f + 5)), .int .u8 (byt s.data.toList (f + 6)), .int .u8 (byt s.data.toList (f + 7))].toArray := ⟨_, rfl⟩
      have kr : Reg.Blk wr.heap.size #[.int .u8 (byt s.data.toList (f + 0)), .int .u8 (byt s.data.toList (f + 1)), .int .u8 (byt s.data.toList (f + 2)), .int .u8 (byt s.data.toList (f + 3)), .int .u8 (byt s.data.toList (f + 4)), .int .u8 (byt s.data.toList (f + 5)), .int .u8 (byt s.data.toList (f + 6)), .int .u8 (byt s.data.toList (f + 7))] 95 W2 := by rw [hW2]; exact setRow_heap W _ _ _ _ _ hblk
      have hk2 : Below wr.heap.size wr W2 := by
        have h1 : Below wr.heap.size wr W := ((Below.refl _ _).alloc (Nat.le_refl _) _).trans (hW.mono (by simp))
        rw [hW2]
        exact ⟨h1.os, h1.tape, h1.output, by simpa [World.setRow] using h1.size, fun k hk => (setRow_other _ _ _ _ (by omega)).trans (h1.block k hk)⟩
      have hrw : W.setRow wr.heap.size [Value.int .u8 (byt s.data.toList (f + 0)), .int .u8 (byt s.data.toList (f + 1)), .int .u8 (byt s.data.toList (f + 2)), .int .u8 (byt s.data.toList (f + 3)), .int .u8 (byt s.data.toList (f + 4)), .int .u8 (byt s.data.toList (f + 5)), .int .u8 (byt s.data.toList (f + 6)), .int .u8 (byt s.data.toList (f + 7))].toArray = W2 := hW2.symm
      rw [hrw]
      have kb2 := KB2.out.keep hk2
      have HK2 := Lib.hid hk2
      have HTA := Lib.hid (take_any g (st s.data.toList k) (fun i => byt s.data.toList (f + i)) W2 (st_lt _ (by rw [← Lib.size_eq]; omega) _) (fun i => byt_lt _ _) kb2)
      clear hk2 hrw hW2 hblk hrun hl hcells hW kb2
      obtain ⟨ckr, fkr, zkr⟩ := Reg.Blk.facts kr
      go_wp2_with fail
      refine HTA.out.mono ?_
      rintro e W3 ⟨rfl, hk3, kb3⟩
      have Q3 := Lib.hid (And.intro hk3 kb3)
      clear hk3 kb3
      go_wp2_with fail
      refine ⟨⟨k + 1, by have := HF.out; omega, by have := HF.out; rw [this]; go_num, ?_, ?_⟩, by simp [intOf]; omega⟩
      · have h0 : Reg.Keep (fun k => k = g) wr W2 := Reg.Keep.ofBelow HK2.out
        exact (HK.out.trans h0).trans Q3.out.1
      · have e : st s.data.toList (k + 1) = mixN (st s.data.toList k ^^^ bl (fun i => byt s.data.toList (f + i)) 8) := by rw [HF.out]; rfl
        rw [e]
        exact Q3.out.2
    · obtain rfl : k = s.size / 8 + 1 := by omega
      have hki : ¬ ((8 * (s.size / 8 + 1) : Nat) : Int) ≤ (s.size : Int) := by omega
      have hki2 : (s.size : Int) < ((8 * (s.size / 8 + 1) : Nat) : Int) := by omega
      have hk0 : (0 : Int) ≤ ((8 * (s.size / 8 + 1) : Nat) : Int) := by omega
      obtain ⟨f, hf⟩ : ∃ f, f = 8 * (s.size / 8 + 1) := ⟨_, rfl⟩
      rw [← hf] at hki hki2 hk0 hlt ⊢
      clear hf
      go_wp2_with fail
      go_end0
      refine ⟨rfl, HK.out, ?_⟩
      have := KB2.out
      unfold sumN
      rw [← Lib.size_eq]
      exact this
end S
end Go.Proofs.YthdjdlndfkemiaaDoor
