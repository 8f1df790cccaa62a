/- Digests: 'FormatUint' to the base 16. -/
import Derived.Test.YthdjdlndfkemiaaDoorSb
import Derived.Test.YthdjdlndfkemiaaDoorAp
import Derived.Lib.LaidTab
import Derived.Lib.ItoaNum
import Derived.Shelf.Unicode.PredsPay
set_option linter.unusedSimpArgs false
set_option linter.unusedVariables false
set_option maxRecDepth 100000
namespace Go.Proofs.YthdjdlndfkemiaaDoor
open Go.RowKit
namespace S

def dbTab : List Int := [0, 1, 56, 2, 57, 49, 28, 3, 61, 58, 42, 50, 38, 29, 17, 4, 62, 47, 59, 36, 45, 43, 51, 22, 53, 39, 33, 30, 24, 18, 12, 5, 63, 55, 48, 27, 60, 41, 37, 16, 46, 35, 44, 21, 52, 32, 23, 11, 54, 26, 40, 15, 34, 20, 31, 10, 25, 14, 19, 9, 13, 8, 7, 6]
/-- The tables that the library reads. -/
def Tabs (w : World) : Prop := Lib.TabIs Tryd.prog w "math/bits.deBruijn64tab" .u8 dbTab ∧ Lib.TabIs Tryd.prog w "internal/strconv.uint64pow10" .u64 Lib.pow10Tab
theorem gdb : Tryd.prog.globalNamed "math/bits.deBruijn64tab" = some 5 := by kernel_rfl
theorem gp10 : Tryd.prog.globalNamed "internal/strconv.uint64pow10" = some 3 := by kernel_rfl
theorem Tabs.below {w w' : World} (h : Tabs w) (hb : Below w.heap.size w w') : Tabs w' := ⟨TabIs_below gdb h.1 hb, TabIs_below gp10 h.2 hb⟩
theorem Tabs.db {w : World} (h : Tabs w) : w.cell? ⟨5, 15, none⟩ = some (.int .u8 4) := h.1.cell gdb 15 (by decide)

theorem tz64_any (w : World) (ht : Tabs w) : Calls Tryd.prog 98 #[.int .u64 16] w fun e w' => e = .returned (.int .i64 4) ∧ w' = w := by
  have hc := ht.db
  have e1 : bits .and .u64 16 (IntKind.u64.wrap (-16)) = 16 := by decide +kernel
  clear ht
  go_enter Tryd.func98, Tryd.ntmps98
  go_wp2_with fail
  go_ret
  exact ⟨rfl, rfl⟩
theorem tz_any (w : World) (ht : Tabs w) : Calls Tryd.prog 95 #[.int .u64 16] w fun e w' => e = .returned (.int .i64 4) ∧ w' = w := by
  have HT := Lib.hid (tz64_any w ht)
  clear ht
  go_enter Tryd.func95, Tryd.ntmps95
  go_wp2_with fail
  (with_reducible refine HT.out.mono ?_); rintro e w' ⟨rfl, rfl⟩
  go_wp2_with fail
  go_ret
  exact ⟨rfl, rfl⟩
theorem pow_any (w : World) : Calls Tryd.prog 94 #[.int .i64 16] w fun e w' => e = .returned (.bool true) ∧ w' = w := by
  have e1 : bits .and .i64 16 15 = 0 := by decide +kernel
  go_enter Tryd.func94, Tryd.ntmps94
  go_wp2_with fail
  go_ret
  exact ⟨rfl, rfl⟩

theorem hexs_cons : ∀ j n, hexs (j + 1) n = hexd (n / 16 ^ j % 16) :: hexs j n
  | 0, n => by simp [hexs]
  | j + 1, n => by
    have h := hexs_cons j (n / 16)
    rw [Nat.div_div_eq_div_mul, ← Nat.pow_succ'] at h
    show hexs (j + 1) (n / 16) ++ [hexd (n % 16)] = _
    rw [h]
    rfl
theorem hexs_pad (k : Nat) : ∀ m n, n < 16 ^ k → hexs (k + m) n = List.replicate m 48 ++ hexs k n
  | 0, n, _ => rfl
  | m + 1, n, h => by
    rw [← Nat.add_assoc, hexs_cons, hexs_pad k m n h, List.replicate_succ, List.cons_append]
    congr 1
    have h2 : n / 16 ^ (k + m) = 0 := Nat.div_eq_of_lt (Nat.lt_of_lt_of_le h (Nat.pow_le_pow_right (by omega) (by omega)))
    rw [h2]; rfl
def digS : ByteArray := { data := #[48, 49, 50, 51, 52, 53, 54, 55, 56, 57, 97, 98, 99, 100, 101, 102, 103, 104, 105, 106, 107, 108, 109, 110, 111, 112, 113, 114, 115, 116, 117, 118, 119, 120, 121, 122] }
theorem digS_at : ∀ d (h : d < 16), digS[d]'(Nat.lt_trans h (by decide)) = hexd d := by decide +kernel
theorem and15 (u : Nat) (hu : u < 18446744073709551616) : bits .and .u64 (u : Int) 15 = ((u % 16 : Nat) : Int) := by
  have h := bits_and_u64_nat u 15 hu (by omega)
  rw [Nat.and_two_pow_sub_one_eq_mod u 4] at h
  exact h

theorem drop_set {α : Type} (l : List α) (k : Nat) (v : α) (h : k < l.length) : (l.set k v).drop k = v :: l.drop (k + 1) := by
  rw [List.drop_eq_getElem_cons (by simpa using h)]
  simp [List.drop_set_of_lt]
set_option maxHeartbeats 2000000 in
theorem formatBits_any (n : Nat) (hn : n < 18446744073709551616) (w : World) (ht : Tabs w) : Calls Tryd.prog 82 #[.slice none 0 0, .int .u64 n, .int .i64 16, .bool false, .bool false] w fun e w' =>
    ∃ j, j < 16 ∧ n < 16 ^ (j + 1) ∧ e = .returned (.tuple #[.slice none 0 0, .string ⟨(hexs (j + 1) n).toArray⟩]) ∧ Below w.heap.size w w' := by
  have HT := Lib.hid ht
  clear ht
  go_enter Tryd.func82, Tryd.ntmps82
  go_wp2_with fail
  (with_reducible refine (pow_any _).mono ?_); rintro e w1 ⟨rfl, rfl⟩
  go_wp2_with fail
  (with_reducible refine (tz_any _ (HT.out.below ((Below.refl _ _).alloc (Nat.le_refl _) _))).mono ?_); rintro e w2 ⟨rfl, rfl⟩
  go_wp2_with fail
  go_loopw [1, 13] (fun u i wr => ∃ (j : Nat) (C : Array Value), j ≤ 15 ∧ i = .int .i64 ((65 - j : Nat) : Int) ∧ u = .int .u64 ((n / 16 ^ j : Nat) : Int) ∧ C.size = 65 ∧ C.toList.drop (65 - j) = Lib.byteCells (hexs j n) ∧ Reg.Blk w.heap.size C 126 wr ∧ Below w.heap.size w wr) (fun u _ _ => (intOf u).toNat)
  case atStart => exact ⟨0, Tryd.zeroCells126, by omega, rfl, by simp, by kernel_rfl, by simp [hexs, Lib.byteCells, show Tryd.zeroCells126.size = 65 by kernel_rfl], Reg.Blk.new _ _ _, (Below.refl _ _).alloc (Nat.le_refl _) _⟩
  case round =>
    obtain ⟨j, C, hj, rfl, rfl, hC, hd, kb, hlow⟩ := hrel
    obtain ⟨u, hu⟩ : ∃ u, u = n / 16 ^ j := ⟨_, rfl⟩
    obtain ⟨q, hq⟩ : ∃ q, q = 65 - j := ⟨_, rfl⟩
    rw [← hu, ← hq]
    have hun : u < 18446744073709551616 := by rw [hu]; exact Nat.lt_of_le_of_lt (Nat.div_le_self _ _) hn
    have hq1 : 50 ≤ q ∧ q ≤ 65 := by omega
    have HU := Lib.hid hu
    have HQ := Lib.hid hq
    have HD := Lib.hid hd
    have HL := Lib.hid hlow
    have HCs := Lib.hid hC
    obtain ⟨ckb, fkb, zkb⟩ := Reg.Blk.facts kb
    clear hu hq hd hlow hC
    by_cases hlt : 16 ≤ u
    · have ha := and15 u hun
      have hm : u % 16 < 16 := Nat.mod_lt _ (by omega)
      obtain ⟨x0, hx0⟩ : ∃ x0, C[q - 1]? = some x0 := ⟨_, Array.getElem?_eq_getElem (by have := HCs.out; omega)⟩
      go_wp2_with fail
      have up := (Reg.Upd.refl kb).set (q - 1) (.int .u8 ((hexd (u % 16)).toNat : Int))
      refine ⟨⟨j + 1, C.setIfInBounds (q - 1) (.int .u8 ((hexd (u % 16)).toNat : Int)), ?_, ?_, ?_, by simpa using HCs.out, ?_, ?_, ?_⟩, ?_⟩
      · rcases (by omega : j + 1 ≤ 15 ∨ j = 15) with h | rfl
        · exact h
        · have h1 := HU.out
          have h2 : (16 : Nat) ^ 15 = 1152921504606846976 := by decide
          rw [h2] at h1
          omega
      · have := HQ.out; congr 1; omega
      · rw [HU.out, Nat.pow_succ, ← Nat.div_div_eq_div_mul]; rfl
      · have e1 : 65 - (j + 1) = q - 1 := by have := HQ.out; omega
        have e2 : q - 1 + 1 = 65 - j := by have := HQ.out; omega
        rw [e1, Array.toList_setIfInBounds, drop_set _ _ _ (by have := HCs.out; simp; omega), e2, HD.out, hexs_cons]
        have := HU.out
        rw [← this]
        rfl
      · exact (show Reg.Blk _ _ _ (wr.setCell _ (.int .u8 ((digS[u % 16]'(Nat.lt_trans hm (by decide))).toNat : Int))) from by rw [digS_at _ hm]; exact up.at_)
      · exact (show Below _ _ (wr.setCell _ (.int .u8 ((digS[u % 16]'(Nat.lt_trans hm (by decide))).toNat : Int))) from by rw [digS_at _ hm]; exact Reg.updB (Nat.le_refl _) _ _ _ _ HL.out up)
      · simp [intOf]; omega
    · have hlt' : u < 16 := by omega
      obtain ⟨x0, hx0⟩ : ∃ x0, C[q - 1]? = some x0 := ⟨_, Array.getElem?_eq_getElem (by have := HCs.out; omega)⟩
      have up := (Reg.Upd.refl kb).set (q - 1) (.int .u8 ((hexd u).toNat : Int))
      have hal : Tryd.prog.arrayLen 126 = 65 := by kernel_rfl
      have l0 : (0 : Int) ≤ (q : Int) - 1 := by omega
      have l1 : (q : Int) - 1 ≤ 65 := by omega
      have hsl : ∀ w', (Instr.sliceAt 126 (.pointer (some ⟨w.heap.size, 0, none⟩)) (some (.int .i64 ((q : Int) - 1))) none none).run Tryd.prog w' = .ok (.slice (some ⟨w.heap.size, q - 1, none⟩) (j + 1) (j + 1)) w' := fun w' => by
        have e1 : Tryd.prog.elem 126 = 5 := by kernel_rfl
        have e2 : ((q : Int) - 1).toNat = q - 1 := by omega
        have e3 : 65 - (q - 1) = j + 1 := by have := HQ.out; omega
        have e4 : ¬ 65 = q - 1 := by omega
        rw [run_sliceAt_array_l w' 126 ⟨w.heap.size, 0, none⟩ (by rw [hal, e1]; exact Tryd.underlying126) .i64 _ l0 (by rw [hal]; exact l1), e1, show (sizeOf 5).run Tryd.prog w' = .ok 1 w' from by kernel_rfl, hal, e2]
        simp only [Result.andThen_ok, slicedAt, e3, if_neg e4, Nat.mul_one]
        simp [Addr.add]
        omega
      have hcv : ∀ W' : World, Reg.Blk w.heap.size (C.setIfInBounds (q - 1) (.int .u8 ((hexd u).toNat : Int))) 126 W' → (convert 83 9 (.slice (some ⟨w.heap.size, q - 1, none⟩) (j + 1) (j + 1))).run Tryd.prog W' = .ok (.string ⟨(hexs (j + 1) n).toArray⟩) W' := fun W' hb => by
        have e1 : q - 1 + 1 = 65 - j := by have := HQ.out; omega
        have hdr : (C.setIfInBounds (q - 1) (.int .u8 ((hexd u).toNat : Int))).toList.drop (q - 1) = Lib.byteCells (hexs (j + 1) n) := by
          rw [Array.toList_setIfInBounds, drop_set _ _ _ (by have := HCs.out; simp; omega), e1, HD.out, hexs_cons]
          have := HU.out
          rw [← this, Nat.mod_eq_of_lt hlt']
          rfl
        have hl : (hexs (j + 1) n).length = j + 1 := hexs_len _ _
        have := run_convert_bytes_back (P := Tryd.prog) W' 83 9 5 ⟨w.heap.size, q - 1, none⟩ (j + 1) (hexs (j + 1) n) Tryd.underlying83 Tryd.underlying5 Tryd.underlying9 (fun k hk => by
          have e2 : (⟨w.heap.size, q - 1, none⟩ : Addr).add k = ⟨w.heap.size, q - 1 + k, none⟩ := Ap.add_at _ _ _
          rw [e2, (Reg.cells_at hb).1]
          have h3 := congrArg (fun l => l[k]?) hdr
          simp only [List.getElem?_drop, Array.getElem?_toList] at h3
          rw [h3]
          simp [Lib.byteCells, List.getElem?_map, List.getElem?_eq_getElem hk])
        rw [hl] at this
        exact this
      have HCV := Lib.hid hcv
      have hpost : Below w.heap.size w (wr.setCell ⟨w.heap.size, q - 1, none⟩ (.int .u8 ((hexd u).toNat : Int))) := Reg.updB (Nat.le_refl _) _ _ _ _ HL.out up
      have HPO := Lib.hid hpost
      have HUP := Lib.hid up.at_
      have hcv1 := hcv _ up.at_
      have hD := digS_at u hlt'
      simp only [digS] at hD
      have hj1 : j + 1 ≤ 16 := by omega
      have HJ : Hid (n < 16 ^ (j + 1)) := by
        have h1 := HU.out
        show n < 16 ^ (j + 1)
        rw [Nat.pow_succ]
        have h2 : 0 < 16 ^ j := Nat.pow_pos (by omega)
        have := (Nat.div_lt_iff_lt_mul h2).1 (by omega : n / 16 ^ j < 16)
        omega
      clear hcv up hpost hal HUP
      go_wp2_with fail
      go_ret2
      exact ⟨j, by omega, HJ.out, rfl, HPO.out⟩

end S
end Go.Proofs.YthdjdlndfkemiaaDoor
