/- Digests: 'take'. -/
import Derived.Test.YthdjdlndfkemiaaGreatDoorProg
import Derived.Test.YthdjdlndfkemiaaGreatDoorReg
import Derived.Test.YthdjdlndfkemiaaGreatDoorReh
import Derived.WalkKit
import Derived.ProofKit
import Derived.WalkSpells
import Derived.WalkLawsBesides
import Derived.Defers
import Derived.Deep.RegionHeld3
import Derived.Deep.RegionLaw
import Derived.Lib.Hide
import Derived.Laws.Bits64
import Derived.Laws.Bits64b
import Derived.Test.YthdjdlndfkemiaaGreatDoorSa
set_option linter.unusedSimpArgs false
set_option linter.unusedVariables false
set_option maxRecDepth 100000
namespace Go.Proofs.YthdjdlndfkemiaaGreatDoor
open Go.RowKit
namespace S

theorem bcell {B : Nat} {W w1 : World} (hb : Below B W w1) : (∀ b o, b < B → w1.cell? ⟨b, o, none⟩ = W.cell? ⟨b, o, none⟩) ∧ (∀ b o, b < B → w1.frozen? ⟨b, o, none⟩ = W.frozen? ⟨b, o, none⟩) ∧ B ≤ B :=
  ⟨fun b o h => hb.cell (p := ⟨b, o, none⟩) h, fun b o h => hb.frozen (p := ⟨b, o, none⟩) h, Nat.le_refl _⟩
theorem ret_bool {a b : Bool} (h : a = b) : Ending.returned (.bool a) = .returned (.bool b) := by rw [h]
theorem ret_str {a b : ByteArray} (h : a = b) : Ending.returned (.string a) = .returned (.string b) := by rw [h]

theorem xorI {a b : Nat} (ha : a < 18446744073709551616) (hb : b < 18446744073709551616) : bits .xor .u64 (a : Int) (b : Int) = ((a ^^^ b : Nat) : Int) := bits_xor_u64_nat a b ha hb
theorem mulI (a c : Nat) : IntKind.u64.wrap ((a : Int) * (c : Int)) = ((a * c % 18446744073709551616 : Nat) : Int) := by
  rw [IntKind.wrap_u64]
  omega
theorem orI {a b : Nat} (ha : a * 256 < 18446744073709551616) (hb : b < 256) : bits .or .u64 ((a : Int) * 256) (b : Int) = ((a * 256 + b : Nat) : Int) := by
  have h : (a : Int) * 256 = ((a * 256 : Nat) : Int) := by omega
  rw [h, bits_or_u64_nat _ _ ha (by omega)]
  have := Nat.two_pow_add_eq_or_of_lt (i := 8) (b := b) (by omega) a
  rw [Nat.mul_comm a 256, show (256 : Nat) = 2 ^ 8 from rfl, this]
theorem divI (a c : Nat) : (a : Int) / (c : Int) = ((a / c : Nat) : Int) := rfl
/-- What 'take' writes. -/
theorem takeI {s b : Nat} (hs : s < 18446744073709551616) (hb : b < 18446744073709551616) :
    bits .xor .u64 (IntKind.u64.wrap (bits .xor .u64 (IntKind.u64.wrap (bits .xor .u64 (bits .xor .u64 (s : Int) (b : Int)) (bits .xor .u64 (s : Int) (b : Int) / 2147483648) * 11400714819323198485)) (IntKind.u64.wrap (bits .xor .u64 (bits .xor .u64 (s : Int) (b : Int)) (bits .xor .u64 (s : Int) (b : Int) / 2147483648) * 11400714819323198485) / 134217728) * 15074714826142052245))
      (IntKind.u64.wrap (bits .xor .u64 (IntKind.u64.wrap (bits .xor .u64 (bits .xor .u64 (s : Int) (b : Int)) (bits .xor .u64 (s : Int) (b : Int) / 2147483648) * 11400714819323198485)) (IntKind.u64.wrap (bits .xor .u64 (bits .xor .u64 (s : Int) (b : Int)) (bits .xor .u64 (s : Int) (b : Int) / 2147483648) * 11400714819323198485) / 134217728) * 15074714826142052245) / 8589934592) = ((mixN (s ^^^ b) : Nat) : Int) := by
  have step (x p c : Nat) (hx : x < 18446744073709551616) : IntKind.u64.wrap (bits .xor .u64 (x : Int) ((x : Int) / (p : Int)) * (c : Int)) = (((x ^^^ (x / p)) * c % 18446744073709551616 : Nat) : Int) := by
    rw [divI, xorI hx (div_lt' hx), mulI]
  have s1 := step (s ^^^ b) 2147483648 11400714819323198485 (xor_lt hs hb)
  have s2 := step (mixA (s ^^^ b)) 134217728 15074714826142052245 (mixA_lt _)
  have s3 : bits .xor .u64 (mixB (mixA (s ^^^ b)) : Int) ((mixB (mixA (s ^^^ b)) : Int) / ((8589934592 : Nat) : Int)) = ((mixN (s ^^^ b) : Nat) : Int) := by
    rw [divI, xorI (mixB_lt _) (div_lt' (mixB_lt _))]; rfl
  rw [xorI hs hb]
  have e1 : ((2147483648 : Nat) : Int) = 2147483648 := rfl
  have e2 : ((11400714819323198485 : Nat) : Int) = 11400714819323198485 := rfl
  have e3 : ((134217728 : Nat) : Int) = 134217728 := rfl
  have e4 : ((15074714826142052245 : Nat) : Int) = 15074714826142052245 := rfl
  have e5 : ((8589934592 : Nat) : Int) = 8589934592 := rfl
  rw [e1, e2] at s1
  rw [e3, e4] at s2
  rw [e5] at s3
  rw [s1]
  change bits .xor .u64 (IntKind.u64.wrap (bits .xor .u64 ((mixA (s ^^^ b) : Nat) : Int) (((mixA (s ^^^ b) : Nat) : Int) / 134217728) * 15074714826142052245)) (IntKind.u64.wrap (bits .xor .u64 ((mixA (s ^^^ b) : Nat) : Int) (((mixA (s ^^^ b) : Nat) : Int) / 134217728) * 15074714826142052245) / 8589934592) = _
  rw [s2]
  exact s3

theorem take_any (g : Nat) (s : Nat) (B : Nat → Nat) (w : World) (hs : s < 18446744073709551616) (hB : ∀ i, B i < 256) (kb : Reg.Blk g #[.int .u64 s] 86 w) :
    Calls Tryz.prog 81 #[.pointer (some ⟨g, 0, none⟩), .agg #[.int .u8 (B 0), .int .u8 (B 1), .int .u8 (B 2), .int .u8 (B 3), .int .u8 (B 4), .int .u8 (B 5), .int .u8 (B 6), .int .u8 (B 7)]] w fun e w' => e = .returned (.tuple #[]) ∧ Reg.Keep (fun k => k = g) w w' ∧ Reg.Blk g #[.int .u64 (mixN (s ^^^ bl B 8) : Nat)] 86 w' := by
  have HB := Lib.hid hB
  clear hB
  go_enter Tryz.func81, Tryz.ntmps81
  go_wp2_with fail
  obtain ⟨W1, hW1⟩ : ∃ W1, W1 = w.alloc (.cells #[.int .u8 (B 0), .int .u8 (B 1), .int .u8 (B 2), .int .u8 (B 3), .int .u8 (B 4), .int .u8 (B 5), .int .u8 (B 6), .int .u8 (B 7)] 106) := ⟨_, rfl⟩
  have hcell : ∀ k, k < 8 → W1.cell? ⟨w.heap.size, k, none⟩ = some (.int .u8 (B k)) := fun k hk => by
    subst hW1
    obtain ⟨c, _⟩ := Reg.cells_at (Reg.heap_new w (.cells #[.int .u8 (B 0), .int .u8 (B 1), .int .u8 (B 2), .int .u8 (B 3), .int .u8 (B 4), .int .u8 (B 5), .int .u8 (B 6), .int .u8 (B 7)] 106))
    rw [c]
    match k, hk with
    | 0, _ => rfl
    | 1, _ => rfl
    | 2, _ => rfl
    | 3, _ => rfl
    | 4, _ => rfl
    | 5, _ => rfl
    | 6, _ => rfl
    | 7, _ => rfl
  have HC := Lib.hid hcell
  have kb2 : Reg.Blk g #[.int .u64 s] 86 W1 := by rw [hW1]; exact kb.alloc _
  obtain ⟨ckb, fkb, zkb⟩ := Reg.Blk.facts kb2
  have HW := Lib.hid hW1
  rw [← hW1]
  clear hcell hW1
  go_loop [4, 7] (fun n i => ∃ k : Nat, k ≤ 8 ∧ i = .int .i64 k ∧ n = .int .u64 (bl B k)) (fun _ i => 8 - (intOf i).toNat)
  case atStart => exact ⟨0, by omega, rfl, rfl⟩
  case round =>
    obtain ⟨k, hk, rfl, rfl⟩ := hrel
    by_cases hlt : k < 8
    · have hcl := HC.out k hlt
      have hk0 : (0 : Int) ≤ (k : Int) := by omega
      have hk4 : (k : Int) < 8 := by omega
      have hb1 := bl_lt B HB.out k
      have hb2 := HB.out k
      have hb3 : bl B k * 256 < 18446744073709551616 := by
        have : 256 ^ k ≤ 256 ^ 7 := Nat.pow_le_pow_right (by omega) (by omega)
        omega
      have HO := Lib.hid (orI hb3 hb2)
      go_wp2_with fail
      refine ⟨⟨k + 1, by omega, by go_num, by rw [HO.out]; rfl⟩, by simp [intOf]; omega⟩
    · obtain rfl : k = 8 := by omega
      have hb1 := bl_lt B HB.out 8
      have hb4 : bl B 8 < 18446744073709551616 := hb1
      have HTK := Lib.hid (takeI hs hb4)
      clear hb1 hb4
      go_wp2_with fail
      rw [HTK.out]
      go_end0
      have up := Reg.upd1 (x := .int .u64 (mixN (s ^^^ bl B 8) : Nat)) kb2
      have hz : w.heap.size ≤ W1.heap.size := by rw [HW.out]; simp
      have hk1 : Reg.Keep (fun k => k = g) w W1 := by
        rw [HW.out]; exact Reg.Keep.ofBelow ((Below.refl _ _).alloc (Nat.le_refl _) _)
      exact ⟨rfl, Reg.updK (M := fun k => k = g) rfl _ _ _ _ hk1 up, up.at_⟩
end S
end Go.Proofs.YthdjdlndfkemiaaGreatDoor
