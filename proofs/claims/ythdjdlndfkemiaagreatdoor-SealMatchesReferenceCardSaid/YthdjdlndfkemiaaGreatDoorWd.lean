/- Seals: 'Public', 'digits'. -/
import Derived.Test.YthdjdlndfkemiaaGreatDoorWb
import Derived.Test.YthdjdlndfkemiaaGreatDoorRif
import Derived.RangeFuncNested
import Derived.RangeFuncBound
import Derived.RangeFuncCalls
import Derived.RangeFuncLeaves
import Derived.Shelf.Abstract
import Derived.Shelf.RegionOpen
import Derived.OwnWalkIn
import Derived.TacticsInMore
import Derived.LoopNIn
import Derived.LoopIn
set_option linter.unusedSimpArgs false
set_option linter.unusedVariables false
set_option maxRecDepth 100000
namespace Go.Proofs.YthdjdlndfkemiaaGreatDoor
open Go.RowKit Go.Shelf
namespace S

def pubS (s : Tx) (h : Int) : Tx := if 0 ≤ h ∧ h ≤ 8 then pubT s h.toNat else []
def hE (h : Int) : Int := if 0 ≤ h ∧ h ≤ 8 then 0 else 1
theorem pub_dig (s : Tx) (h : Nat) : isD (pubT s h) = true := root_dig _ fun t ht => List.all_eq_true.1 (leaves_dig s h) t ht
theorem public_yes (s : Tx) (h : Nat) (w : World) (hs : s.length ≤ 1000000) (hh : h ≤ 8) (ht : Tabs w) :
    Calls Tryz.prog 10 #[.string (str s), .int .i64 h] w fun e w' => e = .returned (.tuple #[.string (str (pubT s h)), .int .i64 0]) ∧ Below w.heap.size w w' := by
  have HT := Lib.hid ht
  have HK := Lib.hid (keys_any s h w hs hh ht)
  have HR : Hid (∀ W A c, Tabs W → Lst W A (2 ^ h) c (leavesT s h) → Calls Tryz.prog 22 #[.slice A (2 ^ h) c] W fun e w' => e = .returned (.tuple #[.string (str (pubT s h)), .int .i64 0]) ∧ Below W.heap.size W w') := fun W A c ht hl => by
    have hq := root_L hl (by have := pow_le hh; omega) ht (fun t htm => by have := isD_len (List.all_eq_true.1 (leaves_dig s h) t htm); omega)
    rw [leaves_dig] at hq
    exact hq
  generalize pubT s h = P at *
  generalize leavesT s h = L at *
  generalize 2 ^ h = N at *
  have h8 : ¬ (8 : Int) < (h : Int) := by omega
  have h0 : ¬ (h : Int) < 0 := by omega
  clear ht hs
  go_enter Tryz.func10, Tryz.ntmps10
  go_wp2_with fail
  (with_reducible refine HK.out.mono ?_); rintro e w1 ⟨⟨A, c, rfl, hl, _⟩, hb1⟩
  have HB := Lib.hid hb1
  have HL := Lib.hid hl
  clear hb1 hl HK
  go_wp2_with fail
  (with_reducible refine (HR.out _ _ _ (HT.out.below HB.out) HL.out).mono ?_); rintro e w2 ⟨rfl, hb2⟩
  replace HB := Lib.hid (HB.out.trans (hb2.mono HB.out.size))
  clear hb2 HR
  go_wp2_with fail
  refine bodyPost_ret (v := .tuple #[.string (str P), .int .i64 0]) (by simp [results, Tryz.results10, go_sem]) rfl ⟨rfl, HB.out⟩
theorem public_no (s : Tx) (h : Int) (w : World) (hh : h < 0 ∨ 8 < h) :
    Calls Tryz.prog 10 #[.string (str s), .int .i64 h] w fun e w' => e = .returned (.tuple #[.string (str []), .int .i64 1]) ∧ Below w.heap.size w w' := by
  rcases hh with hh | hh
  · go_enter Tryz.func10, Tryz.ntmps10
    go_wp2_with fail
    refine bodyPost_ret (v := .tuple #[.string (str []), .int .i64 1]) (by simp [results, Tryz.results10, go_sem]; rfl) rfl ⟨rfl, Below.refl _ _⟩
  · have h0 : ¬ h < 0 := by omega
    go_enter Tryz.func10, Tryz.ntmps10
    go_wp2_with fail
    refine bodyPost_ret (v := .tuple #[.string (str []), .int .i64 1]) (by simp [results, Tryz.results10, go_sem]; rfl) rfl ⟨rfl, Below.refl _ _⟩
theorem public_any (s : Tx) (h : Int) (w : World) (hs : s.length ≤ 1000000) (ht : Tabs w) :
    Calls Tryz.prog 10 #[.string (str s), .int .i64 h] w fun e w' => e = .returned (.tuple #[.string (str (pubS s h)), .int .i64 (hE h)]) ∧ Below w.heap.size w w' := by
  unfold pubS hE
  by_cases hh : 0 ≤ h ∧ h ≤ 8
  · rw [if_pos hh, if_pos hh]
    obtain ⟨n, rfl⟩ := Int.eq_ofNat_of_zero_le hh.1
    exact public_yes s n w hs (by omega) ht
  · rw [if_neg hh, if_neg hh]
    exact public_no s h w (by omega)

theorem hxv_le {m : Tx} {i : Nat} (h : i < (sumL m).length) : hxv ((sumL m)[i]) ≤ 15 := dgs_lt m _ (List.mem_map.2 ⟨_, List.getElem_mem h, rfl⟩)
theorem idx_hex : ∀ d, d < 16 → Lib.indexByte hexC (hexd d) = (d : Int) := by decide +kernel
theorem index_sum (m : Tx) (i : Nat) (h : i < (sumL m).length) : Lib.indexByte hexC ((sumL m)[i]) = ((hxv ((sumL m)[i]) : Nat) : Int) := by
  obtain ⟨d, hd, e⟩ := hexs_mem _ _ _ (List.getElem_mem h)
  rw [e, idx_hex d hd, hxv_hexd d hd]
theorem dk_at (m : Tx) (i : Nat) (h : i < 16) : dk m i = hxv ((sumL m)[i]'(by rw [sumL_len]; exact h)) := by
  unfold dk dsT
  rw [List.getElem?_append_left (by rw [dgs_len]; exact h)]
  unfold dgs
  rw [List.getElem?_map, List.getElem?_eq_getElem (by rw [sumL_len]; exact h)]
  simp only [Option.map_some, Option.getD_some]
theorem get_snd (l : List Nat) (n a b : Nat) (h : l.length = n) : (l ++ [a, b])[n]?.getD 0 = a ∧ (l ++ [a, b])[n + 1]?.getD 0 = b := by
  subst h
  constructor
  · rw [List.getElem?_append_right (Nat.le_refl _), Nat.sub_self]; rfl
  · rw [List.getElem?_append_right (by omega), Nat.add_sub_cancel_left]; rfl
theorem dk_16 (m : Tx) : dk m 16 = restL (dgs m) / 16 := (get_snd (dgs m) 16 _ _ (dgs_len m)).1
theorem dk_17 (m : Tx) : dk m 17 = restL (dgs m) % 16 := (get_snd (dgs m) 16 _ _ (dgs_len m)).2
theorem dgs_take (m : Tx) (k : Nat) (h : k < 16) : (dgs m).take (k + 1) = (dgs m).take k ++ [dk m k] := by
  have hk : k < (dgs m).length := by rw [dgs_len]; exact h
  have e : dk m k = (dgs m)[k] := by
    unfold dk dsT
    rw [List.getElem?_append_left hk, List.getElem?_eq_getElem hk]
    simp only [Option.getD_some]
  rw [List.take_add_one, List.getElem?_eq_getElem hk, e]
  simp only [Option.toList_some]

end S
end Go.Proofs.YthdjdlndfkemiaaGreatDoor

/- Seals: the iterator 'digits'. -/
namespace Go.Proofs.YthdjdlndfkemiaaGreatDoor
open Go.RowKit Go.Shelf
namespace S
attribute [local go_sem] Oper.semAt_some

theorem run_idx (t : Tx) (k : Nat) {x : UInt8} (h : t[k]? = some x) (W : World) : (Instr.index 9 (.string (str t)) (.int .i64 (k : Int))).run Tryz.prog W = .ok (.int .u8 (x.toNat : Int)) W := by
  have hk : k < t.length := (List.getElem?_eq_some_iff.1 h).1
  rw [run_index_string W 9 (str t) .i64 (k : Int) Tryz.underlying9, dif_pos ⟨by omega, by rw [str_size]; omega⟩]
  have e : (str t)[(k : Int).toNat]'(by rw [str_size]; simpa using hk) = x := by
    have := (List.getElem?_eq_some_iff.1 h).2
    show (str t).data[k] = x
    simp [str, this]
  rw [e]
abbrev SD := { x : Nat × Nat // x.1 < 18 ∧ x.2 ≤ 15 }
abbrev encD (x : SD) : Array Value := #[.int .i64 (x.1.1 : Int), .int .i64 (x.1.2 : Int)]
def mkD (a b : Nat) (h : a < 18 ∧ b ≤ 15) : SD := ⟨(a, b), h⟩
theorem mkD_val (a b : Nat) (h : a < 18 ∧ b ≤ 15) : (mkD a b h).1 = (a, b) := rfl
def fD (m : Tx) (k : Nat) : SD := if h : k < 18 then mkD k (dk m k) ⟨h, dk_le m k⟩ else mkD 0 0 (by decide)
theorem fD_at (m : Tx) (k : Nat) (h : k < 18) : (fD m k).1 = (k, dk m k) := by unfold fD; rw [dif_pos h]; exact mkD_val _ _ _
theorem hexC_str : ({ data := #[48, 49, 50, 51, 52, 53, 54, 55, 56, 57, 97, 98, 99, 100, 101, 102] } : ByteArray) = str hexC := rfl
theorem hexidx_any (m : Tx) (k : Nat) (hk : k < 16) (c : UInt8) (hc : (sumL m)[k]? = some c) (w : World) :
    Calls Tryz.prog 57 #[.string { data := #[48, 49, 50, 51, 52, 53, 54, 55, 56, 57, 97, 98, 99, 100, 101, 102] }, .int .u8 (c.toNat : Int)] w fun e w' => e = .returned (.int .i64 (dk m k : Nat)) ∧ w' = w := by
  have h := Tryz.strings_IndexByte (str hexC) (c.toNat : Int) w
  have hl : k < (sumL m).length := by rw [sumL_len]; exact hk
  rw [List.getElem?_eq_getElem hl] at hc
  have hc' := Option.some.inj hc
  have e1 : ((c.toNat : Int).toNat).toUInt8 = c := by simp
  have h2 : Lib.indexByte hexC c = ((dk m k : Nat) : Int) := by rw [dk_at m k hk, ← index_sum m k hl, hc']
  rw [e1, str_data, h2] at h
  exact h

set_option maxHeartbeats 4000000 in
theorem digits1_in (N l₀ : Nat) (M : Nat → Prop) (Bm : Nat) (m : Tx) (J Jx : List SD → World → Prop) (W : World)
    (hm : m.length ≤ 140737488351232) (ht : Tabs W) (hbm : Reg.Blk Bm #[.string (str m)] 9 W)
    (hJ : ∀ s w w', J s w → Below w.heap.size w w' → J s w')
    (hY : ∀ pre (x : SD) W1, J pre W1 → pre.length < 18 → YieldAt Fence.wide N Tryz.prog l₀ (encD x) W1 fun e W' =>
      (e = .returned (.bool true) ∧ J (pre ++ [x]) W' ∧ Reg.Keep M W1 W') ∨ (e = .returned (.bool false) ∧ Jx (pre ++ [x]) W')) (h0 : J [] W) :
    CallsIn Fence.wide (N + 1) Tryz.prog 55 #[.func (.yield l₀) #[] #[], .pointer (some ⟨Bm, 0, none⟩)] W fun e W' => (∃ v, e = .returned v) ∧ ((∃ xs, xs = upT' (fD m) 18 ∧ J xs W') ∨ (∃ pre : List SD, True ∧ Jx pre W')) := by
  have HS := Lib.hid (sumT m W hm ht)
  obtain ⟨cb, fb, zb⟩ := hbm.facts
  have HJ := Lib.hid hJ
  have HY := Lib.hid hY
  have HIx := Lib.hid (fun k (hk : k < 16) c (hc : (sumL m)[k]? = some c) w => hexidx_any m k hk c hc w)
  have H0 := Lib.hid h0
  have HL := Lib.hid (sumL_len m)
  have hsz : (str (sumL m)).size = 16 := by rw [str_size, sumL_len]
  have HR : Hid (∀ k, k < 16 → restL ((dgs m).take (k + 1)) = restL ((dgs m).take k) + (15 - dk m k) ∧ dk m k ≤ 15 ∧ restL ((dgs m).take k) ≤ 15 * k) := fun k hk => by
    refine ⟨by rw [dgs_take m k hk, restL_snoc], dk_le m k, ?_⟩
    have := restL_le ((dgs m).take k)
    rw [List.length_take, dgs_len] at this
    omega
  have HE : Hid (dk m 16 = restL ((dgs m).take 16) / 16 ∧ dk m 17 = restL ((dgs m).take 16) % 16 ∧ restL ((dgs m).take 16) ≤ 240) := by
    have e : (dgs m).take 16 = dgs m := List.take_of_length_le (by rw [dgs_len]; omega)
    have := restL_le (dgs m)
    rw [dgs_len] at this
    rw [e]; exact ⟨dk_16 m, dk_17 m, this⟩
  have HF := Lib.hid (fD_at m)
  have HT : Hid (∀ k, k < 16 → ∃ c, (sumL m)[k]? = some c) := fun k h => ⟨_, List.getElem?_eq_getElem (l := sumL m) (i := k) (by rw [sumL_len]; exact h)⟩
  clear hbm hm ht hJ hY h0
  refine callsIn_of_wp Tryz.func55 rfl trivial ?_ rfl
  simp only [Tryz.ntmps55, List.size_toArray, List.length_cons, List.length_nil, Nat.reduceAdd, Nat.reduceSub, Array.replicate_succ, Array.replicate_zero, List.push_toArray, List.append_toArray, List.nil_append, List.cons_append]
  gi_wp2_with fail
  refine ⟨trivial, ?_⟩
  refine (callsIn_wide.2 HS.out).mono ?_
  rintro e w1 ⟨rfl, hb1⟩
  have HB := Lib.hid hb1
  have HJ1 := Lib.hid (HJ.out _ _ _ H0.out hb1)
  clear hb1 HS cb fb zb
  generalize sumL m = S at *
  clear HL
  gi_wp2_with fail
  gi_loopw [3, 11] (fun r x wr => ∃ k : Nat, k ≤ 16 ∧ x = .int .i64 k ∧ r = .int .i64 (restL ((dgs m).take k) : Nat) ∧ J (upT' (fD m) k) wr) (fun _ x _ => 16 - (intOf x).toNat)
  case atStart => exact ⟨0, by omega, rfl, by simp [restL], HJ1.out⟩
  case round =>
    obtain ⟨k, hk, rfl, rfl, hjk⟩ := hrel
    have HJk := Lib.hid hjk
    clear hjk
    by_cases hlt : k < 16
    · have hlti : (k : Int) < 16 := by omega
      obtain ⟨c, hc⟩ := HT.out k hlt
      have hidx := run_idx S k hc
      obtain ⟨r1, r2, r3⟩ := HR.out k hlt
      have HQ := Lib.hid (HIx.out k hlt c hc)
      obtain ⟨fn, tmps, assign, body, hy, hR⟩ := HY.out (upT' (fD m) k) (fD m k) wr HJk.out (by rw [upT'_len]; omega)
      unfold encD at hy
      rw [HF.out k (by omega)] at hy
      have HRr := Lib.hid hR
      have HR1 := Lib.hid r1
      generalize restL ((dgs m).take k) = R0 at *
      generalize dk m k = d at *
      have hw1 : wrap64 (15 - (d : Int)) = 15 - (d : Int) := IntWalk.wrap64_in _ (by omega)
      have hw2 : wrap64 ((R0 : Int) + (15 - (d : Int))) = (R0 : Int) + (15 - (d : Int)) := IntWalk.wrap64_in _ (by omega)
      have HRd : Hid (((R0 + (15 - d) : Nat) : Int) = (R0 : Int) + (15 - (d : Int))) := by unfold Hid; omega
      clear hR hc r1
      gi_wp2_with fail
      refine ⟨trivial, ?_⟩
      refine (callsIn_wide.2 (HQ.out _)).mono ?_
      rintro e w2 ⟨rfl, rfl⟩
      gi_wp2_with fail
      refine HRr.out.mono ?_
      rintro e W3 (⟨rfl, hJ3, _⟩ | ⟨rfl, hx3⟩)
      · have HJ3 := Lib.hid hJ3
        clear hJ3 HRr hy
        gi_wp2_with fail
        exact ⟨⟨k + 1, by omega, by go_num, by rw [HR1.out, HRd.out], by rw [upT'_succ]; exact HJ3.out⟩, by simp [intOf]; omega⟩
      · have HX3 := Lib.hid hx3
        clear hx3 HRr hy
        gi_wp2_with fail
        refine bodyPost_ret (results_none rfl _ _ _) rfl ?_
        exact ⟨⟨_, rfl⟩, .inr ⟨_, trivial, HX3.out⟩⟩
    · obtain rfl : k = 16 := by omega
      obtain ⟨fn, tmps, assign, body, hy, hR⟩ := HY.out (upT' (fD m) 16) (fD m 16) wr HJk.out (by rw [upT'_len]; omega)
      unfold encD at hy
      rw [HF.out 16 (by omega), HE.out.1] at hy
      have HRr := Lib.hid hR
      obtain ⟨R0, hR0⟩ : ∃ R0, R0 = restL ((dgs m).take 16) := ⟨_, rfl⟩
      rw [← hR0] at HE hy
      rw [← hR0]
      have hdiv : ((R0 / 16 : Nat) : Int) = (R0 : Int) / 16 := rfl
      have hmod : ((R0 % 16 : Nat) : Int) = (R0 : Int) % 16 := rfl
      have HDM := Lib.hid (And.intro hdiv hmod)
      have hR24 : (R0 : Int) ≤ 240 := by have := HE.out.2.2; omega
      dsimp only at hy
      rw [hdiv, show ((16 : Nat) : Int) = 16 from rfl] at hy
      clear hdiv hmod
      have hR00 : (0 : Int) ≤ (R0 : Int) := by omega
      clear hR hR0 HJk HIx HT HR
      gi_wp2_with fail
      refine HRr.out.mono ?_
      rintro e W3 (⟨rfl, hJ3, _⟩ | ⟨rfl, hx3⟩)
      · have HJ3 := Lib.hid hJ3
        clear HRr hy
        obtain ⟨fn, tmps, assign, body, hy, hR⟩ := HY.out (upT' (fD m) 16 ++ [fD m 16]) (fD m 17) W3 HJ3.out (by simp [upT'_len])
        unfold encD at hy
        rw [HF.out 17 (by omega), HE.out.2.1] at hy
        dsimp only at hy
        rw [HDM.out.2, show ((17 : Nat) : Int) = 17 from rfl] at hy
        have HRr := Lib.hid hR
        clear hR
        gi_wp2_with fail
        refine HRr.out.mono ?_
        rintro e W4 (⟨rfl, hJ4, _⟩ | ⟨rfl, hx4⟩)
        · have HJ4 := Lib.hid hJ4
          clear hJ4 HRr hy
          gi_wp2_with fail
          go_end0
          exact ⟨⟨_, rfl⟩, .inl ⟨_, ((upT'_succ (fD m) 17).trans (congrArg (· ++ [fD m 17]) (upT'_succ (fD m) 16))).symm, HJ4.out⟩⟩
        · have HX4 := Lib.hid hx4
          clear hx4 HRr hy
          gi_wp2_with fail
          go_end0
          exact ⟨⟨_, rfl⟩, .inr ⟨_, trivial, HX4.out⟩⟩
      · have HX3 := Lib.hid hx3
        clear hx3 HRr hy
        gi_wp2_with fail
        go_end0
        exact ⟨⟨_, rfl⟩, .inr ⟨_, trivial, HX3.out⟩⟩

end S
end Go.Proofs.YthdjdlndfkemiaaGreatDoor
