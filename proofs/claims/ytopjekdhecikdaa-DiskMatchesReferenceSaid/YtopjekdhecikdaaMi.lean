/- The reference disk: 'Rot'; 'New' of no disk. -/
import Derived.Test.YtopjekdhecikdaaMh
set_option linter.unusedSimpArgs false
set_option linter.unusedVariables false
set_option maxRecDepth 100000
namespace Go.Proofs.Ytopjekdhecikdaa
open Go.RowKit
namespace D

theorem rnew_no (x : Int) (hx : x < 1 ∨ 4000 < x) (w : World) :
    Calls Try.prog 15 #[.int .i64 x] w fun e w' => e = .returned (.pointer none) ∧ w = w' := by
  by_cases h : x < 1
  · go_enter Try.func15, Try.ntmps15
    go_wp2
    go_ret
    exact ⟨rfl, rfl⟩
  · have h' : ¬ x < 1 := h
    have h2 : 4000 < x := by omega
    go_enter Try.func15, Try.ntmps15
    go_wp2
    go_ret
    exact ⟨rfl, rfl⟩

theorem rot_put {n : Nat} {st : Tx} (hl : st.length = n * 64) {s y : Nat} (hs : s < n) (hy : y < 64) (m : Int) {x : UInt8} (hx : (sec st s)[y]? = some x) :
    put st s ((sec st s).take y ++ [UInt8.ofNat (x.toNat ^^^ m.toNat)] ++ (sec st s).drop (y + 1)) = rotAt st (s * 64 + y) m := by
  have hsl : (sec st s).length = 64 := sec_len (by omega)
  have hll : ((sec st s).take y ++ [UInt8.ofNat (x.toNat ^^^ m.toNat)] ++ (sec st s).drop (y + 1)).length = 64 := by
    simp only [List.length_append, List.length_take, List.length_drop, List.length_cons, List.length_nil]; omega
  rw [sec_get hy] at hx
  apply List.ext_getElem?
  intro i
  rw [put_get (by omega), hll]
  unfold rotAt
  rw [List.getElem?_modify]
  by_cases h1 : s * 64 ≤ i ∧ i < s * 64 + 64
  · rw [if_pos h1]
    by_cases h2 : i - s * 64 < y
    · rw [List.append_assoc, List.getElem?_append_left (by rw [List.length_take]; omega), List.getElem?_take, if_pos h2, sec_get (by omega)]
      rw [show s * 64 + (i - s * 64) = i from by omega]
      simp [show ¬ s * 64 + y = i from by omega]
    · rw [List.append_assoc, List.getElem?_append_right (by rw [List.length_take]; omega), List.length_take, Nat.min_eq_left (by omega)]
      by_cases h3 : i - s * 64 = y
      · rw [show i = s * 64 + y from by omega, hx]
        rw [show s * 64 + y - s * 64 - y = 0 from by omega]
        simp
      · rw [List.getElem?_append_right (by simp; omega), List.getElem?_drop, sec_get (by simp; omega)]
        rw [show s * 64 + (y + 1 + (i - s * 64 - y - [UInt8.ofNat (x.toNat ^^^ m.toNat)].length)) = i from by simp; omega]
        simp [show ¬ s * 64 + y = i from by omega]
  · rw [if_neg h1]
    simp [show ¬ s * 64 + y = i from by omega]

set_option maxHeartbeats 2000000 in
theorem rrot_yes (s y : Nat) (m : Int) (w : World) {B g n : Nat} {M : Nat → Prop} {d : Dk} (hd : RefAt w B n M g d) (hf : Fit n d) (hs : s < n) (hy : y < 64) (m1 : 1 ≤ m) (m2 : m ≤ 255) :
    Calls Try.prog 38 #[.pointer (some ⟨g, 0, none⟩), .int .i64 s, .int .i64 y, .int .i64 m] w fun e w' => e = .returned (.tuple #[]) ∧ RPost w B n M g { d with st := rotAt d.st (s * 64 + y) m } w' := by
  obtain ⟨sb, qv, am, a, x', y', h⟩ := hd
  obtain ⟨gs, cs, rfl, hm, hltg, hne⟩ := h.sform (by omega)
  obtain ⟨ckd, fkd, zkd⟩ := h.blk.facts
  obtain ⟨t1, t2⟩ := h.cell hs
  have hl := hf.good.len
  have hn := hf.n
  have hu64 : (sec d.st s).length = 64 := sec_len (by omega)
  obtain ⟨x, hx⟩ : ∃ x, (sec d.st s)[y]? = some x := ⟨_, List.getElem?_eq_getElem (by omega)⟩
  have hrp := rot_put hl hs hy m hx
  have i1 := run_idx (sec d.st s) y hx
  have H := Lib.hid h
  obtain ⟨k1, hk1⟩ : ∃ k1, k1 = y + 1 := ⟨_, rfl⟩
  rw [← hk1] at hrp
  obtain ⟨v8, hv8⟩ : ∃ v, v = UInt8.ofNat (x.toNat ^^^ m.toNat) := ⟨_, rfl⟩
  have hxl := x.toNat_lt
  have hvn : v8.toNat = x.toNat ^^^ m.toNat := by
    rw [hv8]
    have : x.toNat ^^^ m.toNat < 2 ^ 8 := Nat.xor_lt_two_pow hxl (by omega)
    rw [UInt8.toNat_ofNat_of_lt' (by simpa using this)]
  have e3 : bits .xor .u8 (x.toNat : Int) m = (v8.toNat : Int) := by
    rw [u8_xor _ _ (by omega) (by omega) (by omega) (by omega), hvn]; simp
  have e2 : IntKind.u8.wrap m = m := by unfold IntKind.wrap; simp [IntKind.bits, IntKind.signed]; omega
  have e5 : IntKind.i64.wrap ((y : Int) + 1) = (k1 : Int) := by rw [IntWalk.i64_left, IntWalk.wrap64_in _ (by omega)]; omega
  rw [← hv8] at hrp
  have x1 := str_take (sec d.st s) y
  have x4 := str_drop (sec d.st s) k1 hu64
  have x3 := str_append ((sec d.st s).take y) [v8]
  have x5 := str_append ((sec d.st s).take y ++ [v8]) ((sec d.st s).drop k1)
  have y1 : (str (sec d.st s)).size = 64 := by rw [str_size]; exact hu64
  have y5 : ¬ 9223372036854775807 < (str ((sec d.st s).take y)).size + (str [v8]).size := by
    rw [str_size, str_size, List.length_take]; simp; omega
  have y6 : ¬ 9223372036854775807 < (str ((sec d.st s).take y ++ [v8])).size + (str ((sec d.st s).drop k1)).size := by
    rw [str_size, str_size, List.length_append, List.length_take, List.length_drop]; simp; omega
  have hnl : ((sec d.st s).take y ++ [v8] ++ (sec d.st s).drop k1).length = 64 := by
    simp only [List.length_append, List.length_take, List.length_drop, List.length_cons, List.length_nil]; omega
  have hcv : ∀ W, Below (w.alloc (.cells #[.int .u8 (v8.toNat : Int)] 5)).heap.size (w.alloc (.cells #[.int .u8 (v8.toNat : Int)] 5)) W → (convert 56 9 (.slice (some ⟨w.heap.size, 0, none⟩) 1 1)).run Try.prog W = .ok (.string (str [v8])) W := fun W hb =>
    run_bts_string (st := [v8]) (Reg.Blk.new1 hb) 0 1 1 (by simp)
  have hput := Lib.hid (fun (W : World) (hW : Below (w.alloc (.cells #[.int .u8 (v8.toNat : Int)] 5)).heap.size (w.alloc (.cells #[.int .u8 (v8.toNat : Int)] 5)) W) => ((H.out.alloc _).below hW).put hl hs hnl)
  have Hrp := Lib.hid hrp
  have c1 : ¬ (s : Int) < 0 := by omega
  have c2 : ¬ (n : Int) ≤ (s : Int) := by omega
  have c3 : ¬ (y : Int) < 0 := by omega
  have c4 : ¬ (64 : Int) ≤ (y : Int) := by omega
  have c5 : ¬ m < 1 := by omega
  have c6 : ¬ 255 < m := by omega
  have c7 : (s : Int) < (n : Int) := by omega
  have c8 : (y : Int) ≤ 64 := by omega
  have c9 : (k1 : Int) ≤ 64 := by omega
  have z1 : g < w.heap.size + 1 := by omega
  have z2 : gs < w.heap.size + 1 := by omega
  clear h hf hx hrp hl hnl hv8 hvn hk1
  generalize hnew : (sec d.st s).take y ++ [v8] ++ (sec d.st s).drop k1 = new at *
  go_enter Try.func38, Try.ntmps38
  go_wp2_with fail
  have h2 := H.out.alloc (.cells #[.int .u8 (v8.toNat : Int)] 5)
  clear ckd fkd zkd t1 t2 z1 z2
  obtain ⟨ckd, fkd, zkd⟩ := h2.blk.facts
  obtain ⟨t1, t2⟩ := h2.cell hs
  have z2 : gs < (w.alloc (.cells #[.int .u8 (v8.toNat : Int)] 5)).heap.size := by simp; omega
  have z3 : w.heap.size < (w.alloc (.cells #[.int .u8 (v8.toNat : Int)] 5)).heap.size := by simp
  have MV := Lib.hid (Moved.alloc (M := M) w (.cells #[.int .u8 (v8.toNat : Int)] 5))
  clear h2
  generalize w.alloc (.cells #[.int .u8 (v8.toNat : Int)] 5) = w2 at *
  refine Reg.wp_region_seq (by kernel_rfl) (by kernel_rfl) ?_
  simp only
  iterate 17
    apply Reg.SeqOK.val
    · intro γ W hW K hK
      obtain ⟨hc, hf, _⟩ := bcell hW
      simp only [Act.put, List.setIfInBounds_toArray, List.set_cons_zero, List.set_cons_succ] at hK
      unfold Reg.Does
      go_simp
      try simp only [IntWalk.i64_left]
      first
        | exact hK _ (Below.refl _ _)
    simp only [Act.put, List.setIfInBounds_toArray, List.set_cons_zero, List.set_cons_succ, List.nil_append, List.cons_append, Nat.reduceAdd, Nat.zero_add]
  refine Reg.SeqOK.last (by kernel_rfl) (by kernel_rfl) (fun γ W hW _ _ _ => ?_)
  obtain ⟨hc, hfz, _⟩ := bcell hW
  have hP := Lib.hid (hput.out W hW)
  have HW := Lib.hid hW
  unfold Reg.Does
  go_simp
  go_wp2
  go_end0
  refine ⟨rfl, ?_⟩
  rw [← Hrp.out]
  exact ⟨M, ⟨_, _, _, _, _, _, hP.out⟩, (MV.out.trans (Moved.below HW.out)).trans (Moved.set _ ⟨gs, s, none⟩ _ hm)⟩

theorem rrot_no (s y m : Int) (w : World) {B g n : Nat} {M : Nat → Prop} {d : Dk} (hd : RefAt w B n M g d) (hn : 1 ≤ n) (hno : ¬ (0 ≤ s ∧ s < n ∧ 0 ≤ y ∧ y < 64 ∧ 1 ≤ m ∧ m ≤ 255)) :
    Calls Try.prog 38 #[.pointer (some ⟨g, 0, none⟩), .int .i64 s, .int .i64 y, .int .i64 m] w fun e w' => e = .returned (.tuple #[]) ∧ w = w' := by
  obtain ⟨sb, qv, am, a, x', y', h⟩ := hd
  obtain ⟨gs, cs, rfl, hm, hltg, hne⟩ := h.sform hn
  obtain ⟨ckd, fkd, zkd⟩ := h.blk.facts
  have Hno := Lib.hid hno
  clear h hno
  by_cases b1 : s < 0
  · skip
    go_enter Try.func38, Try.ntmps38
    go_wp2
    exact bodyPost_ret (results_none rfl _ _ _) rfl ⟨rfl, rfl⟩
  have b1' : ¬ s < 0 := b1
  by_cases b2 : (n : Int) ≤ s
  · skip
    go_enter Try.func38, Try.ntmps38
    go_wp2
    exact bodyPost_ret (results_none rfl _ _ _) rfl ⟨rfl, rfl⟩
  have b2' : ¬ (n : Int) ≤ s := b2
  by_cases b3 : y < 0
  · skip
    go_enter Try.func38, Try.ntmps38
    go_wp2
    exact bodyPost_ret (results_none rfl _ _ _) rfl ⟨rfl, rfl⟩
  have b3' : ¬ y < 0 := b3
  by_cases b4 : 64 ≤ y
  · skip
    go_enter Try.func38, Try.ntmps38
    go_wp2
    exact bodyPost_ret (results_none rfl _ _ _) rfl ⟨rfl, rfl⟩
  have b4' : ¬ 64 ≤ y := b4
  by_cases b5 : m < 1
  · skip
    go_enter Try.func38, Try.ntmps38
    go_wp2
    exact bodyPost_ret (results_none rfl _ _ _) rfl ⟨rfl, rfl⟩
  have b5' : ¬ m < 1 := b5
  have b6 : 255 < m := by have := Hno.out; omega
  · skip
    go_enter Try.func38, Try.ntmps38
    go_wp2
    exact bodyPost_ret (results_none rfl _ _ _) rfl ⟨rfl, rfl⟩

theorem rrot_any (s y m : Int) (w : World) {B g n : Nat} {M : Nat → Prop} {d : Dk} (hd : RefAt w B n M g d) (hf : Fit n d) (hn : 1 ≤ n) :
    Calls Try.prog 38 #[.pointer (some ⟨g, 0, none⟩), .int .i64 s, .int .i64 y, .int .i64 m] w fun e w' => e = .returned (.tuple #[]) ∧ RPost w B n M g (rot d s y m) w' := by
  cases hr : rotOk d s y m
  · have e : rot d s y m = d := by unfold rot; rw [hr]; rfl
    rw [e]
    refine (rrot_no s y m w hd hn (fun h => by rw [rotOk_mk hf.good h] at hr; cases hr)).mono ?_
    rintro e w' ⟨rfl, rfl⟩
    exact ⟨rfl, M, hd, Moved.refl _ _⟩
  · obtain ⟨s0, s1, y0, y1, m1, m2⟩ := rotOk_bd hf.good hr
    have e : rot d s y m = { d with st := rotAt d.st (s.toNat * 64 + y.toNat) m } := by unfold rot; rw [if_pos hr]
    rw [e]
    obtain ⟨j, rfl⟩ := Int.eq_ofNat_of_zero_le s0
    obtain ⟨k, rfl⟩ := Int.eq_ofNat_of_zero_le y0
    exact rrot_yes j k m w hd hf (by omega) (by omega) m1 m2

end D
end Go.Proofs.Ytopjekdhecikdaa
