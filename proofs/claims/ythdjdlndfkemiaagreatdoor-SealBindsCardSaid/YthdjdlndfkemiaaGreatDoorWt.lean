/- Seals, the reference: 'Digits'. -/
import Derived.Test.YthdjdlndfkemiaaGreatDoorWp
set_option linter.unusedSimpArgs false
set_option linter.unusedVariables false
set_option maxRecDepth 100000
namespace Go.Proofs.YthdjdlndfkemiaaGreatDoor
open Go.RowKit
namespace S

theorem digV_hexd : ∀ d, d < 16 → digV (hexd d) = (d : Int) := by decide +kernel
theorem digV_sum (m : Tx) (k : Nat) (hk : k < (sumL m).length) : digV (sumL m)[k] = ((hxv (sumL m)[k] : Nat) : Int) := by
  obtain ⟨d, hd, e⟩ := hexs_mem 16 (sumN m) (sumL m)[k] (List.getElem_mem hk)
  rw [e, digV_hexd d hd, hxv_hexd d hd]
theorem map_take {α β : Type} (f : α → β) (l : List α) (k : Nat) (hk : k < l.length) : (l.map f).take (k + 1) = (l.map f).take k ++ [f l[k]] := by
  rw [List.take_add_one, List.getElem?_map, List.getElem?_eq_getElem hk]; rfl
theorem dgs_at (m : Tx) (k : Nat) (hk : k < (sumL m).length) : (dgs m).take (k + 1) = (dgs m).take k ++ [hxv (sumL m)[k]] := map_take hxv (sumL m) k hk

/-! Rows of numbers. -/
theorem info_int : (Tryz.prog.info? 3).map (fun i => (i.zero, i.size, i.bytes)) = some (some (.int .i64 0), 1, 8) := by kernel_rfl
def iv (l : List Nat) : List Value := l.map fun d => .int .i64 (d : Nat)
theorem iv_one (l : List Nat) : ∀ u ∈ iv l, u.oneCell' = true := fun u hu => by obtain ⟨t, _, rfl⟩ := List.mem_map.1 hu; rfl
def OwnI (B : Nat) (w : World) (v : Value) (l : List Nat) : Prop := w.ownsRow B 3 1 v l.length (iv l)
theorem OwnI.nil (B : Nat) (w : World) : OwnI B w (.slice none 0 0) [] := ⟨rfl, .inl ⟨rfl, rfl⟩⟩
theorem OwnI.below {B : Nat} {w w' : World} {v : Value} {l : List Nat} (h : OwnI B w v l) (hb : Below w.heap.size w w') : OwnI B w' v l := Ap.own_below h hb
/-- Numbers in memory. -/
def IntsAt (w : World) (A : Option Addr) (l : List Nat) : Prop := ∀ i, i < l.length → ∃ b off, A = some ⟨b, off, none⟩ ∧ b < w.heap.size ∧ w.cell? ⟨b, off + i, none⟩ = some (.int .i64 ((l[i]?.getD 0 : Nat) : Int))
theorem IntsAt.below {w w' : World} {A : Option Addr} {l : List Nat} (h : IntsAt w A l) (hb : Below w.heap.size w w') : IntsAt w' A l := fun i hi => by
  obtain ⟨b, off, hA, hlt, c0⟩ := h i hi
  exact ⟨b, off, hA, Nat.lt_of_lt_of_le hlt hb.size, ((bcell hb).1 _ _ hlt).trans c0⟩
theorem OwnI.ints {B : Nat} {w : World} {A : Option Addr} {c n : Nat} {l : List Nat} (h : OwnI B w (.slice A n c) l) : IntsAt w A l := by
  have h0 : w.ownsRow B 3 1 (.slice A n c) l.length (iv l) := h
  rcases h0.2 with ⟨e, h0⟩ | ⟨g, cap, cur, e, h2, hgg, h3, h4, _⟩
  · intro i hi; omega
  · injection e with e1 e2 e3
    subst e1 e2 e3
    have hs := Ap.SrcAt.own h0 (iv_one l)
    intro i hi
    obtain ⟨b, off, e, hb, c0⟩ := hs.at_ i (.int .i64 (l[i] : Nat)) (by unfold iv; rw [List.getElem?_map, List.getElem?_eq_getElem hi]; rfl)
    refine ⟨b, off, e, hb, ?_⟩
    rw [List.getElem?_eq_getElem hi]
    exact c0
theorem IntsAt.src {w : World} {A : Option Addr} {l : List Nat} (h : IntsAt w A l) : Ap.SrcAt w A 1 l.length (iv l) := ⟨by simp [iv], iv_one l, fun j u hu => by
  unfold iv at hu
  rw [List.getElem?_map] at hu
  obtain ⟨d, hd, rfl⟩ := Option.map_eq_some_iff.1 hu
  obtain ⟨hj, hd⟩ := List.getElem?_eq_some_iff.1 hd
  obtain ⟨b, off, e1, hb, c1⟩ := h j hj
  refine ⟨b, off, e1, hb, ?_⟩
  rw [c1, List.getElem?_eq_getElem hj, hd]; rfl⟩
theorem ints2 {w : World} {g : Nat} {x y : Nat} {T : TypeId} (h : Reg.Blk g #[.int .i64 (x : Nat), .int .i64 (y : Nat)] T w) : IntsAt w (some ⟨g, 0, none⟩) [x, y] := fun i hi => by
  obtain ⟨c, f, z⟩ := h.facts
  refine ⟨g, 0, rfl, z, ?_⟩
  rw [Nat.zero_add]
  rcases (by simp at hi; omega : i = 0 ∨ i = 1) with rfl | rfl
  · exact c 0
  · exact c 1
theorem app1I {w0 w : World} {B cap : Nat} {A0 : Option Addr} {l : List Nat} (x : Nat) (hown : OwnI B w (.slice A0 l.length cap) l) (hn : l.length + 1 ≤ 1000000) (hB : Below B w0 w) (hBw : B ≤ w.heap.size) :
    ∃ A' c' w', (Ap.appA #[61, 61] 61 #[.slice A0 l.length cap, .slice (some ⟨w.heap.size, 0, none⟩) 1 1]).run Tryz.prog (w.alloc (.cells #[.int .i64 (x : Nat)] 3)) = .ok (.slice A' (l ++ [x]).length c') w' ∧
      OwnI B w' (.slice A' (l ++ [x]).length c') (l ++ [x]) ∧ Below B w0 w' := by
  obtain ⟨i0, hi0, hz⟩ := Option.map_eq_some_iff.1 info_int
  simp only [Prod.mk.injEq] at hz
  obtain ⟨hz0, hz1, hz2⟩ := hz
  have hb1 : Below w.heap.size w (w.alloc (.cells #[.int .i64 (x : Nat)] 3)) := (Below.refl _ _).alloc (Nat.le_refl _) _
  have hs : Ap.SrcAt (w.alloc (.cells #[.int .i64 (x : Nat)] 3)) (some ⟨w.heap.size, 0, none⟩) 1 1 [.int .i64 (x : Nat)] := Ap.SrcAt.blk1 (Reg.Blk.new w _ _) rfl
  obtain ⟨A', c', w', hrun, ho, hgr, _⟩ := Ap.run_appX (c := 1) Tryz.underlying61 hi0 hz0 hz1 hz2 rfl (by omega) (by omega) 61 (Ap.own_below hown hb1) hs (fun e => by cases e) hn (by simp; omega)
  have e1 : (l ++ [x]).length = l.length + 1 := by simp
  refine ⟨A', c', w', by rw [e1]; exact hrun, ?_, (hB.trans (hb1.mono hBw)).grown hgr (by simp; omega) (fun k e => ?_)⟩
  · show World.ownsRow _ _ _ _ _ _ _
    rw [e1, show iv (l ++ [x]) = iv l ++ [.int .i64 (x : Nat)] by simp [iv]]
    exact ho
  · have h0 : w.ownsRow B 3 1 (.slice A0 l.length cap) l.length (iv l) := hown
    exact (World.ownsRow.lt h0 k e).1
theorem app2I {w0 w : World} {B cap : Nat} {A0 : Option Addr} {l : List Nat} (x y : Nat) (hown : OwnI B w (.slice A0 l.length cap) l) (hn : l.length + 2 ≤ 1000000) (hB : Below B w0 w) (hBw : B ≤ w.heap.size) :
    ∃ A' c' w', (Ap.appA #[61, 61] 61 #[.slice A0 l.length cap, .slice (some ⟨w.heap.size, 0, none⟩) 2 2]).run Tryz.prog (w.alloc (.cells #[.int .i64 (x : Nat), .int .i64 (y : Nat)] 3)) = .ok (.slice A' (l ++ [x, y]).length c') w' ∧
      OwnI B w' (.slice A' (l ++ [x, y]).length c') (l ++ [x, y]) ∧ Below B w0 w' := by
  obtain ⟨i0, hi0, hz⟩ := Option.map_eq_some_iff.1 info_int
  simp only [Prod.mk.injEq] at hz
  obtain ⟨hz0, hz1, hz2⟩ := hz
  have hb1 : Below w.heap.size w (w.alloc (.cells #[.int .i64 (x : Nat), .int .i64 (y : Nat)] 3)) := (Below.refl _ _).alloc (Nat.le_refl _) _
  have hs := (ints2 (T := 3) (Reg.Blk.new w #[.int .i64 (x : Nat), .int .i64 (y : Nat)] 3)).src
  obtain ⟨A', c', w', hrun, ho, hgr, _⟩ := Ap.run_appX (c := 2) Tryz.underlying61 hi0 hz0 hz1 hz2 rfl (by omega) (by omega) 61 (Ap.own_below hown hb1) hs (fun e => by cases e) hn (by simp; omega)
  have e1 : (l ++ [x, y]).length = l.length + 2 := by simp
  refine ⟨A', c', w', by rw [e1]; exact hrun, ?_, (hB.trans (hb1.mono hBw)).grown hgr (by simp; omega) (fun k e => ?_)⟩
  · show World.ownsRow _ _ _ _ _ _ _
    rw [e1, show iv (l ++ [x, y]) = iv l ++ [.int .i64 (x : Nat), .int .i64 (y : Nat)] by simp [iv]]
    exact ho
  · have h0 : w.ownsRow B 3 1 (.slice A0 l.length cap) l.length (iv l) := hown
    exact (World.ownsRow.lt h0 k e).1

theorem str_at (l : Tx) (k : Nat) (hk : k < (str l).size) (hk2 : k < l.length) : (str l)[k] = l[k] := by
  show (str l).data[k]'_ = _
  simp [str]
theorem digs_step (m : Tx) (k : Nat) (hk : k < (str (sumL m)).size) : ∃ x : Nat, digV (str (sumL m))[k] = (x : Int) ∧ x ≤ 15 ∧ (dgs m).take (k + 1) = (dgs m).take k ++ [x] := by
  have hk2 : k < (sumL m).length := by rw [str_size] at hk; exact hk
  refine ⟨hxv (sumL m)[k], ?_, dgs_lt m _ (List.mem_map.2 ⟨_, List.getElem_mem hk2, rfl⟩), dgs_at m k hk2⟩
  exact (congrArg digV (str_at _ _ hk hk2)).trans (digV_sum m k hk2)
attribute [local go_sem ↓ high] Ap.builtin_appA in
set_option maxHeartbeats 4000000 in
theorem rdigits_any (m : Tx) (w : World) (hm : m.length ≤ 140737488351232) :
    Calls Tryz.prog 42 #[.string (str m)] w fun e w' => (∃ A c, e = .returned (.slice A 18 c) ∧ OwnI w.heap.size w' (.slice A 18 c) (dsT m)) ∧ Below w.heap.size w w' := by
  have HS := Lib.hid (rsumS m w hm)
  have HDg := Lib.hid (digs_step m)
  have HZ : (str (sumL m)).size = 16 := by rw [str_size, sumL_len]
  have HD16 := Lib.hid (dgs_len m)
  have HF : Hid (∀ L, L = dgs m → dsT m = L ++ [restL L / 16, restL L % 16]) := fun L h => by rw [h]; rfl
  have HD0 : Hid ((dgs m).take 0 = []) := rfl
  have HDe : Hid ((dgs m).take 16 = dgs m) := List.take_of_length_le (by rw [dgs_len]; omega)
  generalize str (sumL m) = S at *
  generalize dgs m = D at *
  generalize dsT m = DS at *
  clear hm
  go_enter Tryz.func42, Tryz.ntmps42
  go_wp2_with fail
  (with_reducible refine HS.out.mono ?_); rintro e w1 ⟨rfl, rfl⟩
  go_wp2_with fail
  go_loopw [4, 5, 6] (fun v r i wr => ∃ (k : Nat) (L : List Nat) (A : Option Addr) (c : Nat), k ≤ 16 ∧ L = D.take k ∧ v = .slice A L.length c ∧ r = .int .i64 (restL L : Nat) ∧ i = .int .i64 k ∧ OwnI w1.heap.size wr (.slice A L.length c) L ∧ Below w1.heap.size w1 wr) (fun _ _ i _ => 16 - (intOf i).toNat)
  case atStart => exact ⟨0, [], none, 0, by omega, HD0.out.symm, rfl, rfl, rfl, OwnI.nil _ _, Below.refl _ _⟩
  case round =>
    obtain ⟨k, L, A, c, hk, hL, rfl, rfl, rfl, ho, hbw⟩ := hrel
    have HL := Lib.hid hL
    have HO := Lib.hid ho
    have HB := Lib.hid hbw
    have hLk : L.length = k := by rw [hL, List.length_take, HD16.out]; omega
    have hRl := restL_le L
    clear hL ho hbw
    by_cases hlt : k < 16
    · obtain ⟨x, hx, hx15, hT⟩ := HDg.out k (by omega)
      have hki : (k : Int) < (S.size : Int) := by omega
      have hk0 : (0 : Int) ≤ (k : Int) := by omega
      have hks : k < S.size := by omega
      have hji : decide ((k : Int) < (S.size : Int)) = true := decide_eq_true hki
      have HQ := digit_any S[k] wr
      rw [hx] at HQ
      have HQ := Lib.hid HQ
      obtain ⟨A3, c3, w3, hrun, ho3, hL3⟩ := app1I x HO.out (by omega) HB.out HB.out.size
      rw [show (L ++ [x]).length = L.length + 1 by simp] at hrun
      have HLV : Hid ((L ++ [x]).length = L.length + 1) := by unfold Hid; simp
      have HRs := restL_snoc L x
      have hw1 : wrap64 (wrap64 ((restL L : Int) + 15) - (x : Int)) = ((restL (L ++ [x]) : Nat) : Int) := by rw [IntWalk.wrap64_in ((restL L : Int) + 15) (by omega), IntWalk.wrap64_in _ (by omega), HRs]; omega
      have HL2 : Hid (L ++ [x] = D.take (k + 1)) := by unfold Hid; rw [hT, HL.out]
      have HO3 := Lib.hid ho3
      have HL3 := Lib.hid hL3
      have HLk := Lib.hid hLk
      have HW := Lib.hid hw1
      clear hx hT ho3 hL3 HRs hLk hw1
      generalize restL L = R at *
      go_wp2_with fail
      (with_reducible refine HQ.out.mono ?_); rintro e w2 ⟨rfl, rfl⟩
      go_wp2_with fail
      exact ⟨⟨k + 1, L ++ [x], A3, c3, hlt, HL2.out, by rw [HLV.out], congrArg (Value.int IntKind.i64) HW.out, rfl, HO3.out, HL3.out⟩, by simp [intOf]; omega⟩
    · obtain rfl : k = 16 := by omega
      have hji : decide (((16 : Nat) : Int) < (S.size : Int)) = false := decide_eq_false (by omega)
      have hji2 : ¬ ((16 : Int) < (S.size : Int)) := by omega
      have hDS := HF.out L (by rw [HL.out]; exact HDe.out)
      obtain ⟨A3, c3, w3, hrun, ho3, hL3⟩ := app2I (restL L / 16) (restL L % 16) HO.out (by omega) HB.out HB.out.size
      have e3 : (L ++ [restL L / 16, restL L % 16]).length = 18 := by simp [hLk]
      rw [e3, hLk, show ((restL L / 16 : Nat) : Int) = (restL L : Int) / 16 by omega, show ((restL L % 16 : Nat) : Int) = (restL L : Int) % 16 by omega] at hrun
      rw [e3, ← hDS] at ho3
      have HO3 := Lib.hid ho3
      have HL3 := Lib.hid hL3
      clear ho3 hL3 hDS e3 HF
      generalize restL L = R at *
      go_wp2_with fail
      go_ret
      exact ⟨⟨_, _, rfl, HO3.out⟩, HL3.out⟩

end S
end Go.Proofs.YthdjdlndfkemiaaGreatDoor
