/- Trees: 'slices.Clone' of strings. -/
import Derived.Test.YtejhefmcinohhaaGreatDoorTf
import Derived.Test.YtejhefmcinohhaaGreatDoorAx
set_option linter.unusedSimpArgs false
set_option linter.unusedVariables false
set_option maxRecDepth 100000
namespace Go.Proofs.YtejhefmcinohhaaGreatDoor
open Go.RowKit
namespace S

/-- A copy of strings, in a block of its own. -/
def Fresh (w w' : World) (v : Value) (l : List Tx) : Prop := ∃ A c, v = .slice A l.length c ∧ StrsAt w' A l ∧ l.length ≤ c ∧ c ≤ 9223372036854775807 ∧ (A = none → c = 0) ∧ ∀ b off, A = some ⟨b, off, none⟩ → w.heap.size ≤ b ∧ b < w'.heap.size
theorem info_str : (Tryz.prog.info? 9).map (fun i => (i.zero, i.size, i.bytes)) = some (some (.string ByteArray.empty), 1, 16) := by kernel_rfl
attribute [local go_sem ↓ high] Ap.builtin_appA in
theorem clone_any (l : List Tx) (A : Option Addr) (c : Nat) (w : World) (hn : l.length ≤ 1000000) (hl : StrsAt w A l) (hc : l.length ≤ c) (hc2 : c ≤ 9223372036854775807) (hA : A = none → c = 0) :
    Calls Tryz.prog 31 #[.slice A l.length c] w fun e w' => (∃ v, e = .returned v ∧ Fresh w w' v l) ∧ Below w.heap.size w w' := by
  have HL := Lib.hid hl
  have HC := Lib.hid (And.intro hc (And.intro hc2 hA))
  obtain ⟨n, hq⟩ : ∃ n, n = l.length := ⟨_, rfl⟩
  have HN := Lib.hid hq
  rw [← hq] at hn ⊢
  clear hl hc hc2 hA hq
  cases A with
  | none =>
    have he : ∀ w, (binOp .eql 22 (.slice none n c) (.slice none 0 0)).run Tryz.prog w = .ok (.bool true) w := fun w => run_eql_nil_slice w _ _ none n c 0 0 Tryz.underlying22
    go_enter Tryz.func31, Tryz.ntmps31
    go_wp2_with fail
    refine bodyPost_ret (v := .slice none 0 0) (by simp [results, Tryz.results31, go_sem]) rfl ⟨⟨_, rfl, ?_⟩, Below.refl _ _⟩
    have h0 : l.length = 0 := by have := HC.out.1; have := HC.out.2.2 trivial; omega
    refine ⟨none, 0, by rw [h0], fun i hi => by omega, by omega, by omega, fun _ => rfl, fun b off e => by cases e⟩
  | some a =>
    have he : ∀ w, (binOp .eql 22 (.slice (some a) n c) (.slice none 0 0)).run Tryz.prog w = .ok (.bool false) w := fun w => run_eql_nil_slice w _ _ (some a) n c 0 0 Tryz.underlying22
    obtain ⟨i0, hi0, hz⟩ := Option.map_eq_some_iff.1 info_str
    simp only [Prod.mk.injEq] at hz
    obtain ⟨hz0, hz1, hz2⟩ := hz
    have hb1 : Below w.heap.size w (w.alloc (.cells #[] 9)) := (Below.refl _ _).alloc (Nat.le_refl _) _
    have hown : (w.alloc (.cells #[] 9)).ownsRow w.heap.size 9 1 (.slice (some ⟨w.heap.size, 0, none⟩) 0 0) 0 [] := ⟨rfl, .inr ⟨w.heap.size, 0, #[], rfl, Nat.le_refl _, Reg.heap_new _ _, Nat.le_refl _, Nat.zero_le _, rfl, rfl⟩⟩
    obtain ⟨A', c', w', hrun, ho, hgr, _⟩ := Ap.run_appX (c := c) Tryz.underlying22 hi0 hz0 hz1 hz2 rfl (by omega) (by omega) 22 hown (src_of (HL.out.below hb1)) (fun e => by cases e) (by have := HN.out; omega) (Nat.le_of_lt (by simp))
    rw [Nat.zero_add, ← HN.out] at hrun
    have hrun := Ap.run_of hrun
    have HO := Lib.hid ho
    have HG := Lib.hid hgr
    clear ho hgr
    go_enter Tryz.func31, Tryz.ntmps31
    go_wp2_with fail
    go_ret
    have hbw : Below w.heap.size w w' := hb1.grown HG.out (Nat.le_of_lt (by simp)) (fun k e => by simp [Value.ownBlock] at e; omega)
    have hs := of_src (Ap.SrcAt.own (B := w.heap.size) (e := 9) (c := c') (n := l.length) (A := A') (xs := sv l) (by have h := HO.out; rw [Nat.zero_add] at h; exact h) (fun u hu => by obtain ⟨t, _, rfl⟩ := List.mem_map.1 hu; rfl))
    have hfin : l.length ≤ c' ∧ c' ≤ 9223372036854775807 ∧ (A' = none → c' = 0) ∧ ∀ b off, A' = some ⟨b, off, none⟩ → w.heap.size ≤ b ∧ b < w'.heap.size := by
      rcases HO.out.2 with ⟨h1, h2⟩ | ⟨g, cap, cur, h1, h2, hgg, h3, h4, _⟩
      · injection h1 with e1 e2 e3
        subst e1 e3
        exact ⟨by omega, by omega, fun _ => rfl, fun b off e => by cases e⟩
      · injection h1 with e1 e2 e3
        subst e1 e3
        unfold maxLen at h4
        refine ⟨by omega, h4, (fun e => by cases e), fun b off e => ?_⟩
        simp only [Option.some.injEq, Addr.mk.injEq] at e
        have hlt := (Array.getElem?_eq_some_iff.1 hgg).1
        omega
    refine ⟨⟨_, rfl, A', c', ?_, hs, hfin.1, hfin.2.1, hfin.2.2.1, hfin.2.2.2⟩, hbw⟩
    rw [HN.out]; rfl

end S
end Go.Proofs.YtejhefmcinohhaaGreatDoor

/- Trees: 'Check'. -/
namespace Go.Proofs.YtejhefmcinohhaaGreatDoor
open Go.RowKit
namespace S

theorem isD_ne {t : Tx} (h : isD t = true) : t ≠ [] := by
  rintro rfl
  revert h; decide
/-- What 'Check' answers. -/
def checkB (root : Tx) (n i : Int) (d : Tx) (p : List Tx) : Bool :=
  decide (n ≤ 1000000) && decide (0 ≤ i) && decide (i < n) && p.all isD && isD d && (upT n.toNat i.toNat d p.reverse == root) && (p.length == lenT n.toNat i.toNat)
theorem check_done {n i : Nat} {q : List Tx} (h : ∀ t ∈ q, isD t = true) : (!popsS (lenT n i) q false && (q.drop (lenT n i)).isEmpty) = (q.length == lenT n i) := by
  rw [pops_spec _ _ _ (fun t ht => isD_ne (h t ht))]
  simp only [Bool.false_or]
  rw [Bool.eq_iff_iff]
  simp
  omega

set_option maxHeartbeats 1000000 in
theorem treecheck_any (root : Tx) (n i : Int) (d : Tx) (l : List Tx) (A : Option Addr) (c : Nat) (w : World) (hn : l.length ≤ 1000000) (ht : Tabs w) (hl : StrsAt w A l) (hc : l.length ≤ c) (hc2 : c ≤ 9223372036854775807) (hA : A = none → c = 0) (hs : ∀ t ∈ l, t.length ≤ 9223372036854775807) (hd : d.length ≤ 9223372036854775807) :
    Calls Tryz.prog 15 #[.string (str root), .int .i64 n, .int .i64 i, .string (str d), .slice A l.length c] w fun e w' => e = .returned (.bool (checkB root n i d l)) ∧ Below w.heap.size w w' := by
  have HC := Lib.hid (fun (W : World) (hb : Below w.heap.size w W) => clone_any l A c W hn (hl.below hb) hc hc2 hA)
  have HT := Lib.hid ht
  have HN := Lib.hid (And.intro hn (And.intro hs hd))
  clear ht hl hs hA hc hc2
  go_enter Tryz.func15, Tryz.ntmps15
  go_wp2_with fail
  have hb0 : Below w.heap.size w (w.alloc (.cells #[.string (str d)] 9)) := (Below.refl _ _).alloc (Nat.le_refl _) _
  (with_reducible refine (HC.out _ hb0).mono ?_); rintro e w1 ⟨⟨v, rfl, A', c', rfl, hs1, hc1, hc3, hA1, hf1⟩, hb1⟩
  have G0 : Reg.Blk w.heap.size #[.string (str d)] 9 w1 := Reg.Blk.new1 hb1
  have hb01 : Below w.heap.size w w1 := hb0.trans (hb1.mono hb0.size)
  have HB := Lib.hid hb01
  have HG0 := Lib.hid G0
  have HS := Lib.hid hs1
  have HF := Lib.hid (And.intro hc1 (And.intro hc3 (And.intro hA1 hf1)))
  obtain ⟨c0, f0, z0⟩ := G0.facts
  clear hb0 hb1 hb01 G0 hs1 hc1 hc3 hA1 hf1 HC
  have HP := Lib.hid (fun (W : World) (hb : Below w1.heap.size w1 W) => proper_any A' c' l W (HS.out.below hb) (by have := HN.out.1; omega) HN.out.2.1)
  have HI := Lib.hid (fun (W : World) => is_str d W HN.out.2.2)
  by_cases hn1 : n ≤ 1000000
  case neg =>
    have hn1' : n > 1000000 := by omega
    have E : Hid (checkB root n i d l = false) := by unfold Hid checkB; simp [hn1]
    go_wp2_with fail
    go_ret
    exact ⟨by rw [E.out]; rfl, HB.out.alloc HB.out.size _⟩
  by_cases hi0 : 0 ≤ i
  case neg =>
    have hn1' : ¬ n > 1000000 := by omega
    have hi0' : i < 0 := by omega
    have E : Hid (checkB root n i d l = false) := by unfold Hid checkB; simp [hi0]
    go_wp2_with fail
    go_ret
    exact ⟨by rw [E.out]; rfl, HB.out.alloc HB.out.size _⟩
  by_cases hin : i < n
  case neg =>
    have hn1' : ¬ n > 1000000 := by omega
    have hi0' : ¬ i < 0 := by omega
    have hin' : i ≥ n := by omega
    have E : Hid (checkB root n i d l = false) := by unfold Hid checkB; simp [hin]
    go_wp2_with fail
    go_ret
    exact ⟨by rw [E.out]; rfl, HB.out.alloc HB.out.size _⟩
  have hn1' : ¬ n > 1000000 := by omega
  have hi0' : ¬ i < 0 := by omega
  have hin' : ¬ i ≥ n := by omega
  have hcl := (Reg.Blk.new w1 #[Value.slice A' l.length c'] 37).facts
  obtain ⟨c1, f1, z1⟩ := hcl
  have hb2 : Below w1.heap.size w1 (w1.alloc (.cells #[.slice A' l.length c'] 37)) := (Below.refl _ _).alloc (Nat.le_refl _) _
  have HP1 := Lib.hid (HP.out _ hb2)
  go_wp2_with fail
  (with_reducible refine HP1.out.mono ?_); rintro e w2 ⟨rfl, hb3⟩
  have HB2 : Hid (Below w1.heap.size w1 w2) := hb2.trans (hb3.mono hb2.size)
  have GD : Hid (Reg.Blk w1.heap.size #[Value.slice A' l.length c'] 37 w2) := Reg.Blk.new1 hb3
  have HG2 : Hid (Reg.Blk w.heap.size #[.string (str d)] 9 w2) := HG0.out.keep HB2.out
  clear hb3 HP1 hb2 c1 f1 z1 c0 f0 z0
  have hbw : Below w.heap.size w w2 := HB.out.trans (HB2.out.mono HB.out.size)
  have HBW := Lib.hid hbw
  clear hbw
  cases hq : l.all isD with
  | false =>
    have E : Hid (checkB root n i d l = false) := by unfold Hid checkB; simp [hq]
    go_wp2_with fail
    go_ret
    exact ⟨by rw [E.out]; rfl, HBW.out⟩
  | true =>
  obtain ⟨c0, f0, z0⟩ := HG2.out.facts
  go_wp2_with fail
  (with_reducible refine (HI.out w2).mono ?_); rintro e w3 ⟨rfl, hb3⟩
  have HBW3 : Hid (Below w.heap.size w w3) := HBW.out.trans (hb3.mono HBW.out.size)
  have GD3 : Hid (Reg.Blk w1.heap.size #[Value.slice A' l.length c'] 37 w3) := GD.out.keep hb3
  have HG3 : Hid (Reg.Blk w.heap.size #[.string (str d)] 9 w3) := HG2.out.keep hb3
  have HS3 : Hid (StrsAt w3 A' l) := HS.out.below (HB2.out.trans (hb3.mono HB2.out.size))
  clear hb3 c0 f0 z0 HI HP
  cases hqd : isD d with
  | false =>
    have E : Hid (checkB root n i d l = false) := by unfold Hid checkB; simp [hqd]
    go_wp2_with fail
    go_ret
    exact ⟨by rw [E.out]; rfl, HBW3.out⟩
  | true =>
  obtain ⟨N, rfl⟩ := Int.eq_ofNat_of_zero_le (show 0 ≤ n by omega)
  obtain ⟨I, rfl⟩ := Int.eq_ofNat_of_zero_le hi0
  go_wp2_with fail
  obtain ⟨W, hW⟩ : ∃ W, W = (((w3.alloc (.cells #[Value.pointer (some ⟨w1.heap.size, 0, none⟩), Value.bool false] 47)).alloc (.cells #[Value.pointer (some ⟨w3.heap.size, 0, none⟩)] 44)).alloc (.cells #[upF w.heap.size (w3.heap.size + 1) (w3.heap.size + 1 + 1)] 48)) := ⟨_, rfl⟩
  rw [← hW]
  obtain ⟨b1, b2, b3⟩ := Reg.Blk.new3 (Below.refl _ (((w3.alloc (.cells #[Value.pointer (some ⟨w1.heap.size, 0, none⟩), Value.bool false] 47)).alloc (.cells #[Value.pointer (some ⟨w3.heap.size, 0, none⟩)] 44)).alloc (.cells #[upF w.heap.size (w3.heap.size + 1) (w3.heap.size + 1 + 1)] 48)))
  rw [← hW] at b1 b2 b3
  have hb3W : Below w3.heap.size w3 W := by
    rw [hW]
    exact (((Below.refl _ _).alloc (Nat.le_refl _) _).alloc (by simp) _).alloc (by simp; omega) _
  have BW := Lib.hid (HBW3.out.trans (hb3W.mono HBW3.out.size))
  have hz3 := hb3W.size
  have hdl := GD3.out.lt
  have h0l := HG3.out.lt
  have hgl := HG0.out.lt
  have hp : PrfAt W w3.heap.size w1.heap.size l.reverse false := by
    refine ⟨b1, ⟨.inr rfl, A', c', ?_, ?_, by simpa using HF.out.1, HF.out.2.1, HF.out.2.2.1, fun b off e => ?_⟩, by omega⟩
    · rw [List.length_reverse]; exact GD3.out.keep hb3W
    · rw [List.reverse_reverse]; exact HS3.out.below hb3W
    · have := HF.out.2.2.2 b off e; omega
  have he : UpEnv W w.heap.size (w3.heap.size + 1) (w3.heap.size + 1 + 1) w3.heap.size w1.heap.size d _ _ _ := ⟨HG3.out.keep hb3W, b2, b3, by unfold prM; omega, by unfold prM; omega, by unfold prM; omega⟩
  have hw1 : w.heap.size ≤ w1.heap.size := HB.out.size
  have hkb : Hid (∀ W', Reg.Keep (prM w3.heap.size w1.heap.size) W W' → Below w.heap.size W W') := fun W' hk => hk.below fun k hk => ⟨Nat.lt_of_lt_of_le hk BW.out.size, by unfold prM; omega⟩
  have hds := fun t (ht : t ∈ l.reverse) => List.all_eq_true.1 hq t (List.mem_reverse.1 ht)
  have HK := Lib.hid (chk_any w.heap.size (w3.heap.size + 1) (w3.heap.size + 1 + 1) w3.heap.size w1.heap.size d _ _ _ (isD_sm hqd) N I l.reverse false W (by omega) (by omega) (HT.out.below BW.out) hp (by have := HN.out.1; simp; omega) (fun t ht => isD_sm (hds t ht)) he (fun W' hk => HT.out.below (BW.out.trans (hkb.out W' hk))))
  have E : Hid (checkB root N I d l = ((upT N I d l.reverse == root) && (!popsS (lenT N I) l.reverse false && (l.reverse.drop (lenT N I)).isEmpty))) := by
    unfold Hid
    rw [check_done hds, List.length_reverse]
    unfold checkB
    have e1 : decide ((N : Int) ≤ 1000000) = true := decide_eq_true (by omega)
    have e2 : decide ((0 : Int) ≤ (I : Int)) = true := decide_eq_true (by omega)
    have e3 : decide ((I : Int) < (N : Int)) = true := decide_eq_true (by omega)
    rw [e1, e2, e3, hq, hqd]
    simp
  have HE := Lib.hid he
  have hstl := str_toList
  clear hW b1 b2 b3 hb3W hz3 hdl h0l hgl hp he hw1 hds
  (with_reducible refine HK.out.mono ?_); rintro e w5 ⟨rfl, hp5, hk5⟩
  have hv5 := (HE.out.keep hk5).v
  obtain ⟨cv, fv, zv⟩ := hv5.facts
  have HD := Lib.hid (done_any _ _ _ _ w5 hp5 (by have := HN.out.1; simp; omega))
  have BF := Lib.hid (BW.out.trans (hkb.out w5 hk5))
  have E2 := Lib.hid E.out
  generalize upT N I d l.reverse = u at *
  generalize (!popsS (lenT N I) l.reverse false && (l.reverse.drop (lenT N I)).isEmpty) = dn at *
  clear hp5 hk5 hv5 HE HK
  cases hur : (u == root) with
  | false =>
    rw [hur] at E2
    go_wp2_with fail
    go_ret
    exact ⟨by rw [E2.out]; rfl, BF.out⟩
  | true =>
    rw [hur] at E2
    go_wp2_with fail
    (with_reducible refine HD.out.mono ?_); rintro e w6 ⟨rfl, rfl⟩
    go_wp2_with fail
    go_ret
    exact ⟨by rw [E2.out]; simp, BF.out⟩

end S
end Go.Proofs.YtejhefmcinohhaaGreatDoor
