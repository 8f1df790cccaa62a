/- Trees: the walk of 'TreeIncludes'. -/
import Derived.Test.YtejhefmcinohhaaDoorUa
set_option linter.unusedSimpArgs false
set_option linter.unusedVariables false
set_option maxRecDepth 100000
namespace Go.Proofs.YtejhefmcinohhaaDoor
open Go.RowKit
namespace S

theorem run_appS2 (ty : TypeId) {w : World} {B cap c n : Nat} {A0 A : Option Addr} {l m : List Tx} (hown : Own B w (.slice A0 l.length cap) l) (hm : Lst w A n c m) (hn : l.length + n ≤ 1000000) (hB : B ≤ w.heap.size) (h0 : l = [] → A0 = none ∨ cap = 0) :
    ∃ A' c' w', (Builtin.append_ #[22, 22] ty #[.slice A0 l.length cap, .slice A n c]).run Tryd.prog w = .ok (.slice A' (l.length + n) c') w' ∧ Own B w' (.slice A' (l ++ m).length c') (l ++ m) ∧
      Reg.Keep (fun q => B ≤ q) w w' ∧ (∀ g x T, Reg.Blk g #[x] T w → Reg.Blk g #[x] T w') ∧ (l ++ m = [] → A' = none ∨ c' = 0) := by
  obtain ⟨hy, rfl, hcc, _, hA⟩ := hm
  obtain ⟨i0, hi0, hz⟩ := Option.map_eq_some_iff.1 info_str
  simp only [Prod.mk.injEq] at hz
  obtain ⟨hz0, hz1, hz2⟩ := hz
  by_cases hm : m = []
  · subst hm
    have hs : Src Tryd.prog i0.size 22 (.slice A 0 c) 0 [] w := by
      cases A with
      | none => exact Src.ofNil w Tryd.underlying22 c
      | some a => exact Src.ofSlice w Tryd.underlying22 a 0 c [] (by simp) (fun j u h => by simp at h) (fun u h => by simp at h)
    obtain ⟨A1, c1, e, _, hle, _, hA1, _⟩ := hown.parts
    injection e with e1 _ e3
    subst e1 e3
    have hr := run_append_nothing (P := Tryd.prog) w 22 22 ty _ i0 Tryd.underlying22 hi0 A0 l.length cap hle (.slice A 0 c) hs
    refine ⟨A0, cap, w, hr, by rw [List.append_nil]; exact hown, keep_refl _ _, fun _ _ _ h => h, by rw [List.append_nil]; exact h0⟩
  · have hpos : 0 < m.length := List.length_pos_iff.2 hm
    obtain ⟨A', c', w', hrun, ho, hgr, hbl⟩ := Ap.run_appX (c := c) Tryd.underlying22 hi0 hz0 hz1 hz2 rfl (by omega) (by omega) ty hown (src_of hy) hA hn hB
    have h0' : w.ownsRow B 9 1 (.slice A0 l.length cap) l.length (sv l) := hown
    refine ⟨A', c', w', hrun, ?_, ?_, fun g x T hk => ?_, fun e => absurd (List.append_eq_nil_iff.1 e).2 hm⟩
    · show World.ownsRow _ _ _ _ _ _ _
      rw [List.length_append, show sv (l ++ m) = sv l ++ sv m by simp [sv]]
      exact ho
    · refine ⟨hgr.os, hgr.tape, hgr.output, hgr.size, fun k hk hn => hgr.block k hk (fun e => hn ?_)⟩
      exact (h0'.lt k e.symm).1
    · by_cases hl : l = []
      · rcases h0 hl with hA0 | hc0
        · subst hA0
          exact (hgr.block g hk.lt (fun e => by simp [Value.ownBlock] at e)).trans hk
        · exact hk.keep (hbl (by omega))
      · have := List.length_pos_iff.2 hl
        exact Ap.app_beside h0' hgr hbl hk (by simp; omega)
theorem does_appS2 {ops : Array Oper} {o : Oper} {a : Act} {K : Act → World → Prop} {w : World} (hw : Region.wanted o (yielded ops a.tmps) = true) (s x : Operand) (ho : o.op = .call { callee := .builtin .append, args := #[s, x], argTypes := #[22, 22] })
    {B cap c n : Nat} {A0 A : Option Addr} {l m : List Tx} (hs : a.eval s = .slice A0 l.length cap) (hx : a.eval x = .slice A n c) (hown : Own B w (.slice A0 l.length cap) l) (hm : Lst w A n c m) (hn : l.length + n ≤ 1000000) (hB : B ≤ w.heap.size) (h0 : l = [] → A0 = none ∨ cap = 0)
    (h : ∀ A' c' w', Own B w' (.slice A' (l ++ m).length c') (l ++ m) → txR B w w' → (l ++ m = [] → A' = none ∨ c' = 0) → K (a.put o.dst (.slice A' (l ++ m).length c')) w') :
    Reg.Does Tryd.prog ops o a w K := by
  obtain ⟨A', c', w', hr, h2, h3, h4, h5⟩ := run_appS2 o.type hown hm hn hB h0
  unfold Reg.Does
  rw [if_pos hw]
  unfold Oper.wp execOp
  simp only [ho, resolve, invoke, builtin, Sem.run_bind, Sem.run_pure, Result.andThen_ok, List.map_toArray, List.map_cons, List.map_nil, hs, hx, hr]
  have := h A' c' w' h2 ⟨h3, h4⟩ h5
  rw [List.length_append, hm.len] at this
  exact this
def OwC (B : Nat) (w : World) (v : Value) (l : List Tx) : Prop := ∃ A c, v = .slice A l.length c ∧ Own B w v l ∧ (l = [] → A = none ∨ c = 0)
theorem OwC.below {B : Nat} {w w' : World} {v : Value} {l : List Tx} (h : OwC B w v l) (hb : Below w.heap.size w w') : OwC B w' v l := by
  obtain ⟨A, c, e, ho, h0⟩ := h
  exact ⟨A, c, e, ho.below hb, h0⟩
def inF (s : Tx) (d : Nat) (v : Value) (w : World) : Prop := (d = 17 → ∃ g, v = .slice (some ⟨g, 0, none⟩) 1 1 ∧ Reg.Blk g #[.string (str s)] 9 w) ∧ (d = 19 → v = .bool false)
theorem inF_s {B : Nat} {s : Tx} : ∀ d v w w', inF s d v w → txR B w w' → inF s d v w' := fun _ _ _ _ h k => ⟨fun e => by
  obtain ⟨g, e1, hk⟩ := h.1 e
  exact ⟨g, e1, k.2 _ _ _ hk⟩, h.2⟩
def inT (B : Nat) (p : List Tx) (s : Tx) : List Value → World → Prop
  | [], _ => True
  | [v0], w => OwC B w v0 []
  | [_, v1], w => OwC B w v1 p
  | _ :: _ :: v2 :: _, w => OwC B w v2 (p ++ [s])
theorem inT_s {B : Nat} {p : List Tx} {s : Tx} : ∀ vs w w', inT B p s vs w → Below w.heap.size w w' → inT B p s vs w' := fun vs w w' h hb => by
  match vs, h with
  | [], _ => trivial
  | [v0], h => exact OwC.below h hb
  | [_, v1], h => exact OwC.below h hb
  | _ :: _ :: v2 :: _, h => exact OwC.below h hb

theorem inc_yes (l : List Tx) (i : Nat) (hi : i < l.length) (hl : l.all isD = true) (hn : l.length ≤ 1000000) : checkB (rootT l) l.length i l[i] (pathT l i) = true := by
  unfold checkB
  have e1 : decide ((l.length : Int) ≤ 1000000) = true := decide_eq_true (by omega)
  have e2 : decide ((0 : Int) ≤ (i : Int)) = true := decide_eq_true (by omega)
  have e3 : decide ((i : Int) < (l.length : Int)) = true := decide_eq_true (by omega)
  rw [e1, e2, e3, path_dig l.length l i rfl hl, List.all_eq_true.1 hl _ (List.getElem_mem hi), Int.toNat_natCast, Int.toNat_natCast, up_path l.length l i hi rfl, path_len l.length l i rfl]
  simp
theorem inc_no {r : Tx} {n i : Nat} {d : Tx} {p : List Tx} (h : p.length ≠ lenT n i) : checkB r n i d p = false := by
  unfold checkB
  rw [Int.toNat_natCast, Int.toNat_natCast, beq_eq_false_iff_ne.2 h, Bool.and_false]

attribute [local go_sem ↓ high] Ap.builtin_appA in
set_option maxHeartbeats 8000000 in
theorem includes_walk (A : Option Addr) (c : Nat) (l : List Tx) (kz : Int) (w : World)
    (hl : StrsAt w A l) (hn : (l.length ≤ c ∧ c ≤ maxLen) ∧ (A = none → c = 0)) (hb : ∀ t ∈ l, t.length ≤ maxLen) (hk : 0 ≤ kz ∧ kz ≤ 255) (hta : Tabs w) :
    Calls Tryd.prog 3 #[.slice A l.length c, .int .u8 kz] w fun e w' => e = .returned (.bool true) ∧ Below w.heap.size w w' := by
  obtain ⟨R, rfl⟩ := Int.eq_ofNat_of_zero_le hk.1
  have HT := Lib.hid hta
  have HL := Lib.hid (lst_of hl hn)
  have TL := Lib.hid (txb_of hb)
  have HH := Lib.hid (head_any w hta)
  have hR0 : (0 : Int) ≤ (R : Int) := by omega
  have hR1 : (R : Int) ≤ 255 := hk.2
  clear hta hl hn hb hk
  obtain ⟨n, hln⟩ : ∃ n, n = l.length := ⟨_, rfl⟩
  have HN := Lib.hid hln
  rw [← hln] at HL ⊢
  have hnl : n ≤ 9223372036854775807 := by have := HL.out.cap; have := HL.out.max; omega
  clear hln
  go_enter Tryd.func3, Tryd.ntmps3
  go_wp2_with fail
  (with_reducible refine HH.out.mono ?_); rintro e w1 ⟨rfl, hb1⟩
  have HB := Lib.hid hb1
  replace HT := Lib.hid (HT.out.below hb1)
  replace HL := Lib.hid (HL.out.below hb1)
  clear hb1 HH
  have HG := Lib.hid (good_L HL.out TL.out)
  go_wp2_with fail
  (with_reducible refine HG.out.mono ?_); rintro e w2 ⟨rfl, hb2⟩
  replace HB := Lib.hid (HB.out.trans (hb2.mono HB.out.size))
  replace HT := Lib.hid (HT.out.below hb2)
  replace HL := Lib.hid (HL.out.below hb2)
  clear hb2 HG
  cases hg : goodB l with
  | false =>
    go_wp2_with fail
    go_ret
    exact ⟨rfl, HB.out⟩
  | true =>
  have GA := Lib.hid (good_all hg)
  have GF := Lib.hid (good_few hg)
  clear hg
  by_cases hn0 : n = 0
  · subst hn0
    go_wp2_with fail
    go_ret
    exact ⟨rfl, HB.out⟩
  have hnz : ((n : Int) == 0) = false := by simp; omega
  have hnz' : ¬ (n : Int) = 0 := by omega
  obtain ⟨i, hi⟩ : ∃ i, i = R % n := ⟨_, rfl⟩
  have hrem : (R : Int) % (n : Int) = (i : Int) := by omega
  have hrem2 : Int.tmod (R : Int) (n : Int) = (i : Int) := by rw [Int.tmod_eq_emod_of_nonneg hR0]; exact hrem
  have hin : i < n := by rw [hi]; exact Nat.mod_lt _ (by omega)
  have HI := Lib.hid hin
  have hn20 : n ≤ 20 := by have := few_n GF.out; have := HN.out; omega
  have hiI : (i : Int) < (n : Int) := by omega
  have hi0 : (0 : Int) ≤ (i : Int) := by omega
  have hiw : IntKind.i64.wrap (i : Int) = (i : Int) := by rw [IntWalk.i64_left]; exact IntWalk.wrap64_in _ (by omega)
  have hil : i < l.length := by rw [← HN.out]; exact hin
  have YES := inc_yes l i hil GA.out (by have := HN.out; omega)
  have PLEN := path_len n l i HN.out.symm
  have PDIG := path_dig n l i HN.out.symm GA.out
  have PB := len_bits n i
  have PZ := len_zero n i (by omega)
  have PL5 := len_le n i 5 (by omega)
  rw [← HN.out] at YES
  obtain ⟨bb, off, eA, zb0, cx0⟩ := HL.out.at_ i hil
  obtain ⟨x, hx⟩ : ∃ x, x = l[i] := ⟨_, rfl⟩
  have hxD : isD x = true := by rw [hx]; exact List.all_eq_true.1 GA.out _ (List.getElem_mem hil)
  have hxs := isD_sm hxD
  unfold Sm at hxs
  have HXS : Hid (x.length ≤ 9223372036854775807) := by unfold Hid; omega
  have HCell : Hid (∀ W, Lst W A n c l → bb < W.heap.size ∧ W.cell? ⟨bb, off + i, none⟩ = some (.string (str x))) := fun W h => by
    obtain ⟨b', o', e', z', c'⟩ := h.at_ i hil
    rw [eA] at e'
    simp only [Option.some.injEq, Addr.mk.injEq, and_true] at e'
    obtain ⟨rfl, rfl⟩ := e'
    exact ⟨z', by rw [c', hx]⟩
  rw [← hx] at YES
  subst eA
  obtain ⟨p, hp⟩ : ∃ p, p = pathT l i := ⟨_, rfl⟩
  rw [← hp] at YES PLEN PDIG
  obtain ⟨q, hq⟩ : ∃ q, q = p.length := ⟨_, rfl⟩
  have HQ := Lib.hid (And.intro hq (And.intro hp PLEN))
  rw [← hq] at PLEN
  have HPD := Lib.hid PDIG
  have HY := Lib.hid YES
  have HBits : Hid (q ≤ bitsN n) := by unfold Hid; omega
  have HZ : Hid (q = 0 ↔ n = 1) := by unfold Hid; rw [PLEN]; exact PZ
  have hq5 : q ≤ 5 := by omega
  have hqL : q = lenT n i := PLEN
  have HQL := Lib.hid hqL
  clear hi hx hp hq hn0 YES PLEN PDIG PB PZ PL5 hqL hxD hxs zb0 cx0 hnz'
  have HRo := rooted_L HL.out (by omega) HT.out TL.out
  rw [rooted_all GA.out] at HRo
  have HRo := Lib.hid HRo
  have hrs := isD_sm (root_all GA.out)
  generalize rootT l = r at *
  clear hrs
  go_wp2_with fail
  (with_reducible refine HRo.out.mono ?_); rintro e w3 ⟨rfl, hb3⟩
  replace HB := Lib.hid (HB.out.trans (hb3.mono HB.out.size))
  replace HT := Lib.hid (HT.out.below hb3)
  replace HL := Lib.hid (HL.out.below hb3)
  clear hb3 HRo
  have HPa := Lib.hid (toLT (path_L i HL.out (by omega) HT.out GA.out HI.out) HQ.out.2.1.symm HQ.out.1.symm)
  go_wp2_with fail
  (with_reducible refine HPa.out.mono ?_); rintro e w4 ⟨⟨Ap', cp, rfl, hlp⟩, hb3⟩
  have HPp := Lib.hid hlp
  replace HB := Lib.hid (HB.out.trans (hb3.mono HB.out.size))
  replace HT := Lib.hid (HT.out.below hb3)
  replace HL := Lib.hid (HL.out.below hb3)
  clear hb3 hlp HPa
  have TPd : Hid (TxB p) := fun t ht => by have := isD_sm (List.all_eq_true.1 HPD.out t ht); unfold Sm at this; omega
  obtain ⟨zb, cx⟩ := HCell.out _ HL.out
  have HC := check_L r n i x HPp.out (by omega) HT.out TPd.out HXS.out
  rw [HY.out] at HC
  have HC := Lib.hid HC
  go_wp2_with fail
  (with_reducible refine HC.out.mono ?_); rintro e w5 ⟨rfl, hb3⟩
  replace HB := Lib.hid (HB.out.trans (hb3.mono HB.out.size))
  replace HT := Lib.hid (HT.out.below hb3)
  replace HL := Lib.hid (HL.out.below hb3)
  replace HPp := Lib.hid (HPp.out.below hb3)
  clear hb3 HC zb cx
  clear hrem hrem2 hR0 hR1
  go_wp2_with fail
  go_loop [10, 11] (fun a b => ∃ j k : Nat, a = .int .i64 j ∧ b = .int .i64 k ∧ k ≤ 20 ∧ j ≤ 20 ∧ j + k ≤ 20 ∧ j + bitsN k = bitsN n) (fun _ b => (intOf b).toNat)
  case atStart => exact ⟨0, n, rfl, rfl, by omega, by omega, by omega, by omega⟩
  case round =>
    obtain ⟨j, k, rfl, rfl, hk20, hj20, hjk, hbits⟩ := hrel
    have HBi := Lib.hid hbits
    clear hbits
    by_cases hk0 : 0 < k
    · have hk0' : (0 : Int) < (k : Int) := by omega
      obtain ⟨k2, hk2⟩ : ∃ k2, k2 = k / 2 := ⟨_, rfl⟩
      have hdv := tdiv2 k
      rw [← hk2] at hdv
      have hdv2 : (k : Int) / 2 = (k2 : Int) := by omega
      have hdw : IntKind.i64.wrap (k2 : Int) = (k2 : Int) := by rw [IntWalk.i64_left]; exact IntWalk.wrap64_in _ (by omega)
      have HK2 := Lib.hid hk2
      clear hk2
      go_wp2_with fail
      have hk2 := HK2.out
      refine ⟨⟨j + 1, k2, by go_num, by go_num, by omega, by omega, by omega, ?_⟩, by simp [intOf]; omega⟩
      have := bits_step hk0
      have := HBi.out
      rw [hk2]
      omega
    · obtain rfl : k = 0 := by omega
      have hqj : q ≤ j := by have := HBi.out; rw [bits_zero] at this; have := HBits.out; omega
      have hqj' : ¬ (q : Int) > (j : Int) := by omega
      have hqjd : decide (j < q) = false := decide_eq_false (by omega)
      obtain ⟨zb, cx⟩ := HCell.out _ HL.out
      go_wp2_with fail
      have hzM : ¬ w5.heap.size ≤ bb := by omega
      have KB : Hid (∀ W2, txR w5.heap.size w5 W2 → Below w5.heap.size w5 W2) := fun W2 h => keepGE h.1 (Nat.le_refl _)
      have HRN : Hid (∀ W, txR w5.heap.size w5 W → Calls Tryd.prog 10 #[.slice none 0 0] W fun e w' => e = .returned (.string (str empT)) ∧ Below W.heap.size W w') := fun W hW => by
        have h := rooted_L (Lst.empty W) (by omega) (HT.out.below (KB.out W hW)) (fun t ht => by simp at ht)
        rw [show rootedT ([] : List Tx) = empT from (by unfold rootedT; rw [if_pos (show ([] : List Tx).all isD = true from rfl), root_nil])] at h
        exact h
      have TPe : Hid (TxB (p ++ [empT])) := fun t ht => by
        rcases List.mem_append.1 ht with ht | ht
        · exact TPd.out t ht
        · obtain rfl := List.mem_singleton.1 ht
          have := emp_sm; unfold Sm at this; omega
      have HC2 : Hid (∀ W A' c', txR w5.heap.size w5 W → Lst W A' (q + 1) c' (p ++ [empT]) → Calls Tryd.prog 12 #[.string (str r), .int .i64 n, .int .i64 i, .string (str x), .slice A' (q + 1) c'] W fun e w' => e = .returned (.bool false) ∧ Below W.heap.size W w') := fun W A' c' hW hl => by
        have h := check_L r n i x hl (by omega) (HT.out.below (KB.out W hW)) TPe.out HXS.out
        rw [inc_no (by rw [hl.len, HQL.out]; omega)] at h
        exact h
      have hplen : Hid (p.length = q) := HQ.out.1.symm
      refine RegR.wp_region_eff (txR w5.heap.size) (inF empT) (inT w5.heap.size p empT) (by kernel_rfl) (by kernel_rfl) txR_t txR_b inF_s inT_s trivial ?_
      simp only
      iterate 13
        apply RegR.SeqE.val
        rotate_left 2
        · intro δ W hW hkn K hK
          obtain ⟨hc, hf, _⟩ := Reg.kcell hW.1
          simp only [Act.put, List.setIfInBounds_toArray, List.set_cons_zero, List.set_cons_succ] at hK
          unfold Reg.Does
          go_simp
          try simp only [IntWalk.i64_left]
          first
            | exact hK _ (Below.refl _ _)
            | (trace_state; fail)
        rotate_left 1
        · intro δ δ' hd; first | rfl | (simp only [hd _ (show Reg.reach _ 12 _ _ = true by kernel_rfl)])
        · intro x w; first | exact trivial | (intro e; exact absurd e (by decide)) | exact ⟨fun e => absurd e (by decide), fun e => absurd e (by decide)⟩
        simp only [Act.put, List.setIfInBounds_toArray, List.set_cons_zero, List.set_cons_succ, List.nil_append, List.cons_append, Nat.reduceAdd, Nat.zero_add]
      refine RegR.SeqE.eff (fun e h => by simp at h) (fun δ W2 hW hkn hT K hK => ?_) ?_
      · simp only [Act.put, List.setIfInBounds_toArray, List.set_cons_zero, List.set_cons_succ] at hK
        unfold Reg.Does
        go_simp
        exact hK _ _ (txR_b _ _ ((Below.refl _ _).alloc (Nat.le_refl _) _)) ⟨fun e => absurd e (by decide), fun e => absurd e (by decide)⟩ ⟨_, 0, rfl, ⟨rfl, .inr ⟨W2.heap.size, 0, #[], rfl, hW.1.size, Reg.heap_new _ _, Nat.le_refl _, Nat.zero_le _, rfl, rfl⟩⟩, fun _ => .inr rfl⟩
      simp only [Act.put, List.setIfInBounds_toArray, List.set_cons_zero, List.set_cons_succ, List.nil_append, List.cons_append, Nat.reduceAdd, Nat.zero_add]
      iterate 1
        apply RegR.SeqE.val
        rotate_left 2
        · intro δ W hW hkn K hK
          obtain ⟨hc, hf, _⟩ := Reg.kcell hW.1
          simp only [Act.put, List.setIfInBounds_toArray, List.set_cons_zero, List.set_cons_succ] at hK
          unfold Reg.Does
          go_simp
          try simp only [IntWalk.i64_left]
          first
            | exact hK _ (Below.refl _ _)
            | (trace_state; fail)
        rotate_left 1
        · intro δ δ' hd; first | rfl | (simp only [hd _ (show Reg.reach _ 12 _ _ = true by kernel_rfl)])
        · intro x w; first | exact trivial | (intro e; exact absurd e (by decide)) | exact ⟨fun e => absurd e (by decide), fun e => absurd e (by decide)⟩
        simp only [Act.put, List.setIfInBounds_toArray, List.set_cons_zero, List.set_cons_succ, List.nil_append, List.cons_append, Nat.reduceAdd, Nat.zero_add]
      refine RegR.SeqE.eff (fun e h => by simp at h; subst h; kernel_rfl) (fun δ W2 hW hkn hT K hK => ?_) ?_
      · obtain ⟨Aa, ca, e1, ho1, hz1⟩ := hT
        rw [e1] at ho1
        refine does_appS2 (by rfl) _ _ rfl e1 rfl ho1 (HPp.out.below (KB.out W2 hW)) (by simp; omega) hW.1.size hz1 ?_
        intro A' c' w' ho hr hz
        exact hK _ _ hr ⟨fun e => absurd e (by decide), fun e => absurd e (by decide)⟩ ⟨A', c', rfl, ho, hz⟩
      simp only [Act.put, List.setIfInBounds_toArray, List.set_cons_zero, List.set_cons_succ, List.nil_append, List.cons_append, Nat.reduceAdd, Nat.zero_add]
      iterate 1
        apply RegR.SeqE.val
        rotate_left 2
        · intro δ W hW hkn K hK
          obtain ⟨hc, hf, _⟩ := Reg.kcell hW.1
          simp only [Act.put, List.setIfInBounds_toArray, List.set_cons_zero, List.set_cons_succ] at hK
          unfold Reg.Does
          go_simp
          try simp only [IntWalk.i64_left]
          first
            | exact hK _ (Below.refl _ _)
            | (go_at_call 10; (with_reducible refine (HRN.out _ hW).mono ?_); rintro e w' ⟨rfl, hb⟩; exact hK _ hb)
            | (trace_state; fail)
        rotate_left 1
        · intro δ δ' hd; first | rfl | (simp only [hd _ (show Reg.reach _ 12 _ _ = true by kernel_rfl)])
        · intro x w; first | exact trivial | (intro e; exact absurd e (by decide)) | exact ⟨fun e => absurd e (by decide), fun e => absurd e (by decide)⟩
        simp only [Act.put, List.setIfInBounds_toArray, List.set_cons_zero, List.set_cons_succ, List.nil_append, List.cons_append, Nat.reduceAdd, Nat.zero_add]
      refine RegR.SeqE.new (fun δ W2 hW hkn K hK => ?_) ?_
      · simp only [Act.put, List.setIfInBounds_toArray, List.set_cons_zero, List.set_cons_succ] at hK
        unfold Reg.Does
        go_simp
        exact hK _ _ ((Below.refl _ _).alloc (Nat.le_refl _) _) ⟨fun _ => ⟨W2.heap.size, rfl, Reg.Blk.new _ _ _⟩, fun e => absurd e (by decide)⟩
      simp only [Act.put, List.setIfInBounds_toArray, List.set_cons_zero, List.set_cons_succ, List.nil_append, List.cons_append, Nat.reduceAdd, Nat.zero_add]
      refine RegR.SeqE.eff (fun e h => by simp at h; subst h; kernel_rfl) (fun δ W2 hW hkn hT K hK => ?_) ?_
      · obtain ⟨Aa, ca, e1, ho1, hz1⟩ := hT
        obtain ⟨g, e2, hg⟩ := (hkn 17 (by kernel_rfl)).1 rfl
        rw [e1] at ho1
        refine does_appS2 (m := [empT]) (by rfl) _ _ rfl e1 e2 ho1 (Lst.lit [empT] (n := 1) rfl (by omega) hg) (by rw [hplen.out]; omega) hW.1.size hz1 ?_
        intro A' c' w' ho hr hz
        exact hK _ _ hr ⟨fun e => absurd e (by decide), fun e => absurd e (by decide)⟩ ⟨A', c', rfl, ho, hz⟩
      simp only [Act.put, List.setIfInBounds_toArray, List.set_cons_zero, List.set_cons_succ, List.nil_append, List.cons_append, Nat.reduceAdd, Nat.zero_add]
      refine RegR.SeqE.eff (fun e h => by simp at h; subst h; kernel_rfl) (fun δ W2 hW hkn hT K hK => ?_) ?_
      · obtain ⟨Aa, ca, e1, ho1, hz1⟩ := hT
        simp only [Act.put, List.setIfInBounds_toArray, List.set_cons_zero, List.set_cons_succ] at hK
        have e9 : (p ++ [empT]).length = q + 1 := by rw [List.length_append, hplen.out]; rfl
        rw [e9] at e1
        rw [e1] at ho1 hK
        have hC := Lib.hid (HC2.out W2 Aa ca hW (ho1.lst' e9))
        have HO1 := Lib.hid ho1
        clear ho1 hz1
        unfold Reg.Does
        rw [e1]
        go_simp
        (with_reducible refine hC.out.mono ?_); rintro e w' ⟨rfl, hb⟩
        exact hK _ _ (txR_b _ _ hb) ⟨fun e => absurd e (by decide), fun _ => rfl⟩ ⟨Aa, ca, by rw [e1, e9], by rw [e1]; exact HO1.out.below hb, fun e => by simp at e⟩
      simp only [Act.put, List.setIfInBounds_toArray, List.set_cons_zero, List.set_cons_succ, List.nil_append, List.cons_append, Nat.reduceAdd, Nat.zero_add]
      refine RegR.SeqE.val (fun _ => .bool false) (fun _ _ _ => rfl) (fun _ _ => ⟨fun e => absurd e (by decide), fun e => absurd e (by decide)⟩) (fun δ W hW hkn K hK => ?_) ?_
      · have e7 := (hkn 19 (by kernel_rfl)).2 rfl
        simp only [Act.put, List.setIfInBounds_toArray, List.set_cons_zero, List.set_cons_succ] at hK
        rw [e7] at hK
        unfold Reg.Does
        rw [e7]
        go_simp
        exact hK _ (Below.refl _ _)
      simp only [Act.put, List.setIfInBounds_toArray, List.set_cons_zero, List.set_cons_succ, List.nil_append, List.cons_append, Nat.reduceAdd, Nat.zero_add]
      refine RegR.SeqE.nil (fun δ W hW _ _ => ?_)
      generalize δ 13 = u71
      generalize δ 15 = u73
      generalize δ 17 = u75
      generalize δ 18 = u76
      generalize δ 19 = u77
      have hb6 := KB.out W hW
      replace HB := Lib.hid (HB.out.trans (hb6.mono HB.out.size))
      replace HT := Lib.hid (HT.out.below hb6)
      replace HL := Lib.hid (HL.out.below hb6)
      replace HPp := Lib.hid (HPp.out.below hb6)
      clear hW hb6 zb cx hzM KB HRN HC2 TPe
      go_wp2_with fail
      by_cases hn1 : n = 1
      · have hq0 : q = 0 := HZ.out.2 hn1
        subst hq0
        subst hn1
        refine Reg.wp_region_seq (by kernel_rfl) (by kernel_rfl) ?_
        simp only
        iterate 33
          apply Reg.SeqOK.val
          · intro γ W hW K hK
            obtain ⟨hc, hf, _⟩ := bcell hW
            simp only [Act.put, List.setIfInBounds_toArray, List.set_cons_zero, List.set_cons_succ] at hK
            unfold Reg.Does
            go_simp
            try simp only [IntWalk.i64_left]
            first
              | exact hK _ (Below.refl _ _)
              | (trace_state; fail)
          simp only [Act.put, List.setIfInBounds_toArray, List.set_cons_zero, List.set_cons_succ, List.nil_append, List.cons_append, Nat.reduceAdd, Nat.zero_add]
        refine Reg.SeqOK.nil (by kernel_rfl) (fun γ W2 hW _ _ _ => ?_)
        have HBF := Lib.hid (HB.out.trans (hW.mono HB.out.size))
        clear hW
        go_wp2_with fail
        go_ret
        exact ⟨rfl, HBF.out⟩
      · have hq0 : ¬ q = 0 := fun h => hn1 (HZ.out.1 h)
        obtain ⟨q1, rfl⟩ : ∃ q1, q = q1 + 1 := ⟨q - 1, by omega⟩
        have hnb : ((n : Int) == 1) = false := by simp; omega
        have hqb : (((q1 : Int) + 1) == 0) = false := by simp; omega
        have hqb' : ¬ (q1 : Int) + 1 = 0 := by omega
        have hn1' : ¬ (n : Int) = 1 := by omega
        obtain ⟨A1, hsl, ht⟩ := to_L (k := q1) HPp.out (by omega)
        have HC3 : Hid (∀ W2 : World, Below W.heap.size W W2 → Calls Tryd.prog 12 #[.string (str r), .int .i64 n, .int .i64 i, .string (str x), .slice A1 q1 cp] W2 fun e w' => e = .returned (.bool false) ∧ Below W2.heap.size W2 w') := fun W2 hb => by
          have h := check_L r n i x (ht.below hb) (by omega) (HT.out.below hb) (fun t ht => TPd.out t (List.mem_of_mem_take ht)) HXS.out
          rw [inc_no (by rw [ht.len, ← HQL.out]; omega)] at h
          exact h
        have hj6 : (q1 : Int) < (q1 : Int) + 1 := by omega
        have hsub := sub1 (n := q1) (by omega)
        have hw64 : IntKind.i64.wrap (q1 : Int) = (q1 : Int) := by rw [IntWalk.i64_left]; exact IntWalk.wrap64_in _ (by omega)
        have hj0 : (0 : Int) ≤ (q1 : Int) := by omega
        obtain ⟨zb, cx⟩ := HCell.out _ HL.out
        clear ht hq0 hn1
        refine Reg.wp_region_seq (by kernel_rfl) (by kernel_rfl) ?_
        simp only
        iterate 33
          apply Reg.SeqOK.val
          · intro γ W hW K hK
            obtain ⟨hc, hf, _⟩ := bcell hW
            simp only [Act.put, List.setIfInBounds_toArray, List.set_cons_zero, List.set_cons_succ] at hK
            unfold Reg.Does
            go_simp
            try simp only [IntWalk.i64_left]
            first
              | exact hK _ (Below.refl _ _)
              | (go_at_call 12; (with_reducible refine (HC3.out _ hW).mono ?_); rintro e w' ⟨rfl, hb⟩; exact hK _ hb)
              | (trace_state; fail)
          simp only [Act.put, List.setIfInBounds_toArray, List.set_cons_zero, List.set_cons_succ, List.nil_append, List.cons_append, Nat.reduceAdd, Nat.zero_add]
        refine Reg.SeqOK.nil (by kernel_rfl) (fun γ W2 hW _ _ _ => ?_)
        have HBF := Lib.hid (HB.out.trans (hW.mono HB.out.size))
        clear hW
        go_wp2_with fail
        go_ret
        exact ⟨rfl, HBF.out⟩

end S
end Go.Proofs.YtejhefmcinohhaaDoor
