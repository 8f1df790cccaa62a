/- Trees: the reference's 'digests', 'Root', 'length', 'long', 'Leaf'. -/
import Derived.Test.YthdjdlndfkemiaaGreatDoorTx
import Derived.Test.YthdjdlndfkemiaaGreatDoorRet
set_option linter.unusedSimpArgs false
set_option linter.unusedVariables false
set_option maxRecDepth 100000
namespace Go.Proofs.YthdjdlndfkemiaaGreatDoor
open Go.RowKit
namespace S

theorem rdigests_any (A : Option Addr) (c : Nat) (L : List Tx) (w : World) (hl : StrsAt w A L) (hn : L.length ≤ 9223372036854775807) (hs : ∀ t ∈ L, t.length ≤ 140737488351232) :
    Calls Tryz.prog 70 #[.slice A L.length c] w fun e w' => e = .returned (.bool (L.all isD)) ∧ w' = w := by
  have HL := Lib.hid hl
  have HS := Lib.hid hs
  clear hl hs
  go_enter Tryz.func70, Tryz.ntmps70
  go_wp2_with fail
  go_loop [3] (fun i => ∃ k : Nat, k ≤ L.length ∧ i = .int .i64 k ∧ prN L k = true) (fun i => L.length - (intOf i).toNat)
  case atStart => exact ⟨0, Nat.zero_le _, rfl, rfl⟩
  case round =>
    obtain ⟨k, hk, rfl, hg⟩ := hrel
    have HG := Lib.hid hg
    clear hg
    by_cases hlt : k < L.length
    · obtain ⟨b, off, hA, hb, c0⟩ := HL.out k hlt
      subst hA
      have hki : (k : Int) < (L.length : Int) := by omega
      have hk0 : (0 : Int) ≤ (k : Int) := by omega
      have HV : Hid (∀ v, isD L[k] = v → prN L (k + 1) = v ∧ (v = false → L.all isD = false)) := fun v h => ⟨by rw [prN_succ hlt, HG.out, h]; simp, fun hv => prN_false hlt (by rw [h, hv])⟩
      have hq := ris_any (str L[k]) w (by rw [str_size]; exact HS.out _ (List.getElem_mem hlt))
      rw [str_data] at hq
      have HQ := Lib.hid hq
      clear hq
      generalize L[k] = t at *
      generalize hv : isD t = v at *
      clear hv
      go_wp2_with fail
      (with_reducible refine HQ.out.mono ?_); rintro e w2 ⟨rfl, rfl⟩
      cases v with
      | true =>
        go_wp2_with fail
        refine ⟨⟨k + 1, by omega, by go_num, (HV.out _ rfl).1⟩, by simp [intOf]; omega⟩
      | false =>
        go_wp2_with fail
        go_ret
        exact ⟨by rw [(HV.out _ rfl).2 rfl]; rfl, rfl⟩
    · obtain rfl : k = L.length := by omega
      go_wp2_with fail
      go_ret
      exact ⟨by rw [← prN_all, HG.out]; rfl, rfl⟩
theorem rRoot_L {W : World} {A : Option Addr} {n c : Nat} {l : List Tx} (h : Lst W A n c l) (hn : n ≤ 1000000) (hs : ∀ t ∈ l, Sh t) :
    Calls Tryz.prog 40 #[.slice A n c] W fun e w' => e = .returned (if l.all isD then .tuple #[.string (str (rootT l)), .int .i64 0] else .tuple #[.string (str []), .int .i64 1]) ∧ Below W.heap.size W w' := by
  obtain ⟨h1, rfl, h3, h4, h5⟩ := h
  have HD := Lib.hid (rdigests_any A c l W h1 (by omega) (fun t ht => by have := hs t ht; unfold Sh at this; omega))
  have HR := Lib.hid (rroot_any l.length l A c W rfl hn h1 h3 h4 h5 hs)
  generalize l.all isD = q at *
  clear h1 h5 hs
  go_enter Tryz.func40, Tryz.ntmps40
  go_wp2_with fail
  (with_reducible refine HD.out.mono ?_); rintro e w1 ⟨rfl, rfl⟩
  cases q with
  | true =>
    go_wp2_with fail
    (with_reducible refine HR.out.mono ?_); rintro e w2 ⟨rfl, hb2⟩
    have HB2 := Lib.hid hb2
    clear hb2
    go_wp2_with fail
    refine bodyPost_ret (v := .tuple #[.string (str (rootT l)), .int .i64 0]) (by simp [results, Tryz.results40, go_sem]) rfl ⟨rfl, HB2.out⟩
  | false =>
    go_wp2_with fail
    refine bodyPost_ret (v := .tuple #[.string (str []), .int .i64 1]) (by simp [results, Tryz.results40, go_sem]; rfl) rfl ⟨rfl, Below.refl _ _⟩
theorem rleaf_any (s : Tx) (w : World) (hs : Sh s) : Calls Tryz.prog 49 #[.string (str s)] w fun e w' => e = .returned (.string (str (leaf s))) ∧ Below w.heap.size w w' := by
  have hf : fewB [leafT, s] 200 = true := by unfold Sh at hs; unfold fewB; simp [leafT]; omega
  have HQ : Hid (Calls Tryz.prog 50 #[.slice (some ⟨w.heap.size, 0, none⟩) 2 2] (w.alloc (.cells #[.string { data := #[108, 101, 97, 102] }, .string (str s)] 9)) fun e w' => e = .returned (.string (str (listL [leafT, s]))) ∧ Below w.heap.size w w') := Lib.hid (rlist_lit [leafT, s] w hf)
  go_enter Tryz.func49, Tryz.ntmps49
  go_wp2_with fail
  (with_reducible refine HQ.out.mono ?_); rintro e w1 ⟨rfl, hb1⟩
  have HB := Lib.hid hb1
  clear hb1
  go_wp2_with fail
  go_ret
  exact ⟨rfl, HB.out⟩
theorem len_small (n i : Nat) (h : n ≤ 1000000) : lenT n i ≤ 20 := len_le n i 20 (by omega)
theorem long_small (n m : Nat) (wh : Bool) (hm : 1 ≤ m) (h : n ≤ 1000000) : longT n m wh ≤ 21 := long_le n m wh 20 hm (by omega)

theorem rlength_any : ∀ (n i : Nat) (w : World), i < n → n ≤ 1000000 → Calls Tryz.prog 75 #[.int .i64 n, .int .i64 i] w fun e w' => e = .returned (.int .i64 (lenT n i : Nat)) ∧ w' = w := by
  intro n
  induction n using Nat.strongRecOn with
  | ind n ih =>
  intro i w hi hn
  have IH := Lib.hid ih
  clear ih
  by_cases h1 : n = 1
  · subst h1
    have HU := Lib.hid (len_one i (Nat.le_refl 1))
    go_enter Tryz.func75, Tryz.ntmps75
    go_wp2_with fail
    go_ret
    exact ⟨by rw [HU.out]; rfl, rfl⟩
  have h2 : 2 ≤ n := by omega
  obtain ⟨q1, q2, q3, _⟩ := hf_spec h2
  have HH := Lib.hid (rhalf_any n w h2 hn)
  obtain ⟨k, hk⟩ : ∃ k, k = hf n := ⟨_, rfl⟩
  rw [← hk] at HH q1 q2 q3
  have HK := Lib.hid hk
  have hn1 : ((n : Int) == 1) = false := by simp; omega
  clear hk h1
  by_cases hik : i < k
  · have hik' : (i : Int) < (k : Int) := by omega
    have HR := Lib.hid (IH.out k q2 i w hik (by omega))
    have HS := Lib.hid (len_small k i (by omega))
    have HE : Hid (lenT n i = 1 + lenT k i) := by unfold Hid; rw [len_left h2 (by rw [← HK.out]; exact hik), ← HK.out]
    generalize lenT k i = z at *
    have hz : IntKind.i64.wrap (1 + (z : Int)) = ((1 + z : Nat) : Int) := by rw [IntWalk.i64_left, IntWalk.wrap64_in _ (by have := HS.out; omega)]; omega
    go_enter Tryz.func75, Tryz.ntmps75
    go_wp2_with fail
    (with_reducible refine HH.out.mono ?_); rintro e w ⟨rfl, rfl⟩
    go_wp2_with fail
    (with_reducible refine HR.out.mono ?_); rintro e w ⟨rfl, rfl⟩
    go_wp2_with fail
    go_ret
    exact ⟨by rw [HE.out]; simp, rfl⟩
  · have hik' : ¬ (i : Int) < (k : Int) := by omega
    have hs1 := sub2 (n := n) (k := k) hn (by omega)
    have hs2 := sub2 (n := i) (k := k) (by omega) (by omega)
    have HR := Lib.hid (IH.out (n - k) (by omega) (i - k) w (by omega) (by omega))
    have HS := Lib.hid (len_small (n - k) (i - k) (by omega))
    have HE : Hid (lenT n i = 1 + lenT (n - k) (i - k)) := by unfold Hid; rw [len_right h2 (by rw [← HK.out]; exact hik), ← HK.out]
    generalize lenT (n - k) (i - k) = z at *
    have hz : IntKind.i64.wrap (1 + (z : Int)) = ((1 + z : Nat) : Int) := by rw [IntWalk.i64_left, IntWalk.wrap64_in _ (by have := HS.out; omega)]; omega
    go_enter Tryz.func75, Tryz.ntmps75
    go_wp2_with fail
    (with_reducible refine HH.out.mono ?_); rintro e w ⟨rfl, rfl⟩
    go_wp2_with fail
    (with_reducible refine HR.out.mono ?_); rintro e w ⟨rfl, rfl⟩
    go_wp2_with fail
    go_ret
    exact ⟨by rw [HE.out]; simp, rfl⟩
end S
end Go.Proofs.YthdjdlndfkemiaaGreatDoor

/- Trees: the reference's 'path', 'link'. -/
namespace Go.Proofs.YthdjdlndfkemiaaGreatDoor
open Go.RowKit
namespace S

theorem does_appV {ops : Array Oper} {o : Oper} {a : Act} {K : Act → World → Prop} {w : World} (hw : Region.wanted o (yielded ops a.tmps) = true) (s x : Operand) (ho : o.op = .call { callee := .builtin .append, args := #[s, x], argTypes := #[27, 27] })
    {B cap n c : Nat} {A0 A : Option Addr} {l m : List Tx} (hs : a.eval s = .slice A0 l.length cap) (hx : a.eval x = .slice A n c) (hown : Own B w (.slice A0 l.length cap) l) (hm : Lst w A n c m) (hn : l.length + n ≤ 1000000) (hB : B ≤ w.heap.size)
    (h : ∀ A' c' w', Own B w' (.slice A' (l ++ m).length c') (l ++ m) → Reg.Keep (fun q => B ≤ q) w w' → K (a.put o.dst (.slice A' (l ++ m).length c')) w') :
    Reg.Does Tryz.prog ops o a w K := by
  obtain ⟨i0, hi0, hz⟩ := Option.map_eq_some_iff.1 info_str
  simp only [Prod.mk.injEq] at hz
  obtain ⟨hz0, hz1, hz2⟩ := hz
  obtain ⟨h1, rfl, h3, h4, h5⟩ := hm
  refine Ap.does_appX Tryz.underlying27 hi0 hz0 hz1 hz2 rfl (by omega) (by omega) hw s x ho hs hx hown (src_of h1) h5 hn hB ?_
  intro A' c' w' ho' hg _
  have e1 : (l ++ m).length = l.length + m.length := by simp
  have := h A' c' w' (by
    show World.ownsRow _ _ _ _ _ _ _
    rw [e1, show sv (l ++ m) = sv l ++ sv m by simp [sv]]
    exact ho') ⟨hg.os, hg.tape, hg.output, hg.size, fun k hk hn => hg.block k hk (fun e => hn (by
      have h0 : w.ownsRow B 9 1 (.slice A0 l.length cap) l.length (sv l) := hown
      exact (h0.lt k e.symm).1))⟩
  rw [e1] at this
  exact this
def apF (B : Nat) (ps : List Tx) (x : Tx) (i j : Nat) (d : Nat) (v : Value) (w : World) : Prop := (d = i → ∃ A c, v = .slice A ps.length c ∧ Own B w v ps) ∧ (d = j → ∃ g, v = .slice (some ⟨g, 0, none⟩) 1 1 ∧ Reg.Blk g #[.string (str x)] 9 w)
theorem apF_s {B : Nat} {ps : List Tx} {x : Tx} {i j : Nat} : ∀ d v w w', apF B ps x i j d v w → Reg.Keep (fun _ => False) w w' → apF B ps x i j d v w' := fun _ _ _ _ h k => ⟨fun e => by
  obtain ⟨A, c, e1, ho⟩ := h.1 e
  exact ⟨A, c, e1, ho.below (keepN k)⟩, fun e => by
  obtain ⟨g, e1, hg⟩ := h.2 e
  exact ⟨g, e1, hg.keep (keepN k)⟩⟩
theorem path_small (l : List Tx) (i : Nat) (h : l.length ≤ 100000) : (pathT l i).length ≤ 20 := by rw [path_len l.length l i rfl]; exact len_small _ _ (by omega)
theorem link_small (l : List Tx) (m : Nat) (wh : Bool) (hm : 1 ≤ m) (h : l.length ≤ 100000) : (linkT l m wh).length ≤ 21 := by rw [link_len l.length l m wh rfl hm]; exact long_small _ _ _ hm (by omega)

set_option maxHeartbeats 2000000 in
theorem rpath_any : ∀ (n : Nat) (l : List Tx) (i : Nat) (A : Option Addr) (c : Nat) (w : World), l.length = n → i < n → n ≤ 100000 → StrsAt w A l → n ≤ c → c ≤ 9223372036854775807 → (A = none → c = 0) → (∀ t ∈ l, Sh t) →
    Calls Tryz.prog 74 #[.slice A n c, .int .i64 i] w fun e w' => (∃ v, e = .returned v ∧ Own w.heap.size w' v (pathT l i)) ∧ Below w.heap.size w w' := by
  intro n
  induction n using Nat.strongRecOn with
  | ind n ih =>
  intro l i A c w hln hi hn hl hcap hc2 hA hs
  have HL := Lib.hid hl
  have HS := Lib.hid hs
  have HN := Lib.hid hln
  have IH := Lib.hid ih
  have HC := Lib.hid (And.intro hcap hA)
  clear hs ih
  by_cases he : n = 1
  · subst he
    clear hl HL IH HS HC
    go_enter Tryz.func74, Tryz.ntmps74
    go_wp2_with fail
    refine bodyPost_ret (v := .slice none 0 0) (by simp [results, Tryz.results74, go_sem]) rfl ⟨⟨_, rfl, ?_⟩, Below.refl _ _⟩
    rw [path_one _ (by rw [HN.out]; exact Nat.le_refl _)]
    exact Own.nil _ _
  have h2 : 2 ≤ n := by omega
  obtain ⟨q1, q2, q3, _⟩ := hf_spec h2
  have HH := Lib.hid (rhalf_any n w h2 (by omega))
  obtain ⟨k, hk⟩ : ∃ k, k = hf n := ⟨_, rfl⟩
  obtain ⟨A1, a1, E1, s1⟩ := strs_to (l := l) (A := A) (c := c) (k := k) hA (by omega) (by omega)
  obtain ⟨A2, a2, E2, s2⟩ := strs_from (l := l) (A := A) (c := c) (k := k) hA (by omega) (by omega)
  rw [hln] at E1 E2
  have HA := Lib.hid (And.intro a1 a2)
  have S1 := Lib.hid (s1 _ hl)
  have S2 := Lib.hid (s2 _ hl)
  rw [← hk] at HH
  have HK := Lib.hid hk
  rw [← hk] at q1 q2 q3
  have lt1 : Hid ((l.take k).length = k) := by unfold Hid; rw [List.length_take, HN.out]; omega
  have lt2 : Hid ((l.drop k).length = n - k) := by unfold Hid; rw [List.length_drop, HN.out]
  clear hk s1 s2 a1 a2 hl hln
  have hn1 : ((n : Int) == 1) = false := by simp; omega
  clear he
  by_cases hik : i < k
  · have hik' : (i : Int) < (k : Int) := by omega
    have D1 := Lib.hid (fun (W : World) (hb : Below w.heap.size w W) => IH.out k (by omega) (l.take k) i A1 c W lt1.out hik (by omega) (S1.out.below hb) (by omega) hc2 HA.out.1 (sh_take HS.out k))
    have C2 := Lib.hid (fun (W : World) (hb : Below w.heap.size w W) => rroot_any (n - k) (l.drop k) A2 (c - k) W lt2.out (by omega) (S2.out.below hb) (by omega) (by omega) HA.out.2 (sh_drop HS.out k))
    have HE : Hid (pathT l i = pathT (l.take k) i ++ [rootT (l.drop k)]) := by unfold Hid; rw [path_left (by rw [HN.out]; exact h2) (by rw [HN.out, ← HK.out]; exact hik), HN.out, ← HK.out]
    have HSm := Lib.hid (path_small (l.take k) i (by rw [lt1.out]; omega))
    generalize rootT (l.drop k) = x at *
    generalize pathT (l.take k) i = ps at *
    go_enter Tryz.func74, Tryz.ntmps74
    go_wp2_with fail
    (with_reducible refine HH.out.mono ?_); rintro e w ⟨rfl, rfl⟩
    go_wp2_with fail
    refine Reg.wp_region_tail (fun _ => False) (apF w.heap.size ps x 4 9) (fun _ _ => True) (by kernel_rfl) (by kernel_rfl) apF_s (fun _ _ _ _ _ => trivial) trivial ?_
    simp only
    iterate 4
      apply Reg.SeqT.val
      rotate_left 2
      · intro δ W hW hkn K hK
        obtain ⟨hc, hf, _⟩ := Reg.kcell hW
        simp only [Act.put, List.setIfInBounds_toArray, List.set_cons_zero, List.set_cons_succ] at hK
        unfold Reg.Does
        go_simp
        try simp only [IntWalk.i64_left]
        first
          | exact hK _ (Below.refl _ _)
          | (trace_state; fail)
      rotate_left 1
      · intro δ δ' hd; first | rfl | (simp only [hd _ (show Reg.reach _ 12 _ _ = true by kernel_rfl)])
      · intro x w; first | exact trivial | (intro e; exact absurd e (by decide)) | exact ⟨fun e => absurd e (by decide), fun e => absurd e (by decide)⟩
      simp only [Act.put, List.setIfInBounds_toArray, List.set_cons_zero, List.set_cons_succ, List.nil_append, List.cons_append, Nat.reduceAdd, Nat.zero_add]
    refine Reg.SeqT.new (fun δ W2 hW hkn K hK => ?_) ?_
    · simp only [Act.put, List.setIfInBounds_toArray, List.set_cons_zero, List.set_cons_succ] at hK
      unfold Reg.Does
      go_simp
      (with_reducible refine (D1.out W2 (keepN hW)).mono ?_); rintro e w' ⟨⟨v, rfl, ho⟩, hb⟩
      exact hK _ _ hb ⟨fun _ => by obtain ⟨Ax, cx, rfl, _⟩ := ho.lst; exact ⟨Ax, cx, rfl, Ap.own_base ho hW.size⟩, fun e => absurd e (by decide)⟩
    simp only [Act.put, List.setIfInBounds_toArray, List.set_cons_zero, List.set_cons_succ, List.nil_append, List.cons_append, Nat.reduceAdd, Nat.zero_add]
    iterate 4
      apply Reg.SeqT.val
      rotate_left 2
      · intro δ W hW hkn K hK
        obtain ⟨hc, hf, _⟩ := Reg.kcell hW
        simp only [Act.put, List.setIfInBounds_toArray, List.set_cons_zero, List.set_cons_succ] at hK
        unfold Reg.Does
        go_simp
        try simp only [IntWalk.i64_left]
        first
          | exact hK _ (Below.refl _ _)
          | (go_at_call 71; (with_reducible refine (C2.out _ (keepN hW)).mono ?_); rintro e w' ⟨rfl, hb⟩; exact hK _ hb)
          | (trace_state; fail)
      rotate_left 1
      · intro δ δ' hd; first | rfl | (simp only [hd _ (show Reg.reach _ 12 _ _ = true by kernel_rfl)])
      · intro x w; first | exact trivial | (intro e; exact absurd e (by decide)) | exact ⟨fun e => absurd e (by decide), fun e => absurd e (by decide)⟩
      simp only [Act.put, List.setIfInBounds_toArray, List.set_cons_zero, List.set_cons_succ, List.nil_append, List.cons_append, Nat.reduceAdd, Nat.zero_add]
    refine Reg.SeqT.new (fun δ W2 hW hkn K hK => ?_) ?_
    · simp only [Act.put, List.setIfInBounds_toArray, List.set_cons_zero, List.set_cons_succ] at hK
      unfold Reg.Does
      go_simp
      exact hK _ _ ((Below.refl _ _).alloc (Nat.le_refl _) _) ⟨fun e => absurd e (by decide), fun _ => ⟨W2.heap.size, rfl, Reg.Blk.new _ _ _⟩⟩
    simp only [Act.put, List.setIfInBounds_toArray, List.set_cons_zero, List.set_cons_succ, List.nil_append, List.cons_append, Nat.reduceAdd, Nat.zero_add]
    refine Reg.SeqT.tail (by kernel_rfl) (fun δ W2 hW hkn _ => ?_)
    obtain ⟨A4, c4, e4, ho4⟩ := (hkn 4 (by omega)).1 rfl
    obtain ⟨g, e9, hg⟩ := (hkn 9 (by omega)).2 rfl
    rw [e4] at ho4
    rw [e4, e9]
    have hbW := keepN hW
    refine Reg.tail_cons ?_
    refine does_appV (by rfl) _ _ rfl rfl rfl ho4 (Lst.lit [x] (n := 1) rfl (by omega) hg) (by have := HSm.out; omega) hW.size ?_
    intro A' c' w' ho hk
    have HO := Lib.hid ho
    have HBF := Lib.hid (hbW.trans (hk.below fun q hq => ⟨Nat.lt_of_lt_of_le hq hW.size, by omega⟩))
    clear ho hk hg ho4 e4 e9 hkn hW hbW
    simp only [Act.put, List.setIfInBounds_toArray, List.set_cons_zero, List.set_cons_succ, List.nil_append, List.cons_append, Nat.reduceAdd, Nat.zero_add]
    refine Reg.tail_cons ?_
    unfold Reg.Does
    go_simp
    refine Reg.tail_nil ?_
    go_wp2_with fail
    refine bodyPost_ret (v := .slice A' (ps.length + 1) c') (by simp [results, Tryz.results74, go_sem]) rfl ⟨⟨_, rfl, ?_⟩, HBF.out⟩
    rw [HE.out]
    have h := HO.out
    simp only [List.length_append, List.length_cons, List.length_nil, Nat.zero_add] at h
    exact h
  · have hik' : ¬ (i : Int) < (k : Int) := by omega
    have hs2 := sub2 (n := i) (k := k) (by omega) (by omega)
    have D1 := Lib.hid (fun (W : World) (hb : Below w.heap.size w W) => IH.out (n - k) (by omega) (l.drop k) (i - k) A2 (c - k) W lt2.out (by omega) (by omega) (S2.out.below hb) (by omega) (by omega) HA.out.2 (sh_drop HS.out k))
    have C2 := Lib.hid (fun (W : World) (hb : Below w.heap.size w W) => rroot_any k (l.take k) A1 c W lt1.out (by omega) (S1.out.below hb) (by omega) hc2 HA.out.1 (sh_take HS.out k))
    have HE : Hid (pathT l i = pathT (l.drop k) (i - k) ++ [rootT (l.take k)]) := by unfold Hid; rw [path_right (by rw [HN.out]; exact h2) (by rw [HN.out, ← HK.out]; exact hik), HN.out, ← HK.out]
    have HSm := Lib.hid (path_small (l.drop k) (i - k) (by rw [lt2.out]; omega))
    generalize rootT (l.take k) = x at *
    generalize pathT (l.drop k) (i - k) = ps at *
    go_enter Tryz.func74, Tryz.ntmps74
    go_wp2_with fail
    (with_reducible refine HH.out.mono ?_); rintro e w ⟨rfl, rfl⟩
    go_wp2_with fail
    refine Reg.wp_region_tail (fun _ => False) (apF w.heap.size ps x 6 11) (fun _ _ => True) (by kernel_rfl) (by kernel_rfl) apF_s (fun _ _ _ _ _ => trivial) trivial ?_
    simp only
    iterate 6
      apply Reg.SeqT.val
      rotate_left 2
      · intro δ W hW hkn K hK
        obtain ⟨hc, hf, _⟩ := Reg.kcell hW
        simp only [Act.put, List.setIfInBounds_toArray, List.set_cons_zero, List.set_cons_succ] at hK
        unfold Reg.Does
        go_simp
        try simp only [IntWalk.i64_left]
        first
          | exact hK _ (Below.refl _ _)
          | (trace_state; fail)
      rotate_left 1
      · intro δ δ' hd; first | rfl | (simp only [hd _ (show Reg.reach _ 12 _ _ = true by kernel_rfl)])
      · intro x w; first | exact trivial | (intro e; exact absurd e (by decide)) | exact ⟨fun e => absurd e (by decide), fun e => absurd e (by decide)⟩
      simp only [Act.put, List.setIfInBounds_toArray, List.set_cons_zero, List.set_cons_succ, List.nil_append, List.cons_append, Nat.reduceAdd, Nat.zero_add]
    refine Reg.SeqT.new (fun δ W2 hW hkn K hK => ?_) ?_
    · simp only [Act.put, List.setIfInBounds_toArray, List.set_cons_zero, List.set_cons_succ] at hK
      unfold Reg.Does
      go_simp
      (with_reducible refine (D1.out W2 (keepN hW)).mono ?_); rintro e w' ⟨⟨v, rfl, ho⟩, hb⟩
      exact hK _ _ hb ⟨fun _ => by obtain ⟨Ax, cx, rfl, _⟩ := ho.lst; exact ⟨Ax, cx, rfl, Ap.own_base ho hW.size⟩, fun e => absurd e (by decide)⟩
    simp only [Act.put, List.setIfInBounds_toArray, List.set_cons_zero, List.set_cons_succ, List.nil_append, List.cons_append, Nat.reduceAdd, Nat.zero_add]
    iterate 4
      apply Reg.SeqT.val
      rotate_left 2
      · intro δ W hW hkn K hK
        obtain ⟨hc, hf, _⟩ := Reg.kcell hW
        simp only [Act.put, List.setIfInBounds_toArray, List.set_cons_zero, List.set_cons_succ] at hK
        unfold Reg.Does
        go_simp
        try simp only [IntWalk.i64_left]
        first
          | exact hK _ (Below.refl _ _)
          | (go_at_call 71; (with_reducible refine (C2.out _ (keepN hW)).mono ?_); rintro e w' ⟨rfl, hb⟩; exact hK _ hb)
          | (trace_state; fail)
      rotate_left 1
      · intro δ δ' hd; first | rfl | (simp only [hd _ (show Reg.reach _ 12 _ _ = true by kernel_rfl)])
      · intro x w; first | exact trivial | (intro e; exact absurd e (by decide)) | exact ⟨fun e => absurd e (by decide), fun e => absurd e (by decide)⟩
      simp only [Act.put, List.setIfInBounds_toArray, List.set_cons_zero, List.set_cons_succ, List.nil_append, List.cons_append, Nat.reduceAdd, Nat.zero_add]
    refine Reg.SeqT.new (fun δ W2 hW hkn K hK => ?_) ?_
    · simp only [Act.put, List.setIfInBounds_toArray, List.set_cons_zero, List.set_cons_succ] at hK
      unfold Reg.Does
      go_simp
      exact hK _ _ ((Below.refl _ _).alloc (Nat.le_refl _) _) ⟨fun e => absurd e (by decide), fun _ => ⟨W2.heap.size, rfl, Reg.Blk.new _ _ _⟩⟩
    simp only [Act.put, List.setIfInBounds_toArray, List.set_cons_zero, List.set_cons_succ, List.nil_append, List.cons_append, Nat.reduceAdd, Nat.zero_add]
    refine Reg.SeqT.tail (by kernel_rfl) (fun δ W2 hW hkn _ => ?_)
    obtain ⟨A4, c4, e4, ho4⟩ := (hkn 6 (by omega)).1 rfl
    obtain ⟨g, e9, hg⟩ := (hkn 11 (by omega)).2 rfl
    rw [e4] at ho4
    rw [e4, e9]
    have hbW := keepN hW
    refine Reg.tail_cons ?_
    refine does_appV (by rfl) _ _ rfl rfl rfl ho4 (Lst.lit [x] (n := 1) rfl (by omega) hg) (by have := HSm.out; omega) hW.size ?_
    intro A' c' w' ho hk
    have HO := Lib.hid ho
    have HBF := Lib.hid (hbW.trans (hk.below fun q hq => ⟨Nat.lt_of_lt_of_le hq hW.size, by omega⟩))
    clear ho hk hg ho4 e4 e9 hkn hW hbW
    simp only [Act.put, List.setIfInBounds_toArray, List.set_cons_zero, List.set_cons_succ, List.nil_append, List.cons_append, Nat.reduceAdd, Nat.zero_add]
    refine Reg.tail_cons ?_
    unfold Reg.Does
    go_simp
    refine Reg.tail_nil ?_
    go_wp2_with fail
    refine bodyPost_ret (v := .slice A' (ps.length + 1) c') (by simp [results, Tryz.results74, go_sem]) rfl ⟨⟨_, rfl, ?_⟩, HBF.out⟩
    rw [HE.out]
    have h := HO.out
    simp only [List.length_append, List.length_cons, List.length_nil, Nat.zero_add] at h
    exact h

end S
end Go.Proofs.YthdjdlndfkemiaaGreatDoor

/- Trees: the reference's 'Check', 'Extends'. -/
namespace Go.Proofs.YthdjdlndfkemiaaGreatDoor
open Go.RowKit
namespace S

theorem ris_str (t : Tx) (w : World) (hs : Sh t) : Calls Tryz.prog 47 #[.string (str t)] w fun e w' => e = .returned (.bool (isD t)) ∧ w' = w := by
  have h := ris_any (str t) w (by rw [str_size]; unfold Sh at hs; omega)
  rw [str_data] at h
  exact h
set_option maxHeartbeats 1000000 in
theorem rcheck_any (root : Tx) (n i : Int) (d : Tx) (l : List Tx) (A : Option Addr) (c : Nat) (w : World) (hn : l.length ≤ 1000) (hl : StrsAt w A l) (hc : l.length ≤ c) (hc2 : c ≤ 9223372036854775807) (hs : ∀ t ∈ l, Sh t) (hd : Sh d) :
    Calls Tryz.prog 48 #[.string (str root), .int .i64 n, .int .i64 i, .string (str d), .slice A l.length c] w fun e w' => e = .returned (.bool (checkB root n i d l)) ∧ Below w.heap.size w w' := by
  have HL := Lib.hid (And.intro hl hs)
  have hstl := str_toList
  by_cases hn1 : n ≤ 1000000
  case neg =>
    have hn1' : n > 1000000 := by omega
    have E : Hid (checkB root n i d l = false) := by unfold Hid checkB; simp [hn1]
    clear hl hs hn1
    go_enter Tryz.func48, Tryz.ntmps48
    go_wp2_with fail
    go_ret
    exact ⟨by rw [E.out]; rfl, Below.refl _ _⟩
  by_cases hi0 : 0 ≤ i
  case neg =>
    have hn1' : ¬ n > 1000000 := by omega
    have hi0' : i < 0 := by omega
    have E : Hid (checkB root n i d l = false) := by unfold Hid checkB; simp [hi0]
    clear hl hs hn1 hi0
    go_enter Tryz.func48, Tryz.ntmps48
    go_wp2_with fail
    go_ret
    exact ⟨by rw [E.out]; rfl, Below.refl _ _⟩
  by_cases hin : i < n
  case neg =>
    have hn1' : ¬ n > 1000000 := by omega
    have hi0' : ¬ i < 0 := by omega
    have hin' : i ≥ n := by omega
    have E : Hid (checkB root n i d l = false) := by unfold Hid checkB; simp [hin]
    clear hl hs hn1 hi0 hin
    go_enter Tryz.func48, Tryz.ntmps48
    go_wp2_with fail
    go_ret
    exact ⟨by rw [E.out]; rfl, Below.refl _ _⟩
  obtain ⟨N, rfl⟩ := Int.eq_ofNat_of_zero_le (show 0 ≤ n by omega)
  obtain ⟨I, rfl⟩ := Int.eq_ofNat_of_zero_le hi0
  have hIN : I < N := by omega
  have hN : N ≤ 1000000 := by omega
  have hn1' : ¬ (N : Int) > 1000000 := by omega
  have hi0' : ¬ (I : Int) < 0 := by omega
  have hin' : ¬ (I : Int) ≥ (N : Int) := by omega
  have HLen := Lib.hid (rlength_any N I w hIN hN)
  have HDg := Lib.hid (rdigests_any A c l w hl (by omega) (fun t ht => by have := hs t ht; unfold Sh at this; omega))
  have HIs := Lib.hid (ris_str d w hd)
  have HUp := Lib.hid (fun (h : l.length = lenT N I) => rup_any d hd N I l A c l.length w hIN hN rfl h hn hl hc hc2 hs)
  have E : Hid (checkB root N I d l = (l.length == lenT N I && (l.all isD && (isD d && (upT N I d l.reverse == root))))) := by
    unfold Hid checkB
    have e1 : decide ((N : Int) ≤ 1000000) = true := decide_eq_true (by omega)
    have e2 : decide ((0 : Int) ≤ (I : Int)) = true := decide_eq_true (by omega)
    have e3 : decide ((I : Int) < (N : Int)) = true := decide_eq_true (by omega)
    rw [e1, e2, e3, Int.toNat_natCast, Int.toNat_natCast]
    cases l.all isD <;> cases isD d <;> cases (upT N I d l.reverse == root) <;> cases (l.length == lenT N I) <;> rfl
  obtain ⟨z, hz⟩ : ∃ z, z = lenT N I := ⟨_, rfl⟩
  rw [← hz] at HLen HUp E
  clear hl hs hn1 hi0 hin hz
  by_cases hlz : l.length = z
  case neg =>
    have hlz1 : ((l.length : Int) == (z : Int)) = false := by simp; omega
    have hlz2 : ¬ (l.length : Int) = (z : Int) := by omega
    rw [beq_eq_false_iff_ne.2 hlz] at E
    go_enter Tryz.func48, Tryz.ntmps48
    go_wp2_with fail
    (with_reducible refine HLen.out.mono ?_); rintro e w ⟨rfl, rfl⟩
    go_wp2_with fail
    go_ret
    exact ⟨by rw [E.out]; rfl, Below.refl _ _⟩
  have HU := Lib.hid (HUp.out hlz)
  obtain ⟨m, hm⟩ : ∃ m, m = l.length := ⟨_, rfl⟩
  have ez : z = m := by omega
  subst ez
  rw [← hm] at E HDg HU ⊢
  rw [show (z == z) = true from by simp] at E
  clear hlz HUp hm
  generalize l.all isD = qa at *
  generalize isD d = qd at *
  generalize upT N I d l.reverse = u at *
  cases qa with
  | false =>
    go_enter Tryz.func48, Tryz.ntmps48
    go_wp2_with fail
    (with_reducible refine HLen.out.mono ?_); rintro e w ⟨rfl, rfl⟩
    go_wp2_with fail
    (with_reducible refine HDg.out.mono ?_); rintro e w ⟨rfl, rfl⟩
    go_wp2_with fail
    go_ret
    exact ⟨by rw [E.out]; rfl, Below.refl _ _⟩
  | true =>
    cases qd with
    | false =>
      go_enter Tryz.func48, Tryz.ntmps48
      go_wp2_with fail
      (with_reducible refine HLen.out.mono ?_); rintro e w ⟨rfl, rfl⟩
      go_wp2_with fail
      (with_reducible refine HDg.out.mono ?_); rintro e w ⟨rfl, rfl⟩
      go_wp2_with fail
      (with_reducible refine HIs.out.mono ?_); rintro e w ⟨rfl, rfl⟩
      go_wp2_with fail
      go_ret
      exact ⟨by rw [E.out]; rfl, Below.refl _ _⟩
    | true =>
      go_enter Tryz.func48, Tryz.ntmps48
      go_wp2_with fail
      (with_reducible refine HLen.out.mono ?_); rintro e w ⟨rfl, rfl⟩
      go_wp2_with fail
      (with_reducible refine HDg.out.mono ?_); rintro e w ⟨rfl, rfl⟩
      go_wp2_with fail
      (with_reducible refine HIs.out.mono ?_); rintro e w ⟨rfl, rfl⟩
      go_wp2_with fail
      (with_reducible refine HU.out.mono ?_); rintro e w2 ⟨rfl, hb⟩
      have HB := Lib.hid hb
      clear hb
      go_wp2_with fail
      go_ret
      exact ⟨by rw [E.out]; rfl, HB.out⟩

/-! What 'Root', 'Path', 'Link' return, in one form. -/
def rootE (l : List Tx) : Int := if l.all isD then 0 else 1
def pathR (l : List Tx) (i : Int) : List Tx := if pathOk l i then pathT l i.toNat else []
def pathE (l : List Tx) (i : Int) : Int := if pathOk l i then 0 else 1
def linkR (l : List Tx) (i : Int) : List Tx := if linkOk l i then lnk l i.toNat else []
def linkE (l : List Tx) (i : Int) : Int := if linkOk l i then 0 else 1
def GotL (w' : World) (e : Ending) (n : Nat) (l : List Tx) (er : Int) : Prop := ∃ A c, e = .returned (.tuple #[.slice A n c, .int .i64 er]) ∧ Lst w' A n c l
theorem rootG {W : World} {A : Option Addr} {n c : Nat} {l : List Tx} (h : Lst W A n c l) (hn : n ≤ 100000) (ht : Tabs W) (hs : TxB l) :
    Calls Tryz.prog 22 #[.slice A n c] W fun e w' => e = .returned (.tuple #[.string (str (rootedT l)), .int .i64 (rootE l)]) ∧ Below W.heap.size W w' := by
  refine (root_L h hn ht hs).mono ?_
  rintro e w' ⟨rfl, hb⟩
  unfold rootedT rootE
  cases l.all isD <;> exact ⟨rfl, hb⟩
theorem rrootG {W : World} {A : Option Addr} {n c : Nat} {l : List Tx} (h : Lst W A n c l) (hn : n ≤ 100000) (hs : ∀ t ∈ l, Sh t) :
    Calls Tryz.prog 40 #[.slice A n c] W fun e w' => e = .returned (.tuple #[.string (str (rootedT l)), .int .i64 (rootE l)]) ∧ Below W.heap.size W w' := by
  refine (rRoot_L h (by omega) hs).mono ?_
  rintro e w' ⟨rfl, hb⟩
  unfold rootedT rootE
  cases l.all isD <;> exact ⟨rfl, hb⟩
theorem ok_path {l : List Tx} {i : Int} (h : pathOk l i = true) : l.all isD = true ∧ 0 ≤ i ∧ i < l.length := by
  unfold pathOk at h; simp only [Bool.and_eq_true, decide_eq_true_eq] at h; exact ⟨h.1, h.2.1, h.2.2⟩
theorem ok_link {l : List Tx} {i : Int} (h : linkOk l i = true) : l.all isD = true ∧ 0 ≤ i ∧ i ≤ l.length := by
  unfold linkOk at h; simp only [Bool.and_eq_true, decide_eq_true_eq] at h; exact ⟨h.1, h.2.1, h.2.2⟩
theorem pathG {W : World} {A : Option Addr} {n c : Nat} {l : List Tx} (i : Int) (h : Lst W A n c l) (hn : n ≤ 100000) (ht : Tabs W) (hs : TxB l) :
    Calls Tryz.prog 27 #[.slice A n c, .int .i64 i] W fun e w' => GotL w' e (pathR l i).length (pathR l i) (pathE l i) ∧ Below W.heap.size W w' := by
  unfold pathR pathE
  cases hok : pathOk l i with
  | false =>
    refine (pathno_L i h hn hs hok).mono ?_
    rintro e w' ⟨rfl, hb⟩
    exact ⟨⟨none, 0, rfl, Lst.empty _⟩, hb⟩
  | true =>
    obtain ⟨q1, q2, q3⟩ := ok_path hok
    obtain ⟨I, rfl⟩ := Int.eq_ofNat_of_zero_le q2
    refine (path_L I h hn ht q1 (by rw [h.len] at q3; omega)).mono ?_
    rintro e w' ⟨h1, hb⟩
    exact ⟨h1, hb⟩
end S
end Go.Proofs.YthdjdlndfkemiaaGreatDoor

/- Trees: the reference's 'Path', 'Link'. -/
namespace Go.Proofs.YthdjdlndfkemiaaGreatDoor
open Go.RowKit
namespace S

theorem rpathG {W : World} {A : Option Addr} {n c : Nat} {l : List Tx} (i : Int) (h : Lst W A n c l) (hn : n ≤ 100000) (hs : ∀ t ∈ l, Sh t) :
    Calls Tryz.prog 45 #[.slice A n c, .int .i64 i] W fun e w' => GotL w' e (pathR l i).length (pathR l i) (pathE l i) ∧ Below W.heap.size W w' := by
  obtain ⟨h1, hln, h3, h4, h5⟩ := h
  have HD := rdigests_any A c l W h1 (by omega) (fun t ht => by have := hs t ht; unfold Sh at this; omega)
  rw [hln] at HD
  have HE : Hid (pathR l i = (if pathOk l i then pathT l i.toNat else []) ∧ pathE l i = if pathOk l i then 0 else 1) := ⟨rfl, rfl⟩
  have HP := Lib.hid (fun (I : Nat) (hI : I < n) => rpath_any n l I A c W hln hI hn h1 h3 h4 h5 hs)
  unfold pathOk at HE
  rw [hln] at HE
  generalize l.all isD = q at *
  have HD := Lib.hid HD
  clear h1 h5 hs hln
  cases q with
  | false =>
    simp only [Bool.false_and, Bool.false_eq_true, if_false] at HE
    go_enter Tryz.func45, Tryz.ntmps45
    go_wp2_with fail
    (with_reducible refine HD.out.mono ?_); rintro e w1 ⟨rfl, rfl⟩
    go_wp2_with fail
    refine bodyPost_ret (v := .tuple #[.slice none 0 0, .int .i64 1]) (by simp [results, Tryz.results45, go_sem]) rfl ⟨?_, Below.refl _ _⟩
    rw [HE.out.1, HE.out.2]
    exact ⟨none, 0, rfl, Lst.empty _⟩
  | true =>
    by_cases hi0 : 0 ≤ i
    rotate_left
    · have hi0' : i < 0 := by omega
      rw [decide_eq_false hi0] at HE
      simp only [Bool.false_and, Bool.and_false, Bool.false_eq_true, if_false] at HE
      clear hi0
      go_enter Tryz.func45, Tryz.ntmps45
      go_wp2_with fail
      (with_reducible refine HD.out.mono ?_); rintro e w1 ⟨rfl, rfl⟩
      go_wp2_with fail
      refine bodyPost_ret (v := .tuple #[.slice none 0 0, .int .i64 1]) (by simp [results, Tryz.results45, go_sem]) rfl ⟨?_, Below.refl _ _⟩
      rw [HE.out.1, HE.out.2]
      exact ⟨none, 0, rfl, Lst.empty _⟩
    by_cases hin : i < (n : Int)
    rotate_left
    · have hi0' : ¬ i < 0 := by omega
      have hin' : i ≥ (n : Int) := by omega
      rw [decide_eq_false hin] at HE
      simp only [Bool.and_false, Bool.false_eq_true, if_false] at HE
      clear hi0 hin
      go_enter Tryz.func45, Tryz.ntmps45
      go_wp2_with fail
      (with_reducible refine HD.out.mono ?_); rintro e w1 ⟨rfl, rfl⟩
      go_wp2_with fail
      refine bodyPost_ret (v := .tuple #[.slice none 0 0, .int .i64 1]) (by simp [results, Tryz.results45, go_sem]) rfl ⟨?_, Below.refl _ _⟩
      rw [HE.out.1, HE.out.2]
      exact ⟨none, 0, rfl, Lst.empty _⟩
    rw [decide_eq_true hi0, decide_eq_true hin] at HE
    simp only [Bool.and_self, if_true] at HE
    obtain ⟨I, rfl⟩ := Int.eq_ofNat_of_zero_le hi0
    have hin1 : I < n := by omega
    have hi0' : ¬ (I : Int) < 0 := by omega
    have hin' : ¬ (I : Int) ≥ (n : Int) := by omega
    have HP1 := Lib.hid (HP.out I hin1)
    clear HP hi0 hin
    go_enter Tryz.func45, Tryz.ntmps45
    go_wp2_with fail
    (with_reducible refine HD.out.mono ?_); rintro e w1 ⟨rfl, rfl⟩
    go_wp2_with fail
    (with_reducible refine HP1.out.mono ?_); rintro e w2 ⟨⟨v, rfl, ho⟩, hb⟩
    obtain ⟨A', c', rfl, hl'⟩ := ho.lst
    have HB := Lib.hid hb
    have HL' := Lib.hid hl'
    clear ho hl' hb
    go_wp2_with fail
    refine bodyPost_ret (v := .tuple #[.slice A' (pathT l I).length c', .int .i64 0]) (by simp [results, Tryz.results45, go_sem]) rfl ⟨?_, HB.out⟩
    rw [HE.out.1, HE.out.2, Int.toNat_natCast]
    exact ⟨A', c', rfl, HL'.out⟩
theorem rcheck_L {W : World} {A : Option Addr} {n c : Nat} {l : List Tx} (root : Tx) (m i : Int) (d : Tx) (h : Lst W A n c l) (hn : n ≤ 1000) (hs : ∀ t ∈ l, Sh t) (hd : Sh d) :
    Calls Tryz.prog 48 #[.string (str root), .int .i64 m, .int .i64 i, .string (str d), .slice A n c] W fun e w' => e = .returned (.bool (checkB root m i d l)) ∧ Below W.heap.size W w' := by
  obtain ⟨h1, rfl, h3, h4, h5⟩ := h
  exact rcheck_any root m i d l A c W hn h1 h3 h4 hs hd
end S
end Go.Proofs.YthdjdlndfkemiaaGreatDoor
