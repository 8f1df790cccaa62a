/- Trees: 'Extends$1'. -/
import Derived.Test.YtejhefmcinohhaaGreatDoorTi
set_option linter.unusedSimpArgs false
set_option linter.unusedVariables false
set_option maxRecDepth 100000
namespace Go.Proofs.YtejhefmcinohhaaGreatDoor
open Go.RowKit
namespace S

abbrev bothF (gl gv gc : Nat) : Value := .func (.func 40) #[] #[.pointer (some ⟨gl, 0, none⟩), .pointer (some ⟨gv, 0, none⟩), .pointer (some ⟨gc, 0, none⟩)]
structure BothEnv (w : World) (gl gv gc gp gd : Nat) (d : Tx) (TL TV TC : TypeId) : Prop where
  l : Reg.Blk gl #[.string (str d)] TL w
  v : Reg.Blk gv #[.pointer (some ⟨gp, 0, none⟩)] TV w
  c : Reg.Blk gc #[bothF gl gv gc] TC w
  nl : ¬ prM gp gd gl
  nv : ¬ prM gp gd gv
  nc : ¬ prM gp gd gc
theorem BothEnv.keep {w w' : World} {gl gv gc gp gd : Nat} {d : Tx} {TL TV TC : TypeId} (h : BothEnv w gl gv gc gp gd d TL TV TC) (hk : Reg.Keep (prM gp gd) w w') : BothEnv w' gl gv gc gp gd d TL TV TC :=
  ⟨keep_blk hk h.l h.nl, keep_blk hk h.v h.nv, keep_blk hk h.c h.nc, h.nl, h.nv, h.nc⟩

set_option maxHeartbeats 2000000 in
theorem both_any (gl gv gc gp gd : Nat) (d : Tx) (TL TV TC : TypeId) (hd : Sm d) : ∀ (n m : Nat) (whole : Bool) (q : List Tx) (sh : Bool) (w : World), 1 ≤ m → m ≤ n → n ≤ 1000000 → PrfAt w gp gd q sh → q.length ≤ 1000001 → (∀ t ∈ q, Sm t) → BothEnv w gl gv gc gp gd d TL TV TC → (∀ W, Reg.Keep (prM gp gd) w W → Tabs W) →
    Calls Tryz.prog 40 #[.int .i64 n, .int .i64 m, .bool whole, .pointer (some ⟨gl, 0, none⟩), .pointer (some ⟨gv, 0, none⟩), .pointer (some ⟨gc, 0, none⟩)] w fun e w' =>
      e = .returned (.tuple #[.string (str (bothT n m whole d q).1), .string (str (bothT n m whole d q).2)]) ∧ PrfAt w' gp gd (q.drop (longT n m whole)) (popsS (longT n m whole) q sh) ∧ Reg.Keep (prM gp gd) w w' := by
  intro n
  induction n using Nat.strongRecOn with
  | ind n ih =>
  intro m whole q sh w hm1 hmn hn hp hql hqs he htk
  have HP := Lib.hid hp
  have HE := Lib.hid he
  have HQ := Lib.hid (And.intro hql hqs)
  have HTK := Lib.hid htk
  have IH := Lib.hid ih
  obtain ⟨cl, fl, zl⟩ := he.l.facts
  obtain ⟨cv, fv, zv⟩ := he.v.facts
  obtain ⟨cc, fc, zc⟩ := he.c.facts
  clear ih hp hql hqs he htk
  by_cases h1 : m = n
  · subst h1
    cases whole with
    | true =>
      go_enter Tryz.func40, Tryz.ntmps40
      go_wp2_with fail
      refine Reg.wp_region_seq (by kernel_rfl) (by kernel_rfl) ?_
      simp only
      iterate 4
        apply Reg.SeqOK.val
        · intro γ W hW K hK
          obtain ⟨hc, hf, _⟩ := bcell hW
          simp only [Act.put, List.setIfInBounds_toArray, List.set_cons_zero, List.set_cons_succ] at hK
          unfold Reg.Does
          go_simp
          try simp only [IntWalk.i64_left]
          first
            | exact hK _ (Below.refl _ _)
            | (trace_state; fail)
        simp only [Act.put, List.setIfInBounds_toArray, List.set_cons_zero, List.set_cons_succ, List.nil_append, List.cons_append, Nat.reduceAdd, Nat.zero_add]
      refine Reg.SeqOK.nil (by kernel_rfl) (fun γ W hW _ _ _ => ?_)
      have HW := Lib.hid hW
      clear hW
      go_wp2_with fail
      rw [both_end _ _ _ (Nat.le_refl _), long_end _ (Nat.le_refl _)]
      refine bodyPost_ret (v := .tuple #[.string (str d), .string (str d)]) (by simp [results, Tryz.results40, go_sem]) rfl ⟨rfl, HP.out.below HW.out, keep_below HW.out⟩
    | false =>
      have HX := Lib.hid (next_any gp gd q sh w HP.out HQ.out.1)
      go_enter Tryz.func40, Tryz.ntmps40
      go_wp2_with fail
      (with_reducible refine HX.out.mono ?_); rintro e w6 ⟨rfl, hp6, hk6⟩
      have HP6 := Lib.hid hp6
      have HK6 := Lib.hid hk6
      clear hp6 hk6
      go_wp2_with fail
      rw [both_end _ _ _ (Nat.le_refl _), long_end _ (Nat.le_refl _)]
      refine bodyPost_ret (v := .tuple #[.string (str (q.headD [])), .string (str (q.headD []))]) (by simp [results, Tryz.results40, go_sem]) rfl ⟨rfl, ?_, HK6.out⟩
      rw [show q.drop (if false then 0 else 1) = q.tail by simp]
      exact HP6.out
  · have hlt : m < n := by omega
    have h2 : 2 ≤ n := by omega
    obtain ⟨q1, q2, q3, _⟩ := hf_spec h2
    have HH := Lib.hid (fun W => half_b n W h2 hn)
    obtain ⟨k, hk⟩ : ∃ k, k = hf n := ⟨_, rfl⟩
    rw [← hk] at HH q1 q2 q3
    have HK := Lib.hid hk
    have hn1 : ((m : Int) == (n : Int)) = false := by simp; omega
    have hn2 : ¬ (m : Int) = (n : Int) := by omega
    clear hk
    go_enter Tryz.func40, Tryz.ntmps40
    go_wp2_with fail
    refine Reg.wp_region_eff (prM gp gd) (nxF (.string (str (q.headD [])))) (nxT gp gd q sh) (by kernel_rfl) (by kernel_rfl) (fun _ _ _ _ h k => nxF_s _ _ _ _ _ _ h k) (fun _ _ _ h k => nxT_s _ _ _ _ _ _ _ h k) (HP.out.below (Below.refl _ _).drew) ?_
    simp only
    have nv := HE.out.nv
    iterate 3
      apply Reg.SeqE.val
      rotate_left 2
      · intro δ W hW hkn K hK
        obtain ⟨hc, hf, _⟩ := Reg.kcell hW
        simp only [Act.put, List.setIfInBounds_toArray, List.set_cons_zero, List.set_cons_succ] at hK
        unfold Reg.Does
        go_simp
        try simp only [IntWalk.i64_left]
        first
          | exact hK _ (Below.refl _ _)
          | (go_at_call 26; (with_reducible refine (HH.out W).mono ?_); rintro e w' ⟨rfl, hb⟩; exact hK _ hb)
          | (trace_state; fail)
      rotate_left 1
      · intro δ δ' hd; first | rfl | (simp only [hd _ (show Reg.reach _ 12 _ _ = true by kernel_rfl)])
      · intro x w; first | exact trivial | (intro e; exact absurd e (by decide)) | exact ⟨fun e => absurd e (by decide), fun e => absurd e (by decide)⟩
      simp only [Act.put, List.setIfInBounds_toArray, List.set_cons_zero, List.set_cons_succ, List.nil_append, List.cons_append, Nat.reduceAdd, Nat.zero_add]
    refine Reg.SeqE.eff (fun e h => by simp at h) (fun δ W5 hW5 hkn hT5 K hK => ?_) ?_
    · have HX := Lib.hid (next_any gp gd q sh W5 hT5 HQ.out.1)
      simp only [Act.put, List.setIfInBounds_toArray, List.set_cons_zero, List.set_cons_succ] at hK
      unfold Reg.Does
      go_simp
      refine HX.out.mono ?_
      rintro e w6 ⟨rfl, hp6, hk6⟩
      exact hK _ _ hk6 rfl hp6
    simp only [Act.put, List.setIfInBounds_toArray, List.set_cons_zero, List.set_cons_succ, List.nil_append, List.cons_append, Nat.reduceAdd, Nat.zero_add]
    iterate 1
      apply Reg.SeqE.val
      rotate_left 2
      · intro δ W hW hkn K hK
        obtain ⟨hc, hf, _⟩ := Reg.kcell hW
        simp only [Act.put, List.setIfInBounds_toArray, List.set_cons_zero, List.set_cons_succ] at hK
        unfold Reg.Does
        go_simp
        try simp only [IntWalk.i64_left]
        first
          | exact hK _ (Below.refl _ _)
          | (trace_state; fail)
      rotate_left 1
      · intro δ δ' hd; first | rfl | (simp only [hd _ (show Reg.reach _ 12 _ _ = true by kernel_rfl)])
      · intro x w; first | exact trivial | (intro e; exact absurd e (by decide)) | exact ⟨fun e => absurd e (by decide), fun e => absurd e (by decide)⟩
      simp only [Act.put, List.setIfInBounds_toArray, List.set_cons_zero, List.set_cons_succ, List.nil_append, List.cons_append, Nat.reduceAdd, Nat.zero_add]
    refine Reg.SeqE.val (fun δ => δ 3) (fun δ δ' hd => hd 3 (by kernel_rfl)) (fun _ _ => trivial) (fun δ W hW hkn K hK => ?_) ?_
    · simp only [Act.put, List.setIfInBounds_toArray, List.set_cons_zero, List.set_cons_succ] at hK
      unfold Reg.Does
      go_simp
      exact hK _ (Below.refl _ _)
    simp only [Act.put, List.setIfInBounds_toArray, List.set_cons_zero, List.set_cons_succ, List.nil_append, List.cons_append, Nat.reduceAdd, Nat.zero_add]
    refine Reg.SeqE.nil (fun δ W hW hkn hT => ?_)
    have e3 : δ 3 = .string (str (q.headD [])) := hkn 3 (by omega)
    have HP1 : Hid (PrfAt W gp gd q.tail (sh || (q.headD []).isEmpty)) := hT
    have HW := Lib.hid hW
    have HE1 := Lib.hid (HE.out.keep hW)
    have HSM := Lib.hid (sm_headD HQ.out.2)
    rw [e3]
    obtain ⟨x, hx⟩ : ∃ x, x = q.headD [] := ⟨_, rfl⟩
    rw [← hx] at HP1 HSM ⊢
    have HX := Lib.hid hx
    clear hx
    clear e3 hT hkn hW cl cv cc fl fv fc zl zv zc δ
    obtain ⟨cc, fc, zc⟩ := HE1.out.c.facts
    have HTW : Hid (∀ W', Reg.Keep (prM gp gd) W W' → Tabs W') := fun W' h => HTK.out W' (keep_trans HW.out h)
    have HQ1 : Hid (q.tail.length ≤ 1000001 ∧ ∀ t ∈ q.tail, Sm t) := ⟨by have := HQ.out.1; simp; omega, sm_tail HQ.out.2⟩
    by_cases hik : m ≤ k
    · have hik' : (m : Int) ≤ (k : Int) := by omega
      have HR := Lib.hid (IH.out k q2 m whole q.tail _ W hm1 hik (by omega) HP1.out HQ1.out.1 HQ1.out.2 HE1.out HTW.out)
      have SB := both_sm k m whole d q.tail hd HQ1.out.2
      obtain ⟨p, hpe⟩ : ∃ p, p = bothT k m whole d q.tail := ⟨_, rfl⟩
      rw [← hpe] at HR SB
      have HPE := Lib.hid hpe
      have HSB := Lib.hid SB
      clear hpe SB
      go_wp2_with fail
      (with_reducible refine HR.out.mono ?_); rintro e w7 ⟨rfl, hp7, hk7⟩
      have HP7 := Lib.hid hp7
      have HK7 := Lib.hid hk7
      have HN := Lib.hid (node_any p.2 x w7 (HTW.out _ hk7) HSB.out.2 HSM.out)
      clear hp7 hk7
      go_wp2_with fail
      (with_reducible refine HN.out.mono ?_); rintro e w8 ⟨rfl, hb8⟩
      have HB8 := Lib.hid hb8
      clear hb8
      go_wp2_with fail
      rw [both_left _ _ _ hlt h2 (by rw [← HK.out]; exact hik), ← HK.out, ← HX.out, ← HPE.out, long_left whole hlt h2 (by rw [← HK.out]; exact hik), ← HK.out]
      refine bodyPost_ret (v := .tuple #[.string (str p.1), .string (str (node p.2 x))]) (by simp [results, Tryz.results40, go_sem]) rfl ⟨rfl, ?_, keep_trans HW.out (keep_trans HK7.out (keep_below HB8.out))⟩
      have h := HP7.out.below HB8.out
      rw [Nat.add_comm, popsS, ← HX.out, show q.drop (longT k m whole + 1) = q.tail.drop (longT k m whole) by cases q <;> simp]
      exact h
    · have hik' : ¬ (m : Int) ≤ (k : Int) := by omega
      have hs1 : IntKind.i64.wrap ((n : Int) - (k : Int)) = ((n - k : Nat) : Int) := by rw [IntWalk.i64_left, IntWalk.wrap64_in _ (by omega)]; omega
      have hs2 : IntKind.i64.wrap ((m : Int) - (k : Int)) = ((m - k : Nat) : Int) := by rw [IntWalk.i64_left, IntWalk.wrap64_in _ (by omega)]; omega
      have HR := Lib.hid (IH.out (n - k) (by omega) (m - k) false q.tail _ W (by omega) (by omega) (by omega) HP1.out HQ1.out.1 HQ1.out.2 HE1.out HTW.out)
      have SB := both_sm (n - k) (m - k) false d q.tail hd HQ1.out.2
      obtain ⟨p, hpe⟩ : ∃ p, p = bothT (n - k) (m - k) false d q.tail := ⟨_, rfl⟩
      rw [← hpe] at HR SB
      have HPE := Lib.hid hpe
      have HSB := Lib.hid SB
      obtain ⟨a, ha⟩ : ∃ a, a = n - k := ⟨_, rfl⟩
      obtain ⟨b, hb⟩ : ∃ b, b = m - k := ⟨_, rfl⟩
      rw [← ha, ← hb] at HR
      rw [← ha] at hs1
      rw [← hb] at hs2
      have HAB := Lib.hid (And.intro ha hb)
      clear ha hb hpe SB
      go_wp2_with fail
      (with_reducible refine HR.out.mono ?_); rintro e w7 ⟨rfl, hp7, hk7⟩
      have HP7 := Lib.hid hp7
      have HK7 := Lib.hid hk7
      have HN := Lib.hid (node_any x p.1 w7 (HTW.out _ hk7) HSM.out HSB.out.1)
      have HT7 := Lib.hid (HTW.out _ hk7)
      clear hp7 hk7
      go_wp2_with fail
      (with_reducible refine HN.out.mono ?_); rintro e w8 ⟨rfl, hb8⟩
      have HN2 := Lib.hid (node_any x p.2 w8 (HT7.out.below hb8) HSM.out HSB.out.2)
      have HB8 := Lib.hid hb8
      clear hb8
      go_wp2_with fail
      (with_reducible refine HN2.out.mono ?_); rintro e w9 ⟨rfl, hb9⟩
      have HB9 := Lib.hid (HB8.out.trans (hb9.mono HB8.out.size))
      clear hb9
      go_wp2_with fail
      have hnk : ¬ m ≤ hf n := by rw [← HK.out]; exact hik
      rw [both_right _ _ _ hlt h2 hnk, ← HK.out, ← HX.out, ← HPE.out, long_right whole hlt h2 hnk, ← HK.out, ← HAB.out.1, ← HAB.out.2]
      refine bodyPost_ret (v := .tuple #[.string (str (node x p.1)), .string (str (node x p.2))]) (by simp [results, Tryz.results40, go_sem]) rfl ⟨rfl, ?_, keep_trans HW.out (keep_trans HK7.out (keep_below HB9.out))⟩
      have h := HP7.out.below HB9.out
      rw [Nat.add_comm, popsS, ← HX.out, show q.drop (longT a b false + 1) = q.tail.drop (longT a b false) by cases q <;> simp]
      exact h

end S
end Go.Proofs.YtejhefmcinohhaaGreatDoor

/- Trees: 'Extends'. -/
namespace Go.Proofs.YtejhefmcinohhaaGreatDoor
open Go.RowKit
namespace S

/-- What 'Extends' answers. -/
def extB (old : Tx) (m : Int) (root : Tx) (n : Int) (p : List Tx) : Bool :=
  decide (0 ≤ m) && decide (m ≤ n) && decide (n ≤ 1000000) && p.all isD && (isD old && isD root) &&
    (if m = 0 then p.length == 0 && (old == empT && (decide (0 < n) || root == old))
     else (bothT n.toNat m.toNat true old p.reverse).1 == old && ((bothT n.toNat m.toNat true old p.reverse).2 == root && p.length == longT n.toNat m.toNat true))
theorem ext_done {n m : Nat} {q : List Tx} (h : ∀ t ∈ q, isD t = true) : (!popsS (longT n m true) q false && (q.drop (longT n m true)).isEmpty) = (q.length == longT n m true) := by
  rw [pops_spec _ _ _ (fun t ht => isD_ne (h t ht))]
  simp only [Bool.false_or]
  rw [Bool.eq_iff_iff]
  simp
  omega
theorem total_nil (w : World) (ht : Tabs w) : Calls Tryz.prog 23 #[.slice none 0 0] w fun e w' => e = .returned (.string (str empT)) ∧ Below w.heap.size w w' := by
  have h := total_any [] none 0 w (by simp) ht (fun i hi => by simp at hi) (by simp) (by omega) (fun _ => rfl) (by simp)
  rw [root_nil] at h
  exact h

set_option maxHeartbeats 2000000 in
theorem extends_any (old : Tx) (m : Int) (root : Tx) (n : Int) (l : List Tx) (A : Option Addr) (c : Nat) (w : World) (hn : l.length ≤ 1000000) (ht : Tabs w) (hl : StrsAt w A l) (hc : l.length ≤ c) (hc2 : c ≤ 9223372036854775807) (hA : A = none → c = 0) (hs : ∀ t ∈ l, t.length ≤ 9223372036854775807) (ho : old.length ≤ 9223372036854775807) (hr : root.length ≤ 9223372036854775807) :
    Calls Tryz.prog 17 #[.string (str old), .int .i64 m, .string (str root), .int .i64 n, .slice A l.length c] w fun e w' => e = .returned (.bool (extB old m root n l)) ∧ Below w.heap.size w w' := by
  have HC := Lib.hid (fun (W : World) (hb : Below w.heap.size w W) => clone_any l A c W hn (hl.below hb) hc hc2 hA)
  have HT := Lib.hid ht
  have HN := Lib.hid (And.intro hn (And.intro hs (And.intro ho hr)))
  have hlen : l.length ≤ 9223372036854775807 := by omega
  have hstl := str_toList
  clear ht hl hs hA hc hc2 ho hr
  go_enter Tryz.func17, Tryz.ntmps17
  go_wp2_with fail
  have hb0 : Below w.heap.size w (w.alloc (.cells #[.string (str old)] 9)) := (Below.refl _ _).alloc (Nat.le_refl _) _
  (with_reducible refine (HC.out _ hb0).mono ?_); rintro e w1 ⟨⟨v, rfl, A', c', rfl, hs1, hc1, hc3, hA1, hf1⟩, hb1⟩
  have G0 : Reg.Blk w.heap.size #[.string (str old)] 9 w1 := Reg.Blk.new1 hb1
  have hb01 : Below w.heap.size w w1 := hb0.trans (hb1.mono hb0.size)
  have HB := Lib.hid hb01
  have HG0 := Lib.hid G0
  have HS := Lib.hid hs1
  have HF := Lib.hid (And.intro hc1 (And.intro hc3 (And.intro hA1 hf1)))
  obtain ⟨c0, f0, z0⟩ := G0.facts
  clear hb0 hb1 hb01 G0 hs1 hc1 hc3 hA1 hf1 HC
  have HP := Lib.hid (fun (W : World) (hb : Below w1.heap.size w1 W) => proper_any A' c' l W (HS.out.below hb) (by have := HN.out.1; omega) HN.out.2.1)
  by_cases hm0 : 0 ≤ m
  case neg =>
    have hm0' : m < 0 := by omega
    have E : Hid (extB old m root n l = false) := by unfold Hid extB; simp [hm0]
    go_wp2_with fail
    go_ret
    exact ⟨by rw [E.out]; rfl, HB.out.alloc HB.out.size _⟩
  by_cases hmn : m ≤ n
  case neg =>
    have hm0' : ¬ m < 0 := by omega
    have hmn' : m > n := by omega
    have E : Hid (extB old m root n l = false) := by unfold Hid extB; simp [hmn]
    go_wp2_with fail
    go_ret
    exact ⟨by rw [E.out]; rfl, HB.out.alloc HB.out.size _⟩
  by_cases hn1 : n ≤ 1000000
  case neg =>
    have hm0' : ¬ m < 0 := by omega
    have hmn' : ¬ m > n := by omega
    have hn1' : n > 1000000 := by omega
    have E : Hid (extB old m root n l = false) := by unfold Hid extB; simp [hn1]
    go_wp2_with fail
    go_ret
    exact ⟨by rw [E.out]; rfl, HB.out.alloc HB.out.size _⟩
  have hm0' : ¬ m < 0 := by omega
  have hmn' : ¬ m > n := by omega
  have hn1' : ¬ n > 1000000 := by omega
  have hcl := (Reg.Blk.new w1 #[Value.slice A' l.length c'] 37).facts
  obtain ⟨c1, f1, z1⟩ := hcl
  have hb2 : Below w1.heap.size w1 (w1.alloc (.cells #[.slice A' l.length c'] 37)) := (Below.refl _ _).alloc (Nat.le_refl _) _
  have HP1 := Lib.hid (HP.out _ hb2)
  go_wp2_with fail
  (with_reducible refine HP1.out.mono ?_); rintro e w2 ⟨rfl, hb3⟩
  have HB2 : Hid (Below w1.heap.size w1 w2) := hb2.trans (hb3.mono hb2.size)
  have GD : Hid (Reg.Blk w1.heap.size #[Value.slice A' l.length c'] 37 w2) := Reg.Blk.new1 hb3
  have HG2 : Hid (Reg.Blk w.heap.size #[.string (str old)] 9 w2) := HG0.out.keep HB2.out
  clear hb3 HP1 hb2 c1 f1 z1 c0 f0 z0
  have hbw : Below w.heap.size w w2 := HB.out.trans (HB2.out.mono HB.out.size)
  have HBW := Lib.hid hbw
  clear hbw
  cases hq : l.all isD with
  | false =>
    have E : Hid (extB old m root n l = false) := by unfold Hid extB; simp [hq]
    go_wp2_with fail
    go_ret
    exact ⟨by rw [E.out]; rfl, HBW.out⟩
  | true =>
  obtain ⟨c0, f0, z0⟩ := HG2.out.facts
  have hbL : Below w2.heap.size w2 (w2.alloc (.cells #[.string (str old), .string (str root)] 9)) := (Below.refl _ _).alloc (Nat.le_refl _) _
  have HPR : Hid (Calls Tryz.prog 22 #[.slice (some ⟨w2.heap.size, 0, none⟩) 2 2] (w2.alloc (.cells #[.string (str old), .string (str root)] 9)) fun e w' => e = .returned (.bool ([old, root].all isD)) ∧ Below (w2.alloc (.cells #[.string (str old), .string (str root)] 9)).heap.size (w2.alloc (.cells #[.string (str old), .string (str root)] 9)) w') := Lib.hid (proper_any (some ⟨w2.heap.size, 0, none⟩) 2 [old, root] (w2.alloc (.cells #[.string (str old), .string (str root)] 9)) (strs_lit [old, root] (Reg.Blk.new w2 _ _)) (by simp) (by simpa using HN.out.2.2))
  have HBL := Lib.hid hbL
  clear hbL
  go_wp2_with fail
  (with_reducible refine HPR.out.mono ?_); rintro e w3 ⟨rfl, hb3⟩
  have hb23 : Below w2.heap.size w2 w3 := HBL.out.trans (hb3.mono HBL.out.size)
  have HBW3 : Hid (Below w.heap.size w w3) := HBW.out.trans (hb23.mono HBW.out.size)
  have GD3 : Hid (Reg.Blk w1.heap.size #[Value.slice A' l.length c'] 37 w3) := GD.out.keep hb23
  have HG3 : Hid (Reg.Blk w.heap.size #[.string (str old)] 9 w3) := HG2.out.keep hb23
  have HS3 : Hid (StrsAt w3 A' l) := HS.out.below (HB2.out.trans (hb23.mono HB2.out.size))
  clear hb3 hb23 HPR HBL c0 f0 z0 HP
  have e2 : [old, root].all isD = (isD old && isD root) := by simp
  rw [e2]
  clear e2
  cases hqd : (isD old && isD root) with
  | false =>
    have E : Hid (extB old m root n l = false) := by unfold Hid extB; simp [hqd]
    go_wp2_with fail
    go_ret
    exact ⟨by rw [E.out]; rfl, HBW3.out⟩
  | true =>
  obtain ⟨M, rfl⟩ := Int.eq_ofNat_of_zero_le hm0
  obtain ⟨N, rfl⟩ := Int.eq_ofNat_of_zero_le (show 0 ≤ n by omega)
  obtain ⟨c0, f0, z0⟩ := HG3.out.facts
  by_cases hM : M = 0
  · subst hM
    have E : Hid (extB old ((0 : Nat) : Int) root N l = (l.length == 0 && (old == empT && (decide (0 < N) || root == old)))) := by
      unfold Hid extB
      have e1 : decide ((0 : Int) ≤ ((0 : Nat) : Int)) = true := by simp
      have e2 : decide (((0 : Nat) : Int) ≤ (N : Int)) = true := decide_eq_true hmn
      have e3 : decide ((N : Int) ≤ 1000000) = true := decide_eq_true hn1
      rw [e1, e2, e3, hq, hqd]
      simp
    have HTN := Lib.hid (fun (W : World) (hb : Below w3.heap.size w3 W) => total_nil W (HT.out.below (HBW3.out.trans (hb.mono HBW3.out.size))))
    have hd0 : (((0 : Nat) : Int) == 0) = true := rfl
    generalize hb1 : (l.length == 0) = b1 at E
    have hb1' : ((l.length : Int) == 0) = b1 := by rw [← hb1, Bool.eq_iff_iff]; simp
    generalize hb2 : (old == empT) = b2 at E
    generalize hb4 : (root == old) = b4 at E
    clear hb1 hm0 hmn hn1
    have hN3 : (N = 0 ∧ decide (0 < N) = false) ∨ ((¬ N = 0 ∧ (0 : Int) < (N : Int)) ∧ decide (0 < N) = true) := by
      rcases Nat.eq_zero_or_pos N with h | h
      · exact .inl ⟨h, by rw [h]; rfl⟩
      · exact .inr ⟨⟨by omega, by omega⟩, decide_eq_true h⟩
    rcases hN3 with ⟨rfl, h3⟩ | ⟨⟨hNz, hNp⟩, h3⟩ <;> rw [h3] at E <;> clear h3 <;> cases b1 <;> cases b2
    all_goals
      go_wp2_with fail
      refine Reg.wp_region_seq (by kernel_rfl) (by kernel_rfl) ?_
      simp only
      iterate 18
        apply Reg.SeqOK.val
        · intro γ W hW K hK
          obtain ⟨hc, hf, _⟩ := bcell hW
          simp only [Act.put, List.setIfInBounds_toArray, List.set_cons_zero, List.set_cons_succ] at hK
          unfold Reg.Does
          go_simp
          try simp only [IntWalk.i64_left]
          first
            | exact hK _ (Below.refl _ _)
            | (go_at_call 23; (with_reducible refine (HTN.out _ hW).mono ?_); rintro e w' ⟨rfl, hb⟩; exact hK _ hb)
            | (trace_state; fail)
        simp only [Act.put, List.setIfInBounds_toArray, List.set_cons_zero, List.set_cons_succ, List.nil_append, List.cons_append, Nat.reduceAdd, Nat.zero_add]
      refine Reg.SeqOK.nil (by kernel_rfl) (fun γ W hW _ _ _ => ?_)
      have HBF := Lib.hid (HBW3.out.trans (hW.mono HBW3.out.size))
      clear hW
      go_wp2_with fail
      go_ret
      exact ⟨(congrArg (fun b => Ending.returned (Value.bool b)) E.out).symm, HBF.out⟩
  · have hM1 : 1 ≤ M := by omega
    have hMN : M ≤ N := by omega
    have hMz : ((M : Int) == 0) = false := by simp; omega
    have hMz' : ¬ M = 0 := hM
    obtain ⟨W, hW⟩ : ∃ W, W = (((w3.alloc (.cells #[Value.pointer (some ⟨w1.heap.size, 0, none⟩), Value.bool false] 47)).alloc (.cells #[Value.pointer (some ⟨w3.heap.size, 0, none⟩)] 44)).alloc (.cells #[bothF w.heap.size (w3.heap.size + 1) (w3.heap.size + 1 + 1)] 53)) := ⟨_, rfl⟩
    obtain ⟨b1, b2, b3⟩ := Reg.Blk.new3 (Below.refl _ (((w3.alloc (.cells #[Value.pointer (some ⟨w1.heap.size, 0, none⟩), Value.bool false] 47)).alloc (.cells #[Value.pointer (some ⟨w3.heap.size, 0, none⟩)] 44)).alloc (.cells #[bothF w.heap.size (w3.heap.size + 1) (w3.heap.size + 1 + 1)] 53)))
    rw [← hW] at b1 b2 b3
    have hb3W : Below w3.heap.size w3 W := by
      rw [hW]
      exact (((Below.refl _ _).alloc (Nat.le_refl _) _).alloc (by simp) _).alloc (by simp; omega) _
    have BW := Lib.hid (HBW3.out.trans (hb3W.mono HBW3.out.size))
    have hz3 := hb3W.size
    have hdl := GD3.out.lt
    have h0l := HG3.out.lt
    have hgl := HG0.out.lt
    have hp : PrfAt W w3.heap.size w1.heap.size l.reverse false := by
      refine ⟨b1, ⟨.inr rfl, A', c', ?_, ?_, by simpa using HF.out.1, HF.out.2.1, HF.out.2.2.1, fun b off e => ?_⟩, by omega⟩
      · rw [List.length_reverse]; exact GD3.out.keep hb3W
      · rw [List.reverse_reverse]; exact HS3.out.below hb3W
      · have := HF.out.2.2.2 b off e; omega
    have he : BothEnv W w.heap.size (w3.heap.size + 1) (w3.heap.size + 1 + 1) w3.heap.size w1.heap.size old _ _ _ := ⟨HG3.out.keep hb3W, b2, b3, by unfold prM; omega, by unfold prM; omega, by unfold prM; omega⟩
    have hw1 : w.heap.size ≤ w1.heap.size := HB.out.size
    have hkb : Hid (∀ W', Reg.Keep (prM w3.heap.size w1.heap.size) W W' → Below w.heap.size W W') := fun W' hk => hk.below fun k hk => ⟨Nat.lt_of_lt_of_le hk BW.out.size, by unfold prM; omega⟩
    have hds := fun t (ht : t ∈ l.reverse) => List.all_eq_true.1 hq t (List.mem_reverse.1 ht)
    have hsm : Sm old := isD_sm (by simp at hqd; exact hqd.1)
    have HK := Lib.hid (both_any w.heap.size (w3.heap.size + 1) (w3.heap.size + 1 + 1) w3.heap.size w1.heap.size old _ _ _ hsm N M true l.reverse false W hM1 hMN (by omega) hp (by have := HN.out.1; simp; omega) (fun t ht => isD_sm (hds t ht)) he (fun W' hk => HT.out.below (BW.out.trans (hkb.out W' hk))))
    have E : Hid (extB old M root N l = ((bothT N M true old l.reverse).1 == old && ((bothT N M true old l.reverse).2 == root && (!popsS (longT N M true) l.reverse false && (l.reverse.drop (longT N M true)).isEmpty)))) := by
      unfold Hid
      rw [ext_done hds, List.length_reverse]
      unfold extB
      have e1 : decide ((0 : Int) ≤ (M : Int)) = true := decide_eq_true (by omega)
      have e2 : decide ((M : Int) ≤ (N : Int)) = true := decide_eq_true (by omega)
      have e3 : decide ((N : Int) ≤ 1000000) = true := decide_eq_true (by omega)
      have e4 : ¬ (M : Int) = 0 := by omega
      rw [e1, e2, e3, hq, hqd, if_neg e4]
      simp
    have HE := Lib.hid he
    clear b1 b2 b3 hb3W hz3 hdl h0l hgl hp he hw1 hds hsm hM
    go_wp2_with fail
    rw [← hW]
    clear hW
    (with_reducible refine HK.out.mono ?_); rintro e w5 ⟨rfl, hp5, hk5⟩
    have hv5 := (HE.out.keep hk5).v
    have hl5 := (HE.out.keep hk5).l
    obtain ⟨cv, fv, zv⟩ := hv5.facts
    clear c0 f0 z0
    obtain ⟨c0, f0, z0⟩ := hl5.facts
    have HD := Lib.hid (done_any _ _ _ _ w5 hp5 (by have := HN.out.1; simp; omega))
    have BF := Lib.hid (BW.out.trans (hkb.out w5 hk5))
    have E2 := Lib.hid E.out
    generalize bothT N M true old l.reverse = u at *
    generalize (!popsS (longT N M true) l.reverse false && (l.reverse.drop (longT N M true)).isEmpty) = dn at *
    clear hp5 hk5 hv5 hl5 HE HK
    cases hur : (u.1 == old) with
    | false =>
      rw [hur] at E2
      go_wp2_with fail
      go_ret
      exact ⟨(congrArg (fun b => Ending.returned (Value.bool b)) E2.out).symm, BF.out⟩
    | true =>
      rw [hur] at E2
      cases hus : (u.2 == root) with
      | false =>
        rw [hus] at E2
        go_wp2_with fail
        go_ret
        exact ⟨(congrArg (fun b => Ending.returned (Value.bool b)) E2.out).symm, BF.out⟩
      | true =>
        rw [hus] at E2
        go_wp2_with fail
        (with_reducible refine HD.out.mono ?_); rintro e w6 ⟨rfl, rfl⟩
        go_wp2_with fail
        go_ret
        exact ⟨by rw [E2.out]; simp, BF.out⟩

end S
end Go.Proofs.YtejhefmcinohhaaGreatDoor
