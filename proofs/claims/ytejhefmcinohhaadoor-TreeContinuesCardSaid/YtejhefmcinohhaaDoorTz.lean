/- Trees: the walk of 'TreeContinues'. -/
import Derived.Test.YtejhefmcinohhaaDoorTy
set_option linter.unusedSimpArgs false
set_option linter.unusedVariables false
set_option maxRecDepth 100000
namespace Go.Proofs.YtejhefmcinohhaaDoor
open Go.RowKit
namespace S

theorem does_appO {ops : Array Oper} {o : Oper} {a : Act} {K : Act → World → Prop} {w : World} (hw : Region.wanted o (yielded ops a.tmps) = true) (s x : Operand) (ho : o.op = .call { callee := .builtin .append, args := #[s, x], argTypes := #[22, 22] })
    {B cap n c : Nat} {A0 A : Option Addr} {l m : List Tx} (hs : a.eval s = .slice A0 l.length cap) (hx : a.eval x = .slice A n c) (hown : Own B w (.slice A0 l.length cap) l) (hm : Lst w A n c m) (hn : l.length + n ≤ 1000000) (hB : B ≤ w.heap.size)
    (h : ∀ A' c' w', Own B w' (.slice A' (l ++ m).length c') (l ++ m) → Reg.Keep (fun q => B ≤ q) w w' → K (a.put o.dst (.slice A' (l ++ m).length c')) w') :
    Reg.Does Tryd.prog ops o a w K := by
  obtain ⟨i0, hi0, hz⟩ := Option.map_eq_some_iff.1 info_str
  simp only [Prod.mk.injEq] at hz
  obtain ⟨hz0, hz1, hz2⟩ := hz
  obtain ⟨h1, rfl, h3, h4, h5⟩ := hm
  refine Ap.does_appX Tryd.underlying22 hi0 hz0 hz1 hz2 rfl (by omega) (by omega) hw s x ho hs hx hown (src_of h1) h5 hn hB ?_
  intro A' c' w' ho' hg _
  have e1 : (l ++ m).length = l.length + m.length := by simp
  have := h A' c' w' (by
    show World.ownsRow _ _ _ _ _ _ _
    rw [e1, show sv (l ++ m) = sv l ++ sv m by simp [sv]]
    exact ho') ⟨hg.os, hg.tape, hg.output, hg.size, fun k hk hn => hg.block k hk (fun e => hn (by
      have h0 : w.ownsRow B 9 1 (.slice A0 l.length cap) l.length (sv l) := hown
      exact (h0.lt k e.symm).1))⟩
  rw [e1] at this
  exact this
/-- A list that owns its block, as a value. -/
def OwS (B : Nat) (w : World) (v : Value) (l : List Tx) : Prop := ∃ A c, v = .slice A l.length c ∧ Own B w v l
theorem OwS.below {B : Nat} {w w' : World} {v : Value} {l : List Tx} (h : OwS B w v l) (hb : Below w.heap.size w w') : OwS B w' v l := by
  obtain ⟨A, c, e, ho⟩ := h
  exact ⟨A, c, e, ho.below hb⟩
def coT (B : Nat) (l m k : List Tx) : List Value → World → Prop
  | [], _ => True
  | [v0], w => OwS B w v0 l
  | [v0, v1], w => OwS B w v0 l ∧ OwS B w v1 m
  | [_, _, v2], w => OwS B w v2 (l ++ m)
  | [_, _, v2, v3], w => OwS B w v2 (l ++ m) ∧ OwS B w v3 k
  | _ :: _ :: _ :: _ :: v4 :: _, w => OwS B w v4 (l ++ m ++ k)
theorem coT_s {B : Nat} {l m k : List Tx} : ∀ vs w w', coT B l m k vs w → Below w.heap.size w w' → coT B l m k vs w' := fun vs w w' h hb => by
  match vs, h with
  | [], _ => trivial
  | [v0], h => exact OwS.below h hb
  | [v0, v1], ⟨h1, h2⟩ => exact ⟨h1.below hb, h2.below hb⟩
  | [_, _, v2], h => exact OwS.below h hb
  | [_, _, v2, v3], ⟨h1, h2⟩ => exact ⟨h1.below hb, h2.below hb⟩
  | _ :: _ :: _ :: _ :: v4 :: _, h => exact OwS.below h hb
theorem to_L {W : World} {A : Option Addr} {n c k : Nat} {l : List Tx} (h : Lst W A n c l) (hk : k ≤ n) :
    ∃ A', (∀ w, (Instr.slice 22 (.slice A n c) none (some (.int .i64 (k : Int))) none).run Tryd.prog w = .ok (.slice A' k c) w) ∧ Lst W A' k c (l.take k) := by
  obtain ⟨h1, rfl, h3, h4, h5⟩ := h
  obtain ⟨A', e1, e2, e3⟩ := strs_to (l := l) (A := A) (c := c) (k := k) h5 hk h3
  exact ⟨A', e2, e3 W h1, by rw [List.length_take]; omega, by omega, h4, e1⟩
theorem ext_true {old root : Tx} {m n : Nat} {p : List Tx} (h : extB old m root n p = true) (hm : 1 ≤ m) : p.all isD = true ∧ (bothT n m true old p.reverse).1 = old ∧ (bothT n m true old p.reverse).2 = root ∧ p.length = longT n m true := by
  unfold extB at h
  have hm0 : ¬ (m : Int) = 0 := by omega
  rw [if_neg hm0] at h
  simp only [Bool.and_eq_true, decide_eq_true_eq, beq_iff_eq, Int.toNat_natCast] at h
  exact ⟨h.1.1.2, h.2.1, h.2.2.1, h.2.2.2⟩

theorem keepGE {B : Nat} {w w' : World} (h : Reg.Keep (fun q => B ≤ q) w w') (hB : B ≤ w.heap.size) : Below B w w' := h.below fun q hq => ⟨by omega, by omega⟩

/-- The law: either the beginning, or a collision. -/
theorem cont_law (a l p : List Tx) (hla : 1 ≤ a.length) (hle : a.length ≤ l.length) (ga : a.all isD = true) (gl : l.all isD = true) (gp : ∀ t ∈ p, Sm t) (hx : extB (rootT a) a.length (rootT l) l.length p = true) (hne : ¬ a = l.take a.length) :
    shownB (textsT a ++ textsT l ++ textsT (l.take a.length) ++ linkTexts l.length a.length true (rootT a) p.reverse) = true := by
  obtain ⟨_, e1, e2, _⟩ := ext_true hx hla
  rw [shown_iff]
  have sl := dig_sm gl
  have sa := dig_sm ga
  rcases conts_law l.length l a.length true (rootT a) p.reverse rfl hla hle sl (fun t ht => gp t (List.mem_reverse.1 ht)) (root_sm _ sa) e2 with h | h
  · rw [e1] at h
    rcases roots_law a.length a (l.take a.length) rfl (by simp; omega) sa (sm_take sl _) h with h | h
    · exact absurd h hne
    · exact h.mono fun t ht => by simp only [List.mem_append] at ht ⊢; rcases ht with ht | ht <;> simp [ht]
  · exact h.mono fun t ht => by simp only [List.mem_append] at ht ⊢; rcases ht with ht | ht <;> simp [ht]
/-- Without elements, all is linked. -/
theorem cont_nil (l p : List Tx) (gl : l.all isD = true) (hne : ¬ ([] : List Tx) = l.take 0) : False := hne (by simp)

attribute [local go_sem ↓ high] Ap.builtin_appA in
set_option maxHeartbeats 8000000 in
theorem conts_walk (A : Option Addr) (c : Nat) (a : List Tx) (B : Option Addr) (d : Nat) (l : List Tx) (C : Option Addr) (f : Nat) (p : List Tx) (w : World)
    (hl : StrsAt w A a) (hn : (a.length ≤ c ∧ c ≤ maxLen) ∧ (A = none → c = 0)) (hb : ∀ t ∈ a, t.length ≤ maxLen)
    (hl2 : StrsAt w B l) (hn2 : (l.length ≤ d ∧ d ≤ maxLen) ∧ (B = none → d = 0)) (hb2 : ∀ t ∈ l, t.length ≤ maxLen)
    (hl3 : StrsAt w C p) (hn3 : (p.length ≤ f ∧ f ≤ maxLen) ∧ (C = none → f = 0)) (hb3 : ∀ t ∈ p, t.length ≤ maxLen) (hta : Tabs w) :
    Calls Tryd.prog 7 #[.slice A a.length c, .slice B l.length d, .slice C p.length f] w fun e w' => e = .returned (.bool true) ∧ Below w.heap.size w w' := by
  have HT := Lib.hid hta
  have HA := Lib.hid (lst_of hl hn)
  have HL := Lib.hid (lst_of hl2 hn2)
  have HP := Lib.hid (lst_of hl3 hn3)
  have TA := Lib.hid (txb_of hb)
  have TL := Lib.hid (txb_of hb2)
  have TP := Lib.hid (txb_of hb3)
  have HH := Lib.hid (head_any w hta)
  have hstl := str_toList
  clear hta hl hn hb hl2 hn2 hb2 hl3 hn3 hb3
  obtain ⟨na, hna⟩ : ∃ n, n = a.length := ⟨_, rfl⟩
  obtain ⟨nl, hnl⟩ : ∃ n, n = l.length := ⟨_, rfl⟩
  obtain ⟨np, hnp⟩ : ∃ n, n = p.length := ⟨_, rfl⟩
  have HNA := Lib.hid hna
  have HNL := Lib.hid hnl
  have HNP := Lib.hid hnp
  rw [← hna] at HA ⊢
  rw [← hnl] at HL ⊢
  rw [← hnp] at HP ⊢
  have hn1 : na ≤ 9223372036854775807 := by have := HA.out.cap; have := HA.out.max; omega
  have hn2 : nl ≤ 9223372036854775807 := by have := HL.out.cap; have := HL.out.max; omega
  have hn3 : np ≤ 9223372036854775807 := by have := HP.out.cap; have := HP.out.max; omega
  clear hna hnl hnp
  go_enter Tryd.func7, Tryd.ntmps7
  go_wp2_with fail
  (with_reducible refine HH.out.mono ?_); rintro e w1 ⟨rfl, hb1⟩
  have HB := Lib.hid hb1
  replace HT := Lib.hid (HT.out.below hb1)
  replace HA := Lib.hid (HA.out.below hb1)
  replace HL := Lib.hid (HL.out.below hb1)
  replace HP := Lib.hid (HP.out.below hb1)
  clear hb1 HH
  have HG := Lib.hid (good_L HA.out TA.out)
  go_wp2_with fail
  (with_reducible refine HG.out.mono ?_); rintro e w2 ⟨rfl, hb2⟩
  replace HB := Lib.hid (HB.out.trans (hb2.mono HB.out.size))
  replace HT := Lib.hid (HT.out.below hb2)
  replace HA := Lib.hid (HA.out.below hb2)
  replace HL := Lib.hid (HL.out.below hb2)
  replace HP := Lib.hid (HP.out.below hb2)
  clear hb2 HG
  cases hg : goodB a with
  | false =>
    go_wp2_with fail
    go_ret
    exact ⟨rfl, HB.out⟩
  | true =>
  have GA := Lib.hid (good_all hg)
  have FA := Lib.hid (good_few hg)
  clear hg
  have HG := Lib.hid (good_L HL.out TL.out)
  go_wp2_with fail
  (with_reducible refine HG.out.mono ?_); rintro e w3 ⟨rfl, hb2⟩
  replace HB := Lib.hid (HB.out.trans (hb2.mono HB.out.size))
  replace HT := Lib.hid (HT.out.below hb2)
  replace HA := Lib.hid (HA.out.below hb2)
  replace HL := Lib.hid (HL.out.below hb2)
  replace HP := Lib.hid (HP.out.below hb2)
  clear hb2 HG
  cases hg : goodB l with
  | false =>
    go_wp2_with fail
    go_ret
    exact ⟨rfl, HB.out⟩
  | true =>
  have GL := Lib.hid (good_all hg)
  have FL := Lib.hid (good_few hg)
  clear hg
  have HF2 := Lib.hid (few_L HP.out)
  go_wp2_with fail
  (with_reducible refine HF2.out.mono ?_); rintro e w3 ⟨rfl, rfl⟩
  clear HF2
  cases hf : fewT p with
  | false =>
    go_wp2_with fail
    go_ret
    exact ⟨rfl, HB.out⟩
  | true =>
  have FP := Lib.hid hf
  clear hf
  by_cases hle : na ≤ nl
  rotate_left
  · have hle' : (na : Int) > (nl : Int) := by omega
    go_wp2_with fail
    go_ret
    exact ⟨rfl, HB.out⟩
  have hle' : ¬ (na : Int) > (nl : Int) := by omega
  have hled : decide (nl < na) = false := decide_eq_false (by omega)
  have hl20 : nl ≤ 20 := by have := few_n FL.out; have := HNL.out; omega
  have hp20 : np ≤ 20 := by have := few_n FP.out; have := HNP.out; omega
  have HLE := Lib.hid hle
  have HRa := rooted_L HA.out (by omega) HT.out TA.out
  rw [rooted_all GA.out] at HRa
  have HRa := Lib.hid HRa
  have LAW := Lib.hid (fun h1 => cont_law a l p h1 (by rw [← HNA.out, ← HNL.out]; exact HLE.out) GA.out GL.out (fun t ht => (few_sh FP.out t ht).sm))
  have SA := Lib.hid (root_sh a (dig_sh GA.out))
  have SL := Lib.hid (root_sh l (dig_sh GL.out))
  rw [← HNA.out, ← HNL.out] at LAW
  generalize hra : rootT a = ra at *
  generalize hrl : rootT l = rl at *
  have HRL : Hid (rootedT l = rl) := by unfold Hid; rw [rooted_all GL.out, hrl]
  have HRA2 : Hid (rootedT a = ra) := by unfold Hid; rw [rooted_all GA.out, hra]
  clear hra hrl hle
  go_wp2_with fail
  (with_reducible refine HRa.out.mono ?_); rintro e w4 ⟨rfl, hb2⟩
  replace HB := Lib.hid (HB.out.trans (hb2.mono HB.out.size))
  replace HT := Lib.hid (HT.out.below hb2)
  replace HA := Lib.hid (HA.out.below hb2)
  replace HL := Lib.hid (HL.out.below hb2)
  replace HP := Lib.hid (HP.out.below hb2)
  clear hb2 HRa
  have HRl := rooted_L HL.out (by omega) HT.out TL.out
  rw [HRL.out] at HRl
  have HRl := Lib.hid HRl
  go_wp2_with fail
  (with_reducible refine HRl.out.mono ?_); rintro e w5 ⟨rfl, hb2⟩
  replace HB := Lib.hid (HB.out.trans (hb2.mono HB.out.size))
  replace HT := Lib.hid (HT.out.below hb2)
  replace HA := Lib.hid (HA.out.below hb2)
  replace HL := Lib.hid (HL.out.below hb2)
  replace HP := Lib.hid (HP.out.below hb2)
  clear hb2 HRl
  have HE := Lib.hid (extends_L ra na rl nl HP.out (by omega) HT.out TP.out (by have := SA.out; unfold Sh at this; omega) (by have := SL.out; unfold Sh at this; omega))
  cases hx : extB ra na rl nl p with
  | false =>
    rw [hx] at HE
    go_wp2_with fail
    (with_reducible refine HE.out.mono ?_); rintro e w6 ⟨rfl, hb2⟩
    replace HB := Lib.hid (HB.out.trans (hb2.mono HB.out.size))
    clear hb2
    go_wp2_with fail
    go_ret
    exact ⟨rfl, HB.out⟩
  | true =>
  rw [hx] at HE
  have HX := Lib.hid hx
  clear hx
  go_wp2_with fail
  (with_reducible refine HE.out.mono ?_); rintro e w6 ⟨rfl, hb2⟩
  replace HB := Lib.hid (HB.out.trans (hb2.mono HB.out.size))
  replace HT := Lib.hid (HT.out.below hb2)
  replace HA := Lib.hid (HA.out.below hb2)
  replace HL := Lib.hid (HL.out.below hb2)
  replace HP := Lib.hid (HP.out.below hb2)
  clear hb2 HE
  obtain ⟨At, hsl, ht⟩ := to_L HL.out HLE.out
  have HTk := Lib.hid ht
  have HSm := Lib.hid (same_L HA.out ht)
  have hnal : (na : Int) ≤ (nl : Int) := by have := HLE.out; omega
  clear ht
  by_cases heq : a = l.take na
  · rw [decide_eq_true heq] at HSm
    clear heq
    go_wp2_with fail
    (with_reducible refine HSm.out.mono ?_); rintro e w7 ⟨rfl, hb2⟩
    replace HB := Lib.hid (HB.out.trans (hb2.mono HB.out.size))
    clear hb2
    go_wp2_with fail
    go_ret
    exact ⟨rfl, HB.out⟩
  rw [decide_eq_false heq] at HSm
  have h1 : 1 ≤ na := by
    rcases Nat.eq_zero_or_pos na with h | h
    · exfalso
      subst h
      exact heq (by rw [List.eq_nil_of_length_eq_zero HNA.out.symm]; rfl)
    · exact h
  have H1 := Lib.hid h1
  have hnz : ((na : Int) == 0) = false := by simp; omega
  have hnz' : ¬ (na : Int) = 0 := by omega
  have HSH := Lib.hid (LAW.out h1 HX.out heq)
  have hlong : np = longT nl na true := by rw [HNP.out]; exact (ext_true HX.out h1).2.2.2
  have HLG := Lib.hid hlong
  have HLK : Hid ((lnk l na).length = np) := by
    unfold Hid lnk
    rw [if_neg (by omega), link_len nl l na true HNL.out.symm h1, hlong]
  clear h1 heq hlong
  go_wp2_with fail
  (with_reducible refine HSm.out.mono ?_); rintro e w7 ⟨rfl, hb2⟩
  replace HB := Lib.hid (HB.out.trans (hb2.mono HB.out.size))
  replace HT := Lib.hid (HT.out.below hb2)
  replace HA := Lib.hid (HA.out.below hb2)
  replace HL := Lib.hid (HL.out.below hb2)
  replace HP := Lib.hid (HP.out.below hb2)
  replace HTk := Lib.hid (HTk.out.below hb2)
  clear hb2 HSm
  have HLi := Lib.hid (toLT (link_L na HL.out (by omega) HT.out GL.out HLE.out) rfl HLK.out)
  go_wp2_with fail
  (with_reducible refine HLi.out.mono ?_); rintro e w8 ⟨⟨A5, c5, rfl, hl5⟩, hb2⟩
  replace HB := Lib.hid (HB.out.trans (hb2.mono HB.out.size))
  replace HT := Lib.hid (HT.out.below hb2)
  replace HA := Lib.hid (HA.out.below hb2)
  replace HL := Lib.hid (HL.out.below hb2)
  replace HP := Lib.hid (HP.out.below hb2)
  replace HTk := Lib.hid (HTk.out.below hb2)
  clear hb2 hl5 HLi
  go_wp2_with fail
  have X1 := Lib.hid (fun (W : World) (hk : Reg.Keep (fun q => w8.heap.size ≤ q) w8 W) => texts_L (HA.out.below (keepGE hk (Nat.le_refl _))) (by omega) (dig_sh GA.out))
  have X2 := Lib.hid (fun (W : World) (hk : Reg.Keep (fun q => w8.heap.size ≤ q) w8 W) => texts_L (HL.out.below (keepGE hk (Nat.le_refl _))) (by omega) (dig_sh GL.out))
  have X3 := Lib.hid (fun (W : World) (hk : Reg.Keep (fun q => w8.heap.size ≤ q) w8 W) => texts_L (HTk.out.below (keepGE hk (Nat.le_refl _))) (by omega) (sh_take (dig_sh GL.out) na))
  have l1 := texts_len na a HNA.out.symm
  have l2 := texts_len nl l HNL.out.symm
  have l3 := texts_len na (l.take na) HTk.out.len
  have l4 := lt_len nl na true ra p.reverse
  have HLN : Hid ((textsT a).length ≤ 21 ∧ (textsT l).length ≤ 21 ∧ (textsT (l.take na)).length ≤ 21 ∧ (linkTexts nl na true ra p.reverse).length ≤ 40) := by unfold Hid; omega
  have HSB : Hid (∀ t ∈ textsT a ++ textsT l ++ textsT (l.take na) ++ linkTexts nl na true ra p.reverse, t.length ≤ 140737488351232) :=
    app_b (app_b (app_b (texts_b _ a rfl (dig_sh GA.out)) (texts_b _ l rfl (dig_sh GL.out))) (texts_b _ (l.take na) rfl (sh_take (dig_sh GL.out) na))) (ltexts_b nl na true ra _ SA.out (fun y hy => few_sh FP.out y (List.mem_reverse.1 hy)))
  clear l1 l2 l3 l4
  have hsl2 : ∀ W, (Instr.slice 22 (.slice B nl d) none (some (.int .i64 (na : Int))) none).run Tryd.prog W = .ok (.slice At na d) W := hsl
  refine Reg.wp_region_eff (fun q => w8.heap.size ≤ q) (fun _ _ _ => True) (coT w8.heap.size (textsT a) (textsT l) (textsT (l.take na))) (by kernel_rfl) (by kernel_rfl) (fun _ _ _ _ _ _ => trivial) coT_s trivial ?_
  simp only
  iterate 1
    apply Reg.SeqE.val
    rotate_left 2
    · intro δ W hW hkn K hK
      obtain ⟨hc, hf, _⟩ := Reg.kcell hW
      simp only [Act.put, List.setIfInBounds_toArray, List.set_cons_zero, List.set_cons_succ] at hK
      unfold Reg.Does
      go_simp
      try simp only [IntWalk.i64_left]
      first
        | exact hK _ (Below.refl _ _)
        | (trace_state; fail)
    rotate_left 1
    · intro δ δ' hd; first | rfl | (simp only [hd _ (show Reg.reach _ 12 _ _ = true by kernel_rfl)])
    · intro x w; first | exact trivial | (intro e; exact absurd e (by decide)) | exact ⟨fun e => absurd e (by decide), fun e => absurd e (by decide)⟩
    simp only [Act.put, List.setIfInBounds_toArray, List.set_cons_zero, List.set_cons_succ, List.nil_append, List.cons_append, Nat.reduceAdd, Nat.zero_add]
  refine Reg.SeqE.eff (fun e h => by simp at h) (fun δ W2 hW hkn hT K hK => ?_) ?_
  · simp only [Act.put, List.setIfInBounds_toArray, List.set_cons_zero, List.set_cons_succ] at hK
    unfold Reg.Does
    go_simp
    (with_reducible refine (X1.out W2 hW).mono ?_); rintro e w' ⟨⟨Ax, cx, rfl, ho⟩, hb⟩
    exact hK _ _ (keep_below hb) trivial ⟨Ax, cx, rfl, Ap.own_base ho hW.size⟩
  simp only [Act.put, List.setIfInBounds_toArray, List.set_cons_zero, List.set_cons_succ, List.nil_append, List.cons_append, Nat.reduceAdd, Nat.zero_add]
  iterate 1
    apply Reg.SeqE.val
    rotate_left 2
    · intro δ W hW hkn K hK
      obtain ⟨hc, hf, _⟩ := Reg.kcell hW
      simp only [Act.put, List.setIfInBounds_toArray, List.set_cons_zero, List.set_cons_succ] at hK
      unfold Reg.Does
      go_simp
      try simp only [IntWalk.i64_left]
      first
        | exact hK _ (Below.refl _ _)
        | (trace_state; fail)
    rotate_left 1
    · intro δ δ' hd; first | rfl | (simp only [hd _ (show Reg.reach _ 12 _ _ = true by kernel_rfl)])
    · intro x w; first | exact trivial | (intro e; exact absurd e (by decide)) | exact ⟨fun e => absurd e (by decide), fun e => absurd e (by decide)⟩
    simp only [Act.put, List.setIfInBounds_toArray, List.set_cons_zero, List.set_cons_succ, List.nil_append, List.cons_append, Nat.reduceAdd, Nat.zero_add]
  refine Reg.SeqE.eff (fun e h => by simp at h; subst h; kernel_rfl) (fun δ W2 hW hkn hT K hK => ?_) ?_
  · simp only [Act.put, List.setIfInBounds_toArray, List.set_cons_zero, List.set_cons_succ] at hK
    unfold Reg.Does
    go_simp
    (with_reducible refine (X2.out W2 hW).mono ?_); rintro e w' ⟨⟨Ax, cx, rfl, ho⟩, hb⟩
    exact hK _ _ (keep_below hb) trivial ⟨OwS.below hT hb, Ax, cx, rfl, Ap.own_base ho hW.size⟩
  simp only [Act.put, List.setIfInBounds_toArray, List.set_cons_zero, List.set_cons_succ, List.nil_append, List.cons_append, Nat.reduceAdd, Nat.zero_add]
  refine Reg.SeqE.eff (fun e h => by simp at h; subst h; kernel_rfl) (fun δ W2 hW hkn hT K hK => ?_) ?_
  · obtain ⟨⟨Aa, ca, e1, ho1⟩, ⟨Ab, cb, e2, ho2⟩⟩ := hT
    rw [e1] at ho1
    rw [e2] at ho2
    refine does_appO (by rfl) _ _ rfl e1 e2 ho1 (ho2.lst' rfl) (by have := HLN.out; omega) hW.size ?_
    intro A' c' w' ho hk
    exact hK _ _ hk trivial ⟨A', c', rfl, ho⟩
  simp only [Act.put, List.setIfInBounds_toArray, List.set_cons_zero, List.set_cons_succ, List.nil_append, List.cons_append, Nat.reduceAdd, Nat.zero_add]
  iterate 4
    apply Reg.SeqE.val
    rotate_left 2
    · intro δ W hW hkn K hK
      obtain ⟨hc, hf, _⟩ := Reg.kcell hW
      simp only [Act.put, List.setIfInBounds_toArray, List.set_cons_zero, List.set_cons_succ] at hK
      unfold Reg.Does
      go_simp
      try simp only [IntWalk.i64_left]
      first
        | exact hK _ (Below.refl _ _)
        | (trace_state; fail)
    rotate_left 1
    · intro δ δ' hd; first | rfl | (simp only [hd _ (show Reg.reach _ 12 _ _ = true by kernel_rfl)])
    · intro x w; first | exact trivial | (intro e; exact absurd e (by decide)) | exact ⟨fun e => absurd e (by decide), fun e => absurd e (by decide)⟩
    simp only [Act.put, List.setIfInBounds_toArray, List.set_cons_zero, List.set_cons_succ, List.nil_append, List.cons_append, Nat.reduceAdd, Nat.zero_add]
  refine Reg.SeqE.eff (fun e h => by simp at h; subst h; kernel_rfl) (fun δ W2 hW hkn hT K hK => ?_) ?_
  · simp only [Act.put, List.setIfInBounds_toArray, List.set_cons_zero, List.set_cons_succ] at hK
    unfold Reg.Does
    go_simp
    (with_reducible refine (X3.out W2 hW).mono ?_); rintro e w' ⟨⟨Ax, cx, rfl, ho⟩, hb⟩
    exact hK _ _ (keep_below hb) trivial ⟨OwS.below hT hb, Ax, cx, rfl, Ap.own_base ho hW.size⟩
  simp only [Act.put, List.setIfInBounds_toArray, List.set_cons_zero, List.set_cons_succ, List.nil_append, List.cons_append, Nat.reduceAdd, Nat.zero_add]
  refine Reg.SeqE.eff (fun e h => by simp at h; subst h; kernel_rfl) (fun δ W2 hW hkn hT K hK => ?_) ?_
  · obtain ⟨⟨Aa, ca, e1, ho1⟩, ⟨Ab, cb, e2, ho2⟩⟩ := hT
    rw [e1] at ho1
    rw [e2] at ho2
    refine does_appO (by rfl) _ _ rfl e1 e2 ho1 (ho2.lst' rfl) (by have := HLN.out; rw [List.length_append]; omega) hW.size ?_
    intro A' c' w' ho hk
    exact hK _ _ hk trivial ⟨A', c', rfl, ho⟩
  simp only [Act.put, List.setIfInBounds_toArray, List.set_cons_zero, List.set_cons_succ, List.nil_append, List.cons_append, Nat.reduceAdd, Nat.zero_add]
  refine Reg.SeqE.val (fun δ => δ 10) (fun δ δ' hd => hd 10 (by kernel_rfl)) (fun _ _ => trivial) (fun δ W hW hkn K hK => ?_) ?_
  · simp only [Act.put, List.setIfInBounds_toArray, List.set_cons_zero, List.set_cons_succ] at hK
    unfold Reg.Does
    go_simp
    exact hK _ (Below.refl _ _)
  simp only [Act.put, List.setIfInBounds_toArray, List.set_cons_zero, List.set_cons_succ, List.nil_append, List.cons_append, Nat.reduceAdd, Nat.zero_add]
  refine Reg.SeqE.nil (fun δ W2 hW _ hT => ?_)
  obtain ⟨Ax, cx, e10, ho10⟩ : OwS w8.heap.size W2 (δ 10) (textsT a ++ textsT l ++ textsT (l.take na)) := hT
  generalize δ 1 = u1
  generalize δ 3 = u3
  generalize δ 4 = u4
  generalize δ 9 = u9
  rw [e10] at ho10 ⊢
  have hb8 := keepGE hW (Nat.le_refl _)
  have HO := Lib.hid ho10
  have HB0 := Lib.hid HB.out
  replace HB := Lib.hid (HB.out.trans (hb8.mono HB.out.size))
  replace HT := Lib.hid (HT.out.below hb8)
  replace HA := Lib.hid (HA.out.below hb8)
  replace HP := Lib.hid (HP.out.below hb8)
  have HB8 := Lib.hid hb8
  clear ho10 hb8 hW e10 X1 X2 X3 hsl hsl2
  have HRa := rooted_L HA.out (by omega) HT.out TA.out
  rw [HRA2.out] at HRa
  have HRa := Lib.hid HRa
  have elen : (textsT a ++ textsT l ++ textsT (l.take na)).length ≤ 63 := by have := HLN.out; simp only [List.length_append]; omega
  have ELEN := Lib.hid elen
  clear elen
  generalize textsT a ++ textsT l ++ textsT (l.take na) = tx at *
  go_wp2_with fail
  (with_reducible refine HRa.out.mono ?_); rintro e w9 ⟨rfl, hb9⟩
  have HO9 := Lib.hid (HO.out.below hb9)
  replace HP := Lib.hid (HP.out.below hb9)
  have HB9 := Lib.hid (HB8.out.trans (hb9.mono HB8.out.size))
  replace HB := Lib.hid (HB.out.trans (hb9.mono HB.out.size))
  clear hb9 HRa HO
  have HLT := Lib.hid (ltexts_L nl na true ra HP.out SA.out (few_sh FP.out) H1.out HLE.out (by omega) (by omega) HLG.out)
  go_wp2_with fail
  (with_reducible refine HLT.out.mono ?_); rintro e w10 ⟨⟨Ay, cy, rfl, ho⟩, hb⟩
  have hb810 := HB9.out.trans (hb.mono HB9.out.size)
  obtain ⟨Az, cz, w11, hrun, ho11, hb11⟩ := app2 (HO9.out.below hb) (ho.lst' rfl) (by have := HLN.out; have := ELEN.out; omega) ((Below.refl _ _).trans (hb810.mono (Nat.le_refl _))) hb810.size
  have HSW := Lib.hid (shown_L (ho11.lst' rfl) (by rw [List.length_append]; have := HLN.out; have := ELEN.out; omega) HSB.out)
  rw [HSH.out] at HSW
  rw [List.length_append] at hrun HSW
  have HBF : Hid (Below w.heap.size w w11) := HB0.out.trans (hb11.mono HB0.out.size)
  clear hb ho hb810 ho11 hb11
  go_wp2_with fail
  (with_reducible refine HSW.out.mono ?_); rintro e w12 ⟨rfl, hb12⟩
  have HBG := Lib.hid (HBF.out.trans (hb12.mono HBF.out.size))
  clear hb12
  go_wp2_with fail
  go_ret
  exact ⟨rfl, HBG.out⟩

end S
end Go.Proofs.YtejhefmcinohhaaDoor
