/- The reference network: Heal. -/
import Derived.Test.YtklcpopnggiepaaRa
import Derived.Test.YtklcpopnggiepaaRei
set_option linter.unusedSimpArgs false
set_option linter.unusedVariables false
set_option maxRecDepth 100000
namespace Go.Proofs.Ytklcpopnggiepaa
open Go.RowKit
namespace N

def fromM (N0 k : Nat) : Prop := N0 ≤ k
theorem keepF {w w' : World} (h : Reg.Keep (fromM w.heap.size) w w') : Below w.heap.size w w' := h.below fun k hk => ⟨hk, by unfold fromM; omega⟩
theorem keep_grownF {N0 : Nat} {w w' : World} {row : Option Nat} (hg : w.grownBy w' row) (hr : ∀ k, row = some k → N0 ≤ k) : Reg.Keep (fromM N0) w w' :=
  ⟨hg.os, hg.tape, hg.output, hg.size, fun k hk hn => hg.block k hk fun e => hn (hr k e.symm)⟩
/-- A row built by two appends. -/
def TwoT (N0 sz : Nat) (e : TypeId) (i m : Nat) (xs ys : List Value) : List Value → World → Prop
  | [], _ => True
  | [x], W => ∃ A c, x = .slice A 0 c ∧ W.ownsRow N0 e sz x 0 []
  | [_, x], W => ∃ A c, x = .slice A i c ∧ W.ownsRow N0 e sz x i xs
  | [_, _, x], W => ∃ A c, x = .slice A (i + m) c ∧ W.ownsRow N0 e sz x (i + m) (xs ++ ys)
  | _, _ => False
theorem twoT_stays {N0 sz : Nat} {e : TypeId} {i m : Nat} {xs ys : List Value} : ∀ vs w w', TwoT N0 sz e i m xs ys vs w → Below w.heap.size w w' → TwoT N0 sz e i m xs ys vs w' := by
  intro vs w w' h hb
  match vs, h with
  | [], _ => trivial
  | [x], ⟨A, c, e, h⟩ => exact ⟨A, c, e, own_below h hb⟩
  | [_, x], ⟨A, c, e, h⟩ => exact ⟨A, c, e, own_below h hb⟩
  | [_, _, x], ⟨A, c, e, h⟩ => exact ⟨A, c, e, own_below h hb⟩
theorem gc_one (q : List (Int × Int)) : ∀ u ∈ gc q, u.oneCell' = true := by
  intro u hu
  obtain ⟨p, _, hp⟩ := List.mem_flatMap.1 hu
  simp at hp
  rcases hp with rfl | rfl <;> rfl
theorem mc_one (q : List Mg) : ∀ u ∈ mc q, u.oneCell' = true := by
  intro u hu
  obtain ⟨p, _, hp⟩ := List.mem_flatMap.1 hu
  simp at hp
  rcases hp with rfl | rfl | rfl <;> rfl
theorem gc_take (q : List (Int × Int)) : ∀ k, (gc q).take (k * 2) = gc (q.take k) := by
  induction q with
  | nil => intro k; simp [gc]
  | cons p q ih =>
    intro k
    cases k with
    | zero => simp [gc]
    | succ k =>
      have e : gc (p :: q) = .int .i64 p.1 :: .int .i64 p.2 :: gc q := by simp [gc]
      have e2 : gc (p :: q.take k) = .int .i64 p.1 :: .int .i64 p.2 :: gc (q.take k) := by simp [gc]
      rw [e, List.take_succ_cons, e2, ← ih k, show (k + 1) * 2 = k * 2 + 1 + 1 from by omega, List.take_succ_cons, List.take_succ_cons]
theorem gc_drop (q : List (Int × Int)) : ∀ k, (gc q).drop (k * 2) = gc (q.drop k) := by
  induction q with
  | nil => intro k; simp [gc]
  | cons p q ih =>
    intro k
    cases k with
    | zero => simp
    | succ k =>
      have e : gc (p :: q) = .int .i64 p.1 :: .int .i64 p.2 :: gc q := by simp [gc]
      rw [e, List.drop_succ_cons, ← ih k, show (k + 1) * 2 = k * 2 + 1 + 1 from by omega, List.drop_succ_cons, List.drop_succ_cons]
theorem pair_elem : Try.prog.underlying 64 = some (.slice (Try.prog.elem 64)) := by kernel_rfl
theorem pair_size (w : World) : (sizeOf (Try.prog.elem 64)).run Try.prog w = .ok 2 w := by
  have e : Try.prog.elem 64 = 58 := by kernel_rfl
  rw [e]; exact Try.sizeOf58 w

set_option maxHeartbeats 8000000 in
theorem rheal_any (a b : Int) (w : World) {B g : Nat} {M : Nat → Prop} {d : Nt} {R : Rf} (h : RefAt w B M g R) (hB : B ≤ w.heap.size) (ha : Agree d R) (hn : R.ms.length ≤ 50000) (hg : R.gone.length ≤ 50000) :
    Calls Try.prog 31 #[.pointer (some ⟨g, 0, none⟩), .int .i64 a, .int .i64 b] w fun e w' =>
      e = .returned (.int .i64 (turn d a b false).1) ∧ ∃ R', Agree (turn d a b false).2 R' ∧ R'.ms.length ≤ R.ms.length + 1 ∧ R'.gone.length ≤ R.gone.length + 1 ∧ RPost w B M g R' w' := by
  have hr := h
  obtain ⟨lv, gv, h⟩ := h
  obtain ⟨ck, fk, zk⟩ := h.blk.facts
  have qp := pair_any a b R.n g w (ck 0)
  rw [← ha.n] at qp
  have HA := Lib.hid ha
  have HR := Lib.hid hr
  have H := Lib.hid h
  cases hok : okP d.n a b
  · have e : turn d a b false = (1, d) := by unfold turn; rw [if_pos hok]
    have HE := Lib.hid e
    rw [hok] at qp
    have QP := Lib.hid qp
    clear ck fk zk qp h hr ha hok e
    go_enter Try.func31, Try.ntmps31
    go_wp2_with fail
    (with_reducible refine QP.out.mono ?_); rintro e w1 ⟨rfl, rfl⟩
    go_wp2_with fail
    go_ret
    rw [HE.out]; exact ⟨rfl, R, HA.out, by omega, by omega, RPost.stay HR.out (Below.refl _ _)⟩
  · have hcs := ha.c a b hok
    rw [hok] at qp
    have QP := Lib.hid qp
    have HOK := Lib.hid hok
    have QC := Lib.hid (rcut_any a b w hr (by omega))
    have HCS := Lib.hid hcs
    clear ck fk zk qp h hr ha hok hcs
    go_enter Try.func31, Try.ntmps31
    go_wp2_with fail
    (with_reducible refine QP.out.mono ?_); rintro e w1 ⟨rfl, rfl⟩
    go_wp2_with fail
    refine QC.out.mono ?_
    rintro e w3 ⟨v, rfl, hv, hb3⟩
    by_cases hv0 : v < 0
    · have hsh := hv.neg hv0
      have e : turn d a b false = (11, d) := by
        unfold turn
        rw [if_neg (by simp [HOK.out]), HCS.out, hsh, if_pos rfl]
      have HE := Lib.hid e
      have HB2 := Lib.hid hb3
      clear hv hsh hb3 e QC QP
      go_wp2_with fail
      go_ret
      rw [HE.out]; exact ⟨rfl, R, HA.out, by omega, by omega, RPost.stay HR.out HB2.out⟩
    · obtain ⟨hsh, i, hi, rfl, hgi⟩ := hv.pos hv0
      have e : turn d a b false = (0, { d with c := both d.c a b false }) := by
        unfold turn
        rw [if_neg (by simp [HOK.out]), HCS.out, hsh, if_neg (by simp)]
        rfl
      have HE := Lib.hid e
      have AG := Lib.hid (HA.out.heal i hi hgi)
      have h3 := H.out.below hb3
      have HB3 := Lib.hid hb3
      obtain ⟨A, c, rfl, hc⟩ := h3.gform
      obtain ⟨ck, fk, zk⟩ := h3.blk.facts
      have hAc : A = none → c = 0 := fun e => by
        rcases h3.cut.2 with ⟨e1, h0⟩ | ⟨g', cap, cur, e1, _⟩
        · injection e1
        · rw [e] at e1; cases e1
      obtain ⟨A1, hA1, E1, S1⟩ := run_toG (k := i) (ys := gc R.gone) pair_elem pair_size hAc (by omega) hc
      obtain ⟨A2, hA2, E2, S2⟩ := run_fromG (k := i + 1) (ys := gc R.gone) pair_elem pair_size hAc (by omega) hc
      have hsrc := SrcAt.own h3.cut (gc_one _)
      have HS1 := Lib.hid (S1 w3 hsrc)
      have HS2 := Lib.hid (S2 w3 hsrc)
      rw [gc_take] at HS1
      rw [gc_drop] at HS2
      have HA1 := Lib.hid hA1
      have HA2 := Lib.hid hA2
      have H3 := Lib.hid h3
      have hno : ¬ fromM w3.heap.size g := by unfold fromM; omega
      have hwr : IntKind.i64.wrap ((i : Int) + 1) = (i : Int) + 1 := IntWalk.i64_in _ (by omega)
      rw [show ((i + 1 : Nat) : Int) = (i : Int) + 1 from rfl] at E2
      have hB3 : B ≤ w3.heap.size := Nat.le_trans hB hb3.size
      obtain ⟨i0, hi0, hz0, hz1, hz2⟩ := info_parts info_pr
      have HI0 := Lib.hid hi0
      clear hv hsh hb3 e h3 H QC QP hAc S1 S2 hA1 hA2 hsrc hi0
      go_wp2_with fail
      refine Reg.wp_region_last (fromM w3.heap.size) (fun _ _ _ => True) (TwoT w3.heap.size 2 58 i (R.gone.length - (i + 1)) (gc (R.gone.take i)) (gc (R.gone.drop (i + 1)))) (by kernel_rfl) (by kernel_rfl) (fun _ _ _ _ _ _ => trivial) twoT_stays trivial ?_
      simp only
      iterate 1
        apply Reg.SeqL.val
        rotate_left 2
        · intro δ W hW hkn K hK
          obtain ⟨hc, hf, _⟩ := Reg.kcell hW
          simp only [Act.put, List.setIfInBounds_toArray, List.set_cons_zero, List.set_cons_succ] at hK
          unfold Reg.Does
          go_simp
          try simp only [IntWalk.i64_left]
          first
            | exact hK _ (Below.refl _ _)
        rotate_left 1
        · intro δ δ' hd; first | rfl | (simp only [hd _ (show Reg.reach _ 12 _ _ = true by kernel_rfl)])
        · intro x w; exact trivial
        simp only [Act.put, List.setIfInBounds_toArray, List.set_cons_zero, List.set_cons_succ, List.nil_append, List.cons_append, Nat.reduceAdd, Nat.zero_add]
      refine Reg.SeqL.eff (fun e h => by simp at h) (fun δ W5 hW5 hkn hT5 K hK => ?_) ?_
      · simp only [Act.put, List.setIfInBounds_toArray, List.set_cons_zero, List.set_cons_succ] at hK
        unfold Reg.Does
        go_simp
        refine hK _ _ (Reg.Keep.ofBelow ((Below.refl _ _).alloc (Nat.le_refl _) _)) trivial ⟨_, 0, rfl, rfl, .inr ⟨W5.heap.size, 0, _, rfl, hW5.size, Reg.heap_new _ _, Nat.le_refl _, by unfold maxLen; omega, rfl, rfl⟩⟩
      simp only [Act.put, List.setIfInBounds_toArray, List.set_cons_zero, List.set_cons_succ, List.nil_append, List.cons_append, Nat.reduceAdd, Nat.zero_add]
      iterate 6
        apply Reg.SeqL.val
        rotate_left 2
        · intro δ W hW hkn K hK
          obtain ⟨hc, hf, _⟩ := Reg.kcell hW
          simp only [Act.put, List.setIfInBounds_toArray, List.set_cons_zero, List.set_cons_succ] at hK
          unfold Reg.Does
          go_simp
          try simp only [IntWalk.i64_left]
          first
            | exact hK _ (Below.refl _ _)
            | (trace_state; fail)
        rotate_left 1
        · intro δ δ' hd; first | rfl | (simp only [hd _ (show Reg.reach _ 12 _ _ = true by kernel_rfl)])
        · intro x w; exact trivial
        simp only [Act.put, List.setIfInBounds_toArray, List.set_cons_zero, List.set_cons_succ, List.nil_append, List.cons_append, Nat.reduceAdd, Nat.zero_add]
      refine Reg.SeqL.eff (fun e h => ?_) (fun δ W5 hW5 hkn hT5 K hK => ?_) ?_
      · simp only [List.getLast?_singleton, Option.some.injEq] at h
        subst h
        kernel_rfl
      · obtain ⟨Ax, cx, e14, ho⟩ := hT5
        unfold Reg.Does
        rw [if_pos (by rfl)]
        refine wp_appG Try.underlying64 HI0.out hz0 hz1 hz2 rfl (by omega) (by omega) _ _ rfl rfl rfl ho (HS1.out.below (keepF hW5)) HA1.out (by omega) hW5.size ?_
        intro A' c' w6 ho6 hg6 hat6
        rw [List.nil_append] at ho6
        simp only [Nat.zero_add] at ho6 ⊢
        exact hK _ _ (keep_grownF hg6 (fun q hq => (ho.lt q hq).1)) trivial ⟨A', c', rfl, ho6⟩
      simp only [Act.put, List.setIfInBounds_toArray, List.set_cons_zero, List.set_cons_succ, List.nil_append, List.cons_append, Nat.reduceAdd, Nat.zero_add]
      iterate 7
        apply Reg.SeqL.val
        rotate_left 2
        · intro δ W hW hkn K hK
          obtain ⟨hc, hf, _⟩ := Reg.kcell hW
          simp only [Act.put, List.setIfInBounds_toArray, List.set_cons_zero, List.set_cons_succ] at hK
          unfold Reg.Does
          go_simp
          try simp only [IntWalk.i64_left]
          first
            | exact hK _ (Below.refl _ _)
            | (trace_state; fail)
        rotate_left 1
        · intro δ δ' hd; first | rfl | (simp only [hd _ (show Reg.reach _ 12 _ _ = true by kernel_rfl)])
        · intro x w; exact trivial
        simp only [Act.put, List.setIfInBounds_toArray, List.set_cons_zero, List.set_cons_succ, List.nil_append, List.cons_append, Nat.reduceAdd, Nat.zero_add]
      refine Reg.SeqL.eff (fun e h => ?_) (fun δ W5 hW5 hkn hT5 K hK => ?_) ?_
      · simp only [List.getLast?_cons_cons, List.getLast?_singleton, Option.some.injEq] at h
        subst h
        kernel_rfl
      · obtain ⟨Ax, cx, e18, ho⟩ := hT5
        unfold Reg.Does
        rw [if_pos (by rfl)]
        refine wp_appG Try.underlying64 HI0.out hz0 hz1 hz2 rfl (by omega) (by omega) _ _ rfl rfl rfl ho (HS2.out.below (keepF hW5)) HA2.out (by omega) hW5.size ?_
        intro A' c' w6 ho6 hg6 hat6
        exact hK _ _ (keep_grownF hg6 (fun q hq => (ho.lt q hq).1)) trivial ⟨A', c', rfl, ho6⟩
      simp only [Act.put, List.setIfInBounds_toArray, List.set_cons_zero, List.set_cons_succ, List.nil_append, List.cons_append, Nat.reduceAdd, Nat.zero_add]
      iterate 2
        apply Reg.SeqL.val
        rotate_left 2
        · intro δ W hW hkn K hK
          obtain ⟨hc, hf, _⟩ := Reg.kcell hW
          simp only [Act.put, List.setIfInBounds_toArray, List.set_cons_zero, List.set_cons_succ] at hK
          unfold Reg.Does
          go_simp
          try simp only [IntWalk.i64_left]
          first
            | exact hK _ (Below.refl _ _)
            | (trace_state; fail)
        rotate_left 1
        · intro δ δ' hd; first | rfl | (simp only [hd _ (show Reg.reach _ 12 _ _ = true by kernel_rfl)])
        · intro x w; exact trivial
        simp only [Act.put, List.setIfInBounds_toArray, List.set_cons_zero, List.set_cons_succ, List.nil_append, List.cons_append, Nat.reduceAdd, Nat.zero_add]
      refine Reg.SeqL.fin (by kernel_rfl) (fun δ W5 hW5 hF hT5 K hK => ?_)
      simp only [Act.put, List.setIfInBounds_toArray, List.set_cons_zero, List.set_cons_succ] at hK
      obtain ⟨Ax, cx, e16, ho⟩ : ∃ Ax cx, δ 16 = .slice Ax (i + (R.gone.length - (i + 1))) cx ∧ W5.ownsRow w3.heap.size 58 2 (δ 16) (i + (R.gone.length - (i + 1))) (gc (R.gone.take i) ++ gc (R.gone.drop (i + 1))) := hT5
      obtain ⟨kc, kf, _⟩ := Reg.kcell hW5
      have k2 := (kc g 2 zk hno).trans (ck 2)
      have kf2 := (kf g 2 zk hno).trans (fk 2)
      have hb5 := keepF hW5
      have HB5 := Lib.hid hb5
      have zk5 := Nat.lt_of_lt_of_le zk hb5.size
      rw [e16] at ho hK
      have HO := Lib.hid ho
      rw [e16]
      clear kc kf hF hW5 hb5 ho
      unfold Reg.Does
      go_simp
      refine hK (.bool false) _ ?_
      go_wp2_with fail
      go_ret
      have q := H3.out.setg (W4 := W5) (gv' := .slice Ax (i + (R.gone.length - (i + 1))) cx) (gn' := R.gone.take i ++ R.gone.drop (i + 1)) ⟨HB5.out.os, HB5.out.tape, HB5.out.output, HB5.out.size, fun k hk _ => HB5.out.block k hk⟩ (fun k mk _ => HB5.out.block k (H3.out.bb k mk).2) (by
        have hl : (R.gone.take i ++ R.gone.drop (i + 1)).length = i + (R.gone.length - (i + 1)) := by simp; omega
        rw [hl, gc_app]
        exact own_base HO.out hB3) (fun k e => .inr (HO.out.lt k e).1)
      rw [HE.out]
      exact ⟨rfl, _, AG.out, by simp, by simp; omega, _, ⟨_, _, q.1⟩, (Moved.below HB3.out).trans q.2⟩

end N
end Go.Proofs.Ytklcpopnggiepaa
