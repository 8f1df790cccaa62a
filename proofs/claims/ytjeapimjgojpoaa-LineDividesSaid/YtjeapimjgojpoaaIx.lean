/- Lines: the walk of 'LineDivides'. -/
import Derived.Test.YtjeapimjgojpoaaIj
import Derived.Test.YtjeapimjgojpoaaIw
import Derived.Test.YtjeapimjgojpoaaReu
set_option linter.unusedSimpArgs false
set_option linter.unusedVariables false
set_option maxRecDepth 100000
namespace Go.Proofs.Ytjeapimjgojpoaa
open Go.RowKit
namespace G

theorem run_neq_frd (a b : Int) (w : World) : (binOp .neq 32 (.agg #[.int .i64 a, .int .i64 b]) (.agg #[.int .i64 a, .int .i64 b])).run Try.prog w = .ok (.bool false) w := by go_simp
theorem line_both {w : World} {A : Option Addr} {l : List P2} (h : LineAt w A l) {j n : Nat} (hj : j < l.length) (hn : n < l.length) : ∃ b off, A = some ⟨b, off, none⟩ ∧ b < w.heap.size ∧
    w.cell? ⟨b, off + j * 2, none⟩ = some (.int .i64 (pt l j).1) ∧ w.cell? ⟨b, off + j * 2 + 1, none⟩ = some (.int .i64 (pt l j).2) ∧ w.cell? ⟨b, off + n * 2, none⟩ = some (.int .i64 (pt l n).1) ∧ w.cell? ⟨b, off + n * 2 + 1, none⟩ = some (.int .i64 (pt l n).2) := by
  obtain ⟨b, off, hA, hb, c0, c1⟩ := h j hj
  obtain ⟨b', off', hA', _, d0, d1⟩ := h n hn
  rw [hA] at hA'
  injection hA' with h1
  injection h1 with h2 h3
  subst h2 h3
  exact ⟨b, off, hA, hb, c0, c1, d0, d1⟩
theorem line_take {w : World} {A : Option Addr} {l : List P2} (h : LineAt w A l) (k : Nat) : LineAt w A (l.take k) := fun i hi => by
  rw [List.length_take] at hi
  have e : pt (l.take k) i = pt l i := by unfold pt; rw [List.getElem?_take, if_pos (by omega)]
  rw [e]; exact h i (by omega)
theorem line_drop {w : World} {b off : Nat} {l : List P2} (h : LineAt w (some ⟨b, off, none⟩) l) (k : Nat) : LineAt w (some ⟨b, off + k * 2, none⟩) (l.drop k) := fun i hi => by
  rw [List.length_drop] at hi
  have e : pt (l.drop k) i = pt l (k + i) := by unfold pt; rw [List.getElem?_drop]
  rw [e]
  obtain ⟨b', off', e1, hb, c0, c1⟩ := h (k + i) (by omega)
  injection e1 with e1
  injection e1 with e2 e3
  subst e2 e3
  refine ⟨b, _, rfl, hb, ?_, ?_⟩
  · rw [show off + k * 2 + i * 2 = off + (k + i) * 2 by omega]; exact c0
  · rw [show off + k * 2 + i * 2 = off + (k + i) * 2 by omega]; exact c1
theorem divides_long (A : Option Addr) (c n : Nat) (px py qx qy : Int) (w : World) (hn : 40 ≤ n) :
    Calls Try.prog 7 #[.slice A n c, .agg #[.int .i64 px, .int .i64 py], .agg #[.int .i64 qx, .int .i64 qy]] w fun e w' => e = .returned (.bool true) ∧ Below w.heap.size w w' := by
  have hd : decide ((40 : Int) ≤ (n : Int)) = true := decide_eq_true (by omega)
  have hn' : (40 : Int) ≤ (n : Int) := by omega
  go_enter Try.func7, Try.ntmps7
  go_wp2_with fail
  (with_reducible refine (head_any _).mono ?_); rintro e w1 ⟨rfl, hb1⟩
  have HB := Lib.hid ((((Below.refl w.heap.size w).alloc (Nat.le_refl _) _).alloc (by simp) _).trans (hb1.mono (by simp; omega)))
  clear hb1
  go_wp2_with fail
  go_ret
  exact ⟨rfl, HB.out⟩
set_option maxHeartbeats 4000000 in
theorem divides_no (A : Option Addr) (c : Nat) (l : List P2) (px py qx qy : Int) (w : World) (hl : LineAt w A l) (h40 : l.length < 40) (hv : (validL l && onB px py) = false) :
    Calls Try.prog 7 #[.slice A l.length c, .agg #[.int .i64 px, .int .i64 py], .agg #[.int .i64 qx, .int .i64 qy]] w fun e w' => e = .returned (.bool true) ∧ Below w.heap.size w w' := by
  have HL := Lib.hid hl
  have HV := Lib.hid (fun W (h : LineAt W A l) => valid_line A c l W h (by omega))
  have HON := Lib.hid (fun W => on_any px py W)
  have hd : decide ((40 : Int) ≤ (l.length : Int)) = false := decide_eq_false (by omega)
  have hn' : ¬ (40 : Int) ≤ (l.length : Int) := by omega
  clear hl h40
  go_enter Try.func7, Try.ntmps7
  go_wp2_with fail
  (with_reducible refine (head_any _).mono ?_); rintro e w1 ⟨rfl, hb1⟩
  have HB := Lib.hid ((((Below.refl w.heap.size w).alloc (Nat.le_refl _) _).alloc (by simp) _).trans (hb1.mono (by simp; omega)))
  obtain ⟨k4, k5⟩ := Reg.Blk.new2 hb1
  have K4 := Lib.hid k4
  clear hb1 k4 k5
  go_wp2_with fail
  (with_reducible refine (HV.out _ (HL.out.below HB.out)).mono ?_); rintro e w2 ⟨rfl, hb2⟩
  replace HB := Lib.hid (HB.out.trans (hb2.mono HB.out.size))
  replace K4 := Lib.hid (K4.out.keep hb2)
  clear hb2 HV
  obtain ⟨c4, f4, z4⟩ := K4.out.facts
  cases hvl : validL l with
  | false =>
    clear hv
    go_wp2_with fail
    go_ret
    exact ⟨rfl, HB.out⟩
  | true =>
    rw [hvl, Bool.true_and] at hv
    rw [hv] at HON
    clear hv hvl
    go_wp2_with fail
    (with_reducible refine (HON.out _).mono ?_); rintro e w3 ⟨rfl, hb3⟩
    replace HB := Lib.hid (HB.out.trans (hb3.mono HB.out.size))
    clear hb3
    go_wp2_with fail
    go_ret
    exact ⟨rfl, HB.out⟩

def dv4 (base : Nat) (x y : Int) (v : Value) (w : World) : Prop := ∃ g, v = .slice (some ⟨g, 0, none⟩) 1 1 ∧ base ≤ g ∧ Reg.Blk g #[.int .i64 x, .int .i64 y] 24 w
def dvR (base : Nat) (x y : Int) (w w' : World) : Prop := Reg.Keep (fun q => base ≤ q) w w' ∧ ∀ v, dv4 base x y v w → dv4 base x y v w'
def dvF (base : Nat) (x y : Int) (d : Nat) (v : Value) (w : World) : Prop := d = 7 → dv4 base x y v w
def dvT (base k r : Nat) (xs : List Value) (x y : Int) (ys : List Value) : List Value → World → Prop
  | [], _ => True
  | [v0], w => ∃ g, v0 = .slice (some ⟨g, 0, none⟩) 0 0 ∧ base ≤ g ∧ w.heap[g]? = some (.cells #[] 24 (0, 0))
  | [_, v1], w => (∃ A c, v1 = .slice A k c) ∧ w.ownsRow base 24 2 v1 k xs
  | [_, _, v2], w => (∃ A c, v2 = .slice A (k + 1) c) ∧ w.ownsRow base 24 2 v2 (k + 1) (xs ++ [.int .i64 x, .int .i64 y])
  | _ :: _ :: _ :: v3 :: _, w => (∃ A c, v3 = .slice A (k + 1 + r) c) ∧ w.ownsRow base 24 2 v3 (k + 1 + r) ((xs ++ [.int .i64 x, .int .i64 y]) ++ ys)
theorem dvR_t {base : Nat} {x y : Int} : ∀ a b c, dvR base x y a b → dvR base x y b c → dvR base x y a c := fun _ _ _ h k => ⟨keepK h.1 k.1, fun v hv => k.2 v (h.2 v hv)⟩
theorem dvR_b {base : Nat} {x y : Int} : ∀ w w', Below w.heap.size w w' → dvR base x y w w' := fun _ _ hb => ⟨keep_below hb, fun v ⟨g, e, hg, hk⟩ => ⟨g, e, hg, hk.keep hb⟩⟩
theorem dvF_s {base : Nat} {x y : Int} : ∀ d v w w', dvF base x y d v w → dvR base x y w w' → dvF base x y d v w' := fun _ v _ _ h k e => k.2 v (h e)
theorem dvT_s {base k r : Nat} {xs ys : List Value} {x y : Int} : ∀ vs w w', dvT base k r xs x y ys vs w → Below w.heap.size w w' → dvT base k r xs x y ys vs w' := fun vs w w' h hb => by
  match vs, h with
  | [], _ => trivial
  | [v0], ⟨g, e, hg, hk⟩ => exact ⟨g, e, hg, (hb.block g (Array.getElem?_eq_some_iff.1 hk).1).trans hk⟩
  | [_, v1], ⟨e, h⟩ => exact ⟨e, Ap.own_below h hb⟩
  | [_, _, v2], ⟨e, h⟩ => exact ⟨e, Ap.own_below h hb⟩
  | _ :: _ :: _ :: v3 :: _, ⟨e, h⟩ => exact ⟨e, Ap.own_below h hb⟩

set_option maxHeartbeats 16000000 in
theorem divides_yes (A : Option Addr) (c : Nat) (l : List P2) (px py qx qy : Int) (w : World) (hl : LineAt w A l) (h40 : l.length < 40) (hc : l.length ≤ c) (hcm : c ≤ maxLen) (hv : validL l = true) (hon : onB px py = true) (j : Nat) (hb : Best l px py j) :
    Calls Try.prog 7 #[.slice A l.length c, .agg #[.int .i64 px, .int .i64 py], .agg #[.int .i64 qx, .int .i64 qy]] w fun e w' => e = .returned (.bool true) ∧ Below w.heap.size w w' := by
  have hlen := valid_len hv
  obtain ⟨m, hm⟩ : ∃ m, m = l.length - 1 := ⟨_, rfl⟩
  have HL := Lib.hid hl
  have hq := fun W (h : LineAt W A l) => locate_any A c l px py W h (by omega)
  rw [hb.eq, hb.err] at hq
  have HV := Lib.hid (fun W (h : LineAt W A l) => valid_line A c l W h (by omega))
  rw [hv] at HV
  have HON := Lib.hid (fun W => on_any px py W)
  rw [hon] at HON
  have hsj : spotI l px py j = ⟨(j : Int), (spotI l px py j).pn, (spotI l px py j).pd, (spotI l px py j).side, (spotI l px py j).an, (spotI l px py j).ad⟩ := rfl
  have HBetw : Hid (∀ k, ∃ q, q = betwI qx qy (pt l k).1 (pt l k).2 (pt l (k + 1)).1 (pt l (k + 1)).2 ∧ (∀ W, Calls Try.prog 22 #[.agg #[.int .i64 qx, .int .i64 qy], .agg #[.int .i64 (pt l k).1, .int .i64 (pt l k).2], .agg #[.int .i64 (pt l (k + 1)).1, .int .i64 (pt l (k + 1)).2]] W fun e w' => e = .returned (.bool q) ∧ Below W.heap.size W w')) := fun k => ⟨_, rfl, fun W => between_any qx qy (pt l k).1 (pt l k).2 (pt l (k + 1)).1 (pt l (k + 1)).2 W⟩
  have HMore : Hid (∀ k, k < m → betwI qx qy (pt l k).1 (pt l k).2 (pt l (k + 1)).1 (pt l (k + 1)).2 = true → ptEq qx qy (pt l k).1 (pt l k).2 = false → ptEq qx qy (pt l (k + 1)).1 (pt l (k + 1)).2 = false →
      (moreL l (qx, qy) k).length = l.length + 1 ∧ validL (moreL l (qx, qy) k) = true ∧ ∃ t1 t2 t3 t4, locS (moreL l (qx, qy) k) px py = ⟨t1, t2, t3, t4, (spotI l px py j).an, (spotI l px py j).ad⟩ ∧ locE (moreL l (qx, qy) k) px py = 0) := fun k hk h1 h2 h3 => by
    have hk1 : k + 1 < l.length := by omega
    have hq : onB qx qy = true := by
      unfold betwI on3 at h1
      simp only [Bool.and_eq_true] at h1
      exact h1.1.1.1
    have hm := more_valid (q := (qx, qy)) hv h40 hk1 hq h2 h3
    obtain ⟨j', hb'⟩ := best_of hm hon
    obtain ⟨e1, e2⟩ := more_law (q := (qx, qy)) hv hon h40 hk1 h1 h2 h3 hb hb'
    refine ⟨more_len hk1, hm, (spotI (moreL l (qx, qy) k) px py j').seg, (spotI (moreL l (qx, qy) k) px py j').pn, (spotI (moreL l (qx, qy) k) px py j').pd, (spotI (moreL l (qx, qy) k) px py j').side, ?_, hb'.err⟩
    rw [hb'.eq, ← e1, ← e2]
  rw [hsj] at hq
  clear hsj
  simp only [Spt.cells] at hq
  have HJ := Lib.hid (And.intro hlen (And.intro h40 (And.intro hm (And.intro hc hcm))))
  generalize (spotI l px py j).pn = f1 at *
  generalize (spotI l px py j).pd = f2 at *
  generalize (spotI l px py j).side = sd at *
  generalize (spotI l px py j).an = f3 at *
  generalize (spotI l px py j).ad = f4 at *
  have HQ := Lib.hid hq
  have hd : decide ((40 : Int) ≤ (l.length : Int)) = false := decide_eq_false (by omega)
  have hn' : ¬ (40 : Int) ≤ (l.length : Int) := by omega
  have hneq := run_neq_frd
  clear hl hlen hc hcm hv hon hb hm hq h40
  go_enter Try.func7, Try.ntmps7
  go_wp2_with fail
  (with_reducible refine (head_any _).mono ?_); rintro e w1 ⟨rfl, hb1⟩
  have HB := Lib.hid ((((Below.refl w.heap.size w).alloc (Nat.le_refl _) _).alloc (by simp) _).trans (hb1.mono (by simp; omega)))
  obtain ⟨k4, k5⟩ := Reg.Blk.new2 hb1
  have K4 := Lib.hid k4
  have K5 := Lib.hid k5
  clear hb1 k4 k5
  go_wp2_with fail
  (with_reducible refine (HV.out _ (HL.out.below HB.out)).mono ?_); rintro e w2 ⟨rfl, hb2⟩
  replace HB := Lib.hid (HB.out.trans (hb2.mono HB.out.size))
  replace K4 := Lib.hid (K4.out.keep hb2)
  replace K5 := Lib.hid (K5.out.keep hb2)
  clear hb2 HV
  obtain ⟨c4, f4', z4⟩ := K4.out.facts
  go_wp2_with fail
  (with_reducible refine (HON.out _).mono ?_); rintro e w3 ⟨rfl, hb3⟩
  replace HB := Lib.hid (HB.out.trans (hb3.mono HB.out.size))
  replace K4 := Lib.hid (K4.out.keep hb3)
  replace K5 := Lib.hid (K5.out.keep hb3)
  clear hb3 HON c4 f4' z4
  obtain ⟨c4, f4', z4⟩ := K4.out.facts
  go_wp2_with fail
  (with_reducible refine (HQ.out _ (HL.out.below HB.out)).mono ?_); rintro e w4 ⟨rfl, hb4⟩
  replace HB := Lib.hid (HB.out.trans (hb4.mono HB.out.size))
  replace K4 := Lib.hid (K4.out.keep hb4)
  replace K5 := Lib.hid (K5.out.keep hb4)
  clear hb4 HQ c4 f4' z4
  have hal : Below w4.heap.size w4 (w4.alloc (.cells #[.int .i64 (j : Int), .int .i64 f1, .int .i64 f2, .int .i64 sd, .int .i64 f3, .int .i64 f4] 34)) := (Below.refl _ _).alloc (Nat.le_refl _) _
  have K8 := Lib.hid (Reg.Blk.new w4 #[.int .i64 (j : Int), .int .i64 f1, .int .i64 f2, .int .i64 sd, .int .i64 f3, .int .i64 f4] 34)
  replace HB := Lib.hid (HB.out.trans (hal.mono HB.out.size))
  replace K4 := Lib.hid (K4.out.keep hal)
  replace K5 := Lib.hid (K5.out.keep hal)
  clear hal
  go_wp2_with fail
  have H0 := Lib.hid (And.intro HB.out (And.intro K4.out (And.intro K5.out K8.out)))
  generalize w4.heap.size = g8 at *
  generalize hg5 : w.heap.size + 1 = g5 at *
  clear HB K4 K5 K8
  go_loopw [10] (fun i wr => ∃ k : Nat, k ≤ m ∧ i = .int .i64 k ∧ Below w.heap.size w wr ∧ Reg.Blk w.heap.size #[.int .i64 px, .int .i64 py] 24 wr ∧ Reg.Blk g5 #[.int .i64 qx, .int .i64 qy] 24 wr ∧ Reg.Blk g8 #[.int .i64 (j : Int), .int .i64 f1, .int .i64 f2, .int .i64 sd, .int .i64 f3, .int .i64 f4] 34 wr) (fun i _ => m - (intOf i).toNat)
  case atStart => exact ⟨0, Nat.zero_le _, rfl, H0.out.1, H0.out.2.1, H0.out.2.2.1, H0.out.2.2.2⟩
  case round =>
    obtain ⟨k, hk, rfl, hbw, hk4, hk5, hk8⟩ := hrel
    have HB := Lib.hid hbw
    have K4 := Lib.hid hk4
    have K5 := Lib.hid hk5
    have K8 := Lib.hid hk8
    clear hbw hk4 hk5 hk8 H0 hg5
    obtain ⟨q, hq⟩ : ∃ q, q = k + 1 := ⟨_, rfl⟩
    have hwk : IntKind.i64.wrap ((k : Int) + 1) = (q : Int) := by rw [show (k : Int) + 1 = (q : Int) by omega]; exact i64_in _ (by omega) (by have := HJ.out; omega)
    have HKQ := Lib.hid hq
    by_cases hlt : k < m
    · have hql : (q : Int) < (l.length : Int) := by have := HJ.out; omega
      have hkl : (k : Int) < (l.length : Int) := by have := HJ.out; omega
      have hk0 : (0 : Int) ≤ (k : Int) := by omega
      have hq0 : (0 : Int) ≤ (q : Int) := by omega
      obtain ⟨b, off, hA, hb, c0, c1, d0, d1⟩ := line_both (HL.out.below HB.out) (j := k) (n := q) (by have := HJ.out; omega) (by have := HJ.out; omega)
      subst hA
      obtain ⟨qb, hqb, hbt⟩ := HBetw.out k
      have hmore := HMore.out k hlt
      rw [← hqb] at hmore
      rw [← hq] at hbt hmore
      have HBT := Lib.hid hbt
      have hdq : decide ((q : Int) < (l.length : Int)) = true := decide_eq_true hql
      have hdq2 : decide (q < l.length) = true := decide_eq_true (by omega)
      have E1 := run_eql_pt qx qy (pt l k).1 (pt l k).2
      have E2 := run_eql_pt qx qy (pt l q).1 (pt l q).2
      generalize ptEq qx qy (pt l k).1 (pt l k).2 = e1 at *
      generalize ptEq qx qy (pt l q).1 (pt l q).2 = e2 at *
      have HMO := Lib.hid hmore
      generalize (pt l k).1 = ux at *
      generalize (pt l k).2 = uy at *
      generalize (pt l q).1 = vx at *
      generalize (pt l q).2 = vy at *
      clear hbt hmore hqb hq
      obtain ⟨c5, f5, z5⟩ := K5.out.facts
      go_wp2_with fail
      cases qb with
      | false =>
        refine Reg.wp_region_seq (by kernel_rfl) (by kernel_rfl) ?_
        simp only
        iterate 29
          apply Reg.SeqOK.val
          · intro γ W hW K hK
            obtain ⟨hc, hf, _⟩ := bcell hW
            simp only [Act.put, List.setIfInBounds_toArray, List.set_cons_zero, List.set_cons_succ] at hK
            unfold Reg.Does
            go_simp
            try simp only [IntWalk.i64_left]
            first
              | exact hK _ (Below.refl _ _)
              | (go_at_call 22; (with_reducible refine (HBT.out _).mono ?_); rintro e w' ⟨rfl, hb⟩; exact hK _ hb)
              | (trace_state; fail)
          simp only [Act.put, List.setIfInBounds_toArray, List.set_cons_zero, List.set_cons_succ, List.nil_append, List.cons_append, Nat.reduceAdd, Nat.zero_add]
        refine Reg.SeqOK.nil (by kernel_rfl) (fun γ W7 hW _ _ _ => ?_)
        replace HB := Lib.hid (HB.out.trans (hW.mono HB.out.size))
        replace K4 := Lib.hid (K4.out.keep hW)
        replace K5 := Lib.hid (K5.out.keep hW)
        replace K8 := Lib.hid (K8.out.keep hW)
        clear hW c0 c1 d0 d1 hb c5 f5 z5
        go_wp2_with fail
        refine ⟨⟨k + 1, by omega, by rw [HKQ.out], HB.out, K4.out, K5.out, K8.out⟩, by have := HKQ.out; simp [intOf]; omega⟩
      | true =>
        cases e1 with
        | true =>
          refine Reg.wp_region_seq (by kernel_rfl) (by kernel_rfl) ?_
          simp only
          iterate 29
            apply Reg.SeqOK.val
            · intro γ W hW K hK
              obtain ⟨hc, hf, _⟩ := bcell hW
              simp only [Act.put, List.setIfInBounds_toArray, List.set_cons_zero, List.set_cons_succ] at hK
              unfold Reg.Does
              go_simp
              try simp only [IntWalk.i64_left]
              first
                | exact hK _ (Below.refl _ _)
                | (go_at_call 22; (with_reducible refine (HBT.out _).mono ?_); rintro e w' ⟨rfl, hb⟩; exact hK _ hb)
                | (trace_state; fail)
            simp only [Act.put, List.setIfInBounds_toArray, List.set_cons_zero, List.set_cons_succ, List.nil_append, List.cons_append, Nat.reduceAdd, Nat.zero_add]
          refine Reg.SeqOK.nil (by kernel_rfl) (fun γ W7 hW _ _ _ => ?_)
          replace HB := Lib.hid (HB.out.trans (hW.mono HB.out.size))
          replace K4 := Lib.hid (K4.out.keep hW)
          replace K5 := Lib.hid (K5.out.keep hW)
          replace K8 := Lib.hid (K8.out.keep hW)
          clear hW c0 c1 d0 d1 hb c5 f5 z5
          go_wp2_with fail
          refine ⟨⟨k + 1, by omega, by rw [HKQ.out], HB.out, K4.out, K5.out, K8.out⟩, by have := HKQ.out; simp [intOf]; omega⟩
        | false =>
          cases e2 with
          | true =>
            refine Reg.wp_region_seq (by kernel_rfl) (by kernel_rfl) ?_
            simp only
            iterate 29
              apply Reg.SeqOK.val
              · intro γ W hW K hK
                obtain ⟨hc, hf, _⟩ := bcell hW
                simp only [Act.put, List.setIfInBounds_toArray, List.set_cons_zero, List.set_cons_succ] at hK
                unfold Reg.Does
                go_simp
                try simp only [IntWalk.i64_left]
                first
                  | exact hK _ (Below.refl _ _)
                  | (go_at_call 22; (with_reducible refine (HBT.out _).mono ?_); rintro e w' ⟨rfl, hb⟩; exact hK _ hb)
                  | (trace_state; fail)
              simp only [Act.put, List.setIfInBounds_toArray, List.set_cons_zero, List.set_cons_succ, List.nil_append, List.cons_append, Nat.reduceAdd, Nat.zero_add]
            refine Reg.SeqOK.nil (by kernel_rfl) (fun γ W7 hW _ _ _ => ?_)
            replace HB := Lib.hid (HB.out.trans (hW.mono HB.out.size))
            replace K4 := Lib.hid (K4.out.keep hW)
            replace K5 := Lib.hid (K5.out.keep hW)
            replace K8 := Lib.hid (K8.out.keep hW)
            clear hW c0 c1 d0 d1 hb c5 f5 z5
            go_wp2_with fail
            refine ⟨⟨k + 1, by omega, by rw [HKQ.out], HB.out, K4.out, K5.out, K8.out⟩, by have := HKQ.out; simp [intOf]; omega⟩
          | false =>
            refine Reg.wp_region_seq (by kernel_rfl) (by kernel_rfl) ?_
            simp only
            iterate 29
              apply Reg.SeqOK.val
              · intro γ W hW K hK
                obtain ⟨hc, hf, _⟩ := bcell hW
                simp only [Act.put, List.setIfInBounds_toArray, List.set_cons_zero, List.set_cons_succ] at hK
                unfold Reg.Does
                go_simp
                try simp only [IntWalk.i64_left]
                first
                  | exact hK _ (Below.refl _ _)
                  | (go_at_call 22; (with_reducible refine (HBT.out _).mono ?_); rintro e w' ⟨rfl, hb⟩; exact hK _ hb)
                  | (trace_state; fail)
              simp only [Act.put, List.setIfInBounds_toArray, List.set_cons_zero, List.set_cons_succ, List.nil_append, List.cons_append, Nat.reduceAdd, Nat.zero_add]
            refine Reg.SeqOK.nil (by kernel_rfl) (fun γ W7 hW _ _ _ => ?_)
            replace HB := Lib.hid (HB.out.trans (hW.mono HB.out.size))
            replace K4 := Lib.hid (K4.out.keep hW)
            replace K5 := Lib.hid (K5.out.keep hW)
            replace K8 := Lib.hid (K8.out.keep hW)
            clear hW c0 c1 d0 d1 hb c5 f5 z5
            obtain ⟨c5, f5, z5⟩ := K5.out.facts
            go_wp2_with fail
            obtain ⟨i0, hi0, hz⟩ := Option.map_eq_some_iff.1 info_pt
            simp only [Prod.mk.injEq] at hz
            obtain ⟨hz0, hz1, hz2⟩ := hz
            obtain ⟨hml, hmv, t1, t2, t3, t4, hms, hme⟩ := HMO.out trivial trivial trivial
            have hJ := HJ.out
            have hKQ := HKQ.out
            have hlt1 : (l.take (k + 1)).length = q := by rw [List.length_take]; omega
            have hlt2 : (l.drop (k + 1)).length = l.length - q := by rw [List.length_drop]; omega
            have HS1 : Hid (∀ W, Reg.Keep (fun r => W7.heap.size ≤ r) W7 W → Ap.SrcAt W (some ⟨b, off, none⟩) 2 q (flat (l.take (k + 1)))) := fun W hW => by
              have h := src_line (line_take (HL.out.below (HB.out.trans (hW.below fun r hr => ⟨by have := HB.out.size; omega, by have := HB.out.size; omega⟩))) (k + 1))
              rw [hlt1] at h
              exact h
            have HS2 : Hid (∀ W, Reg.Keep (fun r => W7.heap.size ≤ r) W7 W → Ap.SrcAt W (some ⟨b, off + q * 2, none⟩) 2 (l.length - q) (flat (l.drop (k + 1)))) := fun W hW => by
              have h := src_line (line_drop (HL.out.below (HB.out.trans (hW.below fun r hr => ⟨by have := HB.out.size; omega, by have := HB.out.size; omega⟩))) (k + 1))
              rw [hlt2, show off + (k + 1) * 2 = off + q * 2 by rw [hKQ]] at h
              exact h
            have HFL : Hid ((flat (l.take (k + 1)) ++ [.int .i64 qx, .int .i64 qy]) ++ flat (l.drop (k + 1)) = flat (moreL l (qx, qy) k)) := by
              unfold Hid moreL
              rw [flat_app, flat_app]
              rfl
            have h5lt : g5 < W7.heap.size := K5.out.lt
            have h5n : ¬ W7.heap.size ≤ g5 := by omega
            have hqc : (q : Int) ≤ (c : Int) := by omega
            have hql' : (q : Int) ≤ (l.length : Int) := by omega
            have hcl : (l.length : Int) ≤ (c : Int) := by omega
            have hcq : ¬ c = q := by omega
            have hq1 : 1 ≤ q := by omega
            have h41 : l.length + 1 ≤ 9223372036854775807 := by omega
            generalize flat (l.take (k + 1)) = xs at *
            generalize flat (l.drop (k + 1)) = ys at *
            clear hlt1 hlt2 hJ hKQ
            refine RegR.wp_region_eff (dvR W7.heap.size qx qy) (dvF W7.heap.size qx qy) (dvT W7.heap.size q (l.length - q) xs qx qy ys) (by kernel_rfl) (by kernel_rfl) dvR_t dvR_b dvF_s dvT_s trivial ?_
            simp only
            refine RegR.SeqE.eff (fun e h => by simp at h) (fun δ W hW hkn hT K hK => ?_) ?_
            · simp only [Act.put, List.setIfInBounds_toArray, List.set_cons_zero, List.set_cons_succ] at hK
              unfold Reg.Does
              go_simp
              exact hK _ _ (dvR_b _ _ ((Below.refl _ _).alloc (Nat.le_refl _) _)) (fun e => absurd e (by decide)) ⟨W.heap.size, rfl, hW.1.size, Reg.heap_new _ _⟩
            simp only [Act.put, List.setIfInBounds_toArray, List.set_cons_zero, List.set_cons_succ, List.nil_append, List.cons_append, Nat.reduceAdd, Nat.zero_add]
            iterate 4
              apply RegR.SeqE.val
              rotate_left 2
              · intro δ W hW hkn K hK
                obtain ⟨hc, hf, _⟩ := Reg.kcell hW.1
                simp only [Act.put, List.setIfInBounds_toArray, List.set_cons_zero, List.set_cons_succ] at hK
                unfold Reg.Does
                go_simp
                try simp only [IntWalk.i64_left]
                first
                  | exact hK _ (Below.refl _ _)
                  | (trace_state; fail)
              rotate_left 1
              · intro δ δ' hd; first | rfl | (simp only [hd _ (show Reg.reach _ 12 _ _ = true by kernel_rfl)])
              · intro x w; first | exact trivial | (intro e; exact absurd e (by decide)) | exact ⟨fun e => absurd e (by decide), fun e => absurd e (by decide)⟩
              simp only [Act.put, List.setIfInBounds_toArray, List.set_cons_zero, List.set_cons_succ, List.nil_append, List.cons_append, Nat.reduceAdd, Nat.zero_add]
            refine RegR.SeqE.eff (fun e h => by simp at h; subst h; kernel_rfl) (fun δ W hW hkn hT K hK => ?_) ?_
            · obtain ⟨g, e0, hg, hcg⟩ := hT
              have hown : W.ownsRow W7.heap.size 24 2 (.slice (some ⟨g, 0, none⟩) 0 0) 0 [] := ⟨rfl, .inr ⟨g, 0, #[], rfl, hg, hcg, Nat.le_refl _, Nat.zero_le _, rfl, rfl⟩⟩
              refine Ap.does_appX Try.underlying38 hi0 hz0 hz1 hz2 rfl (by omega) (by omega) (by rfl) _ _ rfl e0 rfl hown (HS1.out W hW.1) (fun e => by cases e) (by omega) hW.1.size ?_
              intro A' c' w8 ho8 hg8 hb8
              refine hK _ _ (dvR_b _ _ (hb8 (by omega))) (fun e => absurd e (by decide)) ⟨⟨A', c', by rw [Nat.zero_add]⟩, ?_⟩
              rw [Nat.zero_add] at ho8 ⊢
              exact ho8
            simp only [Act.put, List.setIfInBounds_toArray, List.set_cons_zero, List.set_cons_succ, List.nil_append, List.cons_append, Nat.reduceAdd, Nat.zero_add]
            iterate 1
              apply RegR.SeqE.val
              rotate_left 2
              · intro δ W hW hkn K hK
                obtain ⟨hc, hf, _⟩ := Reg.kcell hW.1
                simp only [Act.put, List.setIfInBounds_toArray, List.set_cons_zero, List.set_cons_succ] at hK
                unfold Reg.Does
                go_simp
                try simp only [IntWalk.i64_left]
                first
                  | exact hK _ (Below.refl _ _)
                  | (trace_state; fail)
              rotate_left 1
              · intro δ δ' hd; first | rfl | (simp only [hd _ (show Reg.reach _ 12 _ _ = true by kernel_rfl)])
              · intro x w; first | exact trivial | (intro e; exact absurd e (by decide)) | exact ⟨fun e => absurd e (by decide), fun e => absurd e (by decide)⟩
              simp only [Act.put, List.setIfInBounds_toArray, List.set_cons_zero, List.set_cons_succ, List.nil_append, List.cons_append, Nat.reduceAdd, Nat.zero_add]
            refine RegR.SeqE.new (fun δ W hW hkn K hK => ?_) ?_
            · simp only [Act.put, List.setIfInBounds_toArray, List.set_cons_zero, List.set_cons_succ] at hK
              unfold Reg.Does
              go_simp
              exact hK _ _ ((Below.refl _ _).alloc (Nat.le_refl _) _) (fun _ => ⟨W.heap.size, rfl, hW.1.size, Reg.Blk.new _ _ _⟩)
            simp only [Act.put, List.setIfInBounds_toArray, List.set_cons_zero, List.set_cons_succ, List.nil_append, List.cons_append, Nat.reduceAdd, Nat.zero_add]
            refine RegR.SeqE.eff (fun e h => by simp at h; subst h; kernel_rfl) (fun δ W hW hkn hT K hK => ?_) ?_
            · obtain ⟨⟨A1', c1', e1⟩, hown⟩ := hT
              obtain ⟨g4, e4, hg4, hk4⟩ := hkn 7 (by kernel_rfl) rfl
              rw [e1] at hown
              refine Ap.does_appX Try.underlying38 hi0 hz0 hz1 hz2 rfl (by omega) (by omega) (by rfl) _ _ rfl e1 e4 hown (Ap.SrcAt.blk2 hk4 rfl rfl) (fun e => by cases e) (by omega) hW.1.size ?_
              intro A' c' w8 ho8 hg8 hb8
              refine hK _ _ ⟨?_, fun v hv => ?_⟩ (fun e => absurd e (by decide)) ⟨⟨A', c', rfl⟩, ho8⟩
              · refine keep_grown hg8 fun r e => ?_
                exact (hown.lt r e).1
              · obtain ⟨g, e, hg, hk⟩ := hv
                exact ⟨g, e, hg, Ap.app_beside hown hg8 hb8 hk (by simp; omega)⟩
            simp only [Act.put, List.setIfInBounds_toArray, List.set_cons_zero, List.set_cons_succ, List.nil_append, List.cons_append, Nat.reduceAdd, Nat.zero_add]
            iterate 4
              apply RegR.SeqE.val
              rotate_left 2
              · intro δ W hW hkn K hK
                obtain ⟨hc, hf, _⟩ := Reg.kcell hW.1
                simp only [Act.put, List.setIfInBounds_toArray, List.set_cons_zero, List.set_cons_succ] at hK
                unfold Reg.Does
                go_simp
                try simp only [IntWalk.i64_left]
                first
                  | exact hK _ (Below.refl _ _)
                  | (trace_state; fail)
              rotate_left 1
              · intro δ δ' hd; first | rfl | (simp only [hd _ (show Reg.reach _ 12 _ _ = true by kernel_rfl)])
              · intro x w; first | exact trivial | (intro e; exact absurd e (by decide)) | exact ⟨fun e => absurd e (by decide), fun e => absurd e (by decide)⟩
              simp only [Act.put, List.setIfInBounds_toArray, List.set_cons_zero, List.set_cons_succ, List.nil_append, List.cons_append, Nat.reduceAdd, Nat.zero_add]
            refine RegR.SeqE.eff (fun e h => by simp at h; subst h; kernel_rfl) (fun δ W hW hkn hT K hK => ?_) ?_
            · obtain ⟨⟨A2', c2', e2⟩, hown⟩ := hT
              rw [e2] at hown
              refine Ap.does_appX Try.underlying38 hi0 hz0 hz1 hz2 rfl (by omega) (by omega) (by rfl) _ _ rfl e2 rfl hown (HS2.out W hW.1) (fun e => by cases e) (by omega) hW.1.size ?_
              intro A' c' w8 ho8 hg8 hb8
              refine hK _ _ ⟨?_, fun v hv => ?_⟩ (fun e => absurd e (by decide)) ⟨⟨A', c', rfl⟩, ho8⟩
              · refine keep_grown hg8 fun r e => ?_
                exact (hown.lt r e).1
              · obtain ⟨g, e, hg, hk⟩ := hv
                exact ⟨g, e, hg, Ap.app_beside hown hg8 hb8 hk (by simp; omega)⟩
            simp only [Act.put, List.setIfInBounds_toArray, List.set_cons_zero, List.set_cons_succ, List.nil_append, List.cons_append, Nat.reduceAdd, Nat.zero_add]
            refine RegR.SeqE.val (fun δ => δ 13) (fun δ δ' hd => hd 13 (by kernel_rfl)) (fun _ _ e => absurd e (by decide)) (fun δ W hW hkn K hK => ?_) ?_
            · simp only [Act.put, List.setIfInBounds_toArray, List.set_cons_zero, List.set_cons_succ] at hK
              unfold Reg.Does
              go_simp
              exact hK _ (Below.refl _ _)
            simp only [Act.put, List.setIfInBounds_toArray, List.set_cons_zero, List.set_cons_succ, List.nil_append, List.cons_append, Nat.reduceAdd, Nat.zero_add]
            refine RegR.SeqE.nil (fun δ W hW _ hT => ?_)
            obtain ⟨⟨A3, c3, e3⟩, hown⟩ := hT
            have hlq : q + 1 + (l.length - q) = l.length + 1 := by omega
            rw [e3, hlq, HFL.out] at hown
            rw [hlq] at e3
            have hl3 : LineAt W A3 (moreL l (qx, qy) k) := line_src (by
              have h := Ap.SrcAt.own hown (flat_one _)
              rw [hml]; exact h)
            simp only [e3]
            have HL3 := Lib.hid hl3
            have HLM := Lib.hid (fun W (h : LineAt W A3 (moreL l (qx, qy) k)) => locate_any A3 c3 _ px py W h (by rw [hml]; exact h41))
            have HVM := Lib.hid (fun W (h : LineAt W A3 (moreL l (qx, qy) k)) => valid_line A3 c3 _ W h (by rw [hml]; exact h41))
            rw [hms, hme, hml] at HLM
            rw [hmv, hml] at HVM
            simp only [Spt.cells] at HLM
            generalize moreL l (qx, qy) k = M at *
            generalize δ 0 = u71
            generalize δ 5 = u76
            generalize δ 7 = u78
            generalize δ 8 = u79
            have hb8 : Below W7.heap.size W7 W := hW.1.below fun r hr => ⟨hr, by omega⟩
            replace HB := Lib.hid (HB.out.trans (hb8.mono HB.out.size))
            replace K4 := Lib.hid (K4.out.keep hb8)
            replace K5 := Lib.hid (K5.out.keep hb8)
            replace K8 := Lib.hid (K8.out.keep hb8)
            clear hW hb8 c5 f5 z5 hown e3 hl3 hms hme hml hmv HFL HS1 HS2 hlq
            obtain ⟨c4, f4', z4⟩ := K4.out.facts
            go_wp2_with fail
            (with_reducible refine (HLM.out _ HL3.out).mono ?_); rintro e w8 ⟨rfl, hb8⟩
            replace HB := Lib.hid (HB.out.trans (hb8.mono HB.out.size))
            replace K4 := Lib.hid (K4.out.keep hb8)
            replace K5 := Lib.hid (K5.out.keep hb8)
            replace K8 := Lib.hid (K8.out.keep hb8)
            replace HL3 := Lib.hid (HL3.out.below hb8)
            clear hb8 HLM c4 f4' z4
            have hal : Below w8.heap.size w8 (w8.alloc (.cells #[.int .i64 t1, .int .i64 t2, .int .i64 t3, .int .i64 t4, .int .i64 f3, .int .i64 f4] 34)) := (Below.refl _ _).alloc (Nat.le_refl _) _
            have K12 := Lib.hid (Reg.Blk.new w8 #[.int .i64 t1, .int .i64 t2, .int .i64 t3, .int .i64 t4, .int .i64 f3, .int .i64 f4] 34)
            replace HB := Lib.hid (HB.out.trans (hal.mono HB.out.size))
            replace K4 := Lib.hid (K4.out.keep hal)
            replace K5 := Lib.hid (K5.out.keep hal)
            replace K8 := Lib.hid (K8.out.keep hal)
            replace HL3 := Lib.hid (HL3.out.below hal)
            clear hal
            go_wp2_with fail
            (with_reducible refine (HVM.out _ HL3.out).mono ?_); rintro e w9 ⟨rfl, hb9⟩
            replace HB := Lib.hid (HB.out.trans (hb9.mono HB.out.size))
            replace K4 := Lib.hid (K4.out.keep hb9)
            replace K5 := Lib.hid (K5.out.keep hb9)
            replace K8 := Lib.hid (K8.out.keep hb9)
            replace K12 := Lib.hid (K12.out.keep hb9)
            clear hb9 HVM
            obtain ⟨c8, f8, z8⟩ := K8.out.facts
            obtain ⟨c12, f12, z12⟩ := K12.out.facts
            go_wp2_with fail
            refine ⟨⟨k + 1, by omega, by rw [HKQ.out], HB.out, K4.out, K5.out, K8.out⟩, by have := HKQ.out; simp [intOf]; omega⟩
    · obtain rfl : k = m := by omega
      obtain rfl : q = l.length := by have := HJ.out; omega
      clear hq
      go_wp2_with fail
      go_ret
      exact ⟨rfl, HB.out⟩
theorem divides_walk (A : Option Addr) (c : Nat) (l : List P2) (px py qx qy : Int) (w : World) (hl : LineAt w A l) (hn : (l.length ≤ c ∧ c ≤ maxLen) ∧ (A = none → c = 0)) (_hx : -9223372036854775808 ≤ px ∧ px ≤ 9223372036854775807) (_hy : -9223372036854775808 ≤ py ∧ py ≤ 9223372036854775807) (_hu : -9223372036854775808 ≤ qx ∧ qx ≤ 9223372036854775807) (_hv : -9223372036854775808 ≤ qy ∧ qy ≤ 9223372036854775807) :
    Calls Try.prog 7 #[.slice A l.length c, .agg #[.int .i64 px, .int .i64 py], .agg #[.int .i64 qx, .int .i64 qy]] w fun e w' => e = .returned (.bool true) ∧ Below w.heap.size w w' := by
  by_cases h40 : 40 ≤ l.length
  · exact divides_long A c _ px py qx qy w h40
  · cases hv : validL l && onB px py with
    | false => exact divides_no A c l px py qx qy w hl (by omega) hv
    | true =>
      rw [Bool.and_eq_true] at hv
      obtain ⟨j, hb⟩ := best_of hv.1 hv.2
      exact divides_yes A c l px py qx qy w hl (by omega) hn.1.1 hn.1.2 hv.1 hv.2 j hb

end G
end Go.Proofs.Ytjeapimjgojpoaa
