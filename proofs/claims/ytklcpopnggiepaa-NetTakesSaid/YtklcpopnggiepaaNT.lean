/- Law 'NetTakes': the walk. -/
import Derived.Test.YtklcpopnggiepaaNp
set_option linter.unusedSimpArgs false
set_option linter.unusedVariables false
set_option maxRecDepth 100000
namespace Go.Proofs.Ytklcpopnggiepaa
open Go.RowKit
namespace N

def takeD (l : List Tx) : Nt := { newN 2 with q := at2 (fun _ _ => []) 1 0 l }
theorem take_0 : takeD [] = newN 2 := by
  have e : at2 (fun _ _ => ([] : List Tx)) 1 0 [] = fun _ _ => [] := funext fun x => funext fun y => by simp [at2]
  show (⟨2, at2 (fun _ _ => ([] : List Tx)) 1 0 [], fun _ _ => false⟩ : Nt) = ⟨2, fun _ _ => [], fun _ _ => false⟩
  rw [e]
theorem take_send (l : List Tx) (t : Tx) (hl : l.length < 100) (ht : t.length ≤ 100) : send (takeD l) 1 0 t = (0, takeD (l ++ [t])) := by
  have e : (takeD l).q 1 0 = l := by simp [takeD, at2]
  unfold send
  rw [if_neg (by simp [takeD, newN, okP]), if_neg (by omega), if_neg (by simp [takeD, newN]), e, if_neg (by omega)]
  have : at2 (takeD l).q 1 0 (l ++ [t]) = (takeD (l ++ [t])).q := by
    funext x y
    simp only [takeD, at2]
    split <;> rfl
  rw [this]; rfl
theorem take_wait (l : List Tx) : waiting (takeD l) 1 0 = l := by simp [waiting, takeD, newN, okP, at2]
theorem take_in (l : List Tx) (k : Int) : inQ (takeD l) 1 0 k = (decide (0 ≤ k) && decide (k < l.length)) := by simp [inQ, takeD, newN, okP, at2]
theorem take_out (l : List Tx) (k : Int) (again : Bool) (h : k < 0 ∨ (l.length : Int) ≤ k) : deliver (takeD l) 1 0 k false again = (([], false), takeD l) := by
  have hi : inQ (takeD l) 1 0 k = false := by rw [take_in]; simp; omega
  unfold deliver delT delD
  rw [if_pos hi, if_pos hi]
theorem take_yes (l : List Tx) (k : Nat) (again : Bool) (h : k < l.length) : deliver (takeD l) 1 0 k false again = ((l[k], true), if again = true then takeD l else takeD (cutAt l k)) := by
  have hi : inQ (takeD l) 1 0 k = true := by rw [take_in]; simp; omega
  have e : (takeD l).q 1 0 = l := by simp [takeD, at2]
  unfold deliver delT delD
  rw [if_neg (by simp [hi]), if_neg (by simp), if_neg (by simp [hi]), e]
  have e2 : l.getD (k : Int).toNat [] = l[k] := by simp [List.getD_eq_getElem?_getD, h]
  rw [e2]
  cases again
  · simp only [Bool.false_or, Bool.not_false, if_true, Bool.false_eq_true, if_false]
    congr 1
    unfold cutD
    rw [e]
    show (⟨2, at2 (takeD l).q 1 0 (cutAt l k), fun _ _ => false⟩ : Nt) = ⟨2, at2 (fun _ _ => []) 1 0 (cutAt l k), fun _ _ => false⟩
    congr 1
    funext x y
    simp only [takeD, at2]
    split <;> rfl
  · simp

theorem cutAt_length (l : List Tx) (k : Nat) (h : k < l.length) : (cutAt l k).length = k + (l.length - (k + 1)) := by simp [cutAt]; omega
def newM (N0 k : Nat) : Prop := N0 ≤ k
theorem keepB {w w' : World} (h : Reg.Keep (newM w.heap.size) w w') : Below w.heap.size w w' := h.below fun k hk => ⟨hk, by unfold newM; omega⟩
theorem keep_grown {N0 : Nat} {w w' : World} {row : Option Nat} (hg : w.grownBy w' row) (hr : ∀ k, row = some k → N0 ≤ k) : Reg.Keep (newM N0) w w' :=
  ⟨hg.os, hg.tape, hg.output, hg.size, fun k hk hn => hg.block k hk fun e => hn (hr k e.symm)⟩
def TakeT (N0 j : Nat) (l : List Tx) : List Value → World → Prop
  | [], _ => True
  | [x], W => ∃ A c, x = .slice A 0 c ∧ W.ownsRow N0 9 1 x 0 (sv [])
  | [_, x], W => ∃ A c, x = .slice A j c ∧ W.ownsRow N0 9 1 x j (sv (l.take j))
  | [_, _, x], W => ∃ A c, x = .slice A (j + (l.length - (j + 1))) c ∧ W.ownsRow N0 9 1 x (j + (l.length - (j + 1))) (sv (cutAt l j))
  | [_, _, _, x], _ => x = .bool true
  | _, _ => False
theorem takeT_stays {N0 j : Nat} {l : List Tx} : ∀ vs w w', TakeT N0 j l vs w → Below w.heap.size w w' → TakeT N0 j l vs w' := by
  intro vs w w' h hb
  match vs, h with
  | [], _ => trivial
  | [x], ⟨A, c, e, h2⟩ => exact ⟨A, c, e, own_below h2 hb⟩
  | [x, y], ⟨A, c, e, h2⟩ => exact ⟨A, c, e, own_below h2 hb⟩
  | [x, y, z], ⟨A, c, e, h2⟩ => exact ⟨A, c, e, own_below h2 hb⟩
  | [x, y, z, u], e => exact e

set_option maxHeartbeats 8000000 in
theorem takes_walk (A : Option Addr) (c : Nat) (l : List Tx) (which : Int) (again : Bool) (w : World) (hs : StrsAt w A l) (hc : (l.length ≤ c ∧ c ≤ maxLen) ∧ (A = none → c = 0)) (hb : ∀ t ∈ l, t.length ≤ maxLen) (hw : B64 which) :
    Calls Try.prog 4 #[.slice A l.length c, .int .i64 which, .bool again] w fun e w' => e = .returned (.bool true) ∧ Below w.heap.size w w' := by
  have HH := Lib.hid (head_any w)
  have HS := Lib.hid hs
  have HC := Lib.hid hc
  have HBt := Lib.hid hb
  clear hs hc hb
  by_cases hl : l.length ≤ 90
  · have c1 : ¬ 90 < l.length := by omega
    have c2 : ¬ (90 : Int) < (l.length : Int) := by omega
    have c3 : decide (90 < l.length) = false := by simp; omega
    have c4 : decide ((90 : Int) < (l.length : Int)) = false := by simp; omega
    go_enter Try.func4, Try.ntmps4
    go_wp2_with fail
    (with_reducible refine HH.out.mono ?_); rintro e w1 ⟨rfl, hb1⟩
    have hnew := Lib.hid (tr_new (w0 := w) (W := w1) 2 (by omega) (by omega) hb1)
    clear hb1 HH
    go_wp2_with fail
    refine hnew.out.mono ?_
    rintro e W0 ⟨g, M0, rfl, ht0, _, _⟩
    rw [← take_0] at ht0
    have HT0 := Lib.hid ht0
    clear hnew ht0
    go_wp2_with fail
    go_loopw [10] (fun i wr => ∃ (k : Nat) (M : Nat → Prop), k ≤ l.length ∧ i = .int .i64 k ∧ (∀ j (h : j < l.length), j < k → l[j].length ≤ 100) ∧ Tr w g (takeD (l.take k)) M wr) (fun i _ => l.length - (intOf i).toNat)
    case atStart => exact ⟨0, M0, Nat.zero_le _, rfl, fun j _ h => by omega, HT0.out⟩
    case round =>
      obtain ⟨k, M, hk, rfl, hall, htr⟩ := hrel
      have Hall := Lib.hid hall
      clear hall
      by_cases hlt : k < l.length
      · obtain ⟨b, off, hA, hb2, hcell⟩ := (HS.out.below htr.low) k hlt
        have hsz := str_size l[k]
        have hk0 : (0 : Int) ≤ (k : Int) := by omega
        have hkn : (k : Int) < (l.length : Int) := by omega
        have Htr := Lib.hid htr
        by_cases ht : l[k].length ≤ 100
        · have q := take_send (l.take k) l[k] (by simp; omega) ht
          have e1 : l.take k ++ [l[k]] = l.take (k + 1) := List.take_append_getElem hlt
          rw [e1] at q
          have qs := tr_send 1 0 l[k] b1 b0 htr
          rw [q] at qs
          have Q := Lib.hid qs
          have HtL : Hid (∀ h : k < l.length, l[k].length ≤ 100) := fun _ => ht
          have d1 : ¬ 100 < (str l[k]).size := by omega
          have d2 : ¬ (100 : Int) < ((str l[k]).size : Int) := by omega
          clear hsz qs q e1 htr ht
          generalize l[k] = x at *
          subst hA
          go_wp2_with fail
          refine Q.out.mono ?_
          rintro e W2 ⟨rfl, M2, ht2, _⟩
          have HT2 := Lib.hid ht2
          clear ht2 Q
          go_wp2_with fail
          refine ⟨⟨k + 1, M2, by omega, by go_num, fun j h hj => ?_, HT2.out⟩, by simp [intOf]; omega⟩
          rcases Nat.lt_or_ge j k with h5 | h5
          · exact Hall.out j h h5
          · obtain rfl : j = k := by omega
            exact HtL.out h
        · have HtL := Lib.hid ht
          have d1 : 100 < (str l[k]).size := by omega
          have d2 : (100 : Int) < ((str l[k]).size : Int) := by omega
          clear hsz htr ht
          generalize l[k] = x at *
          subst hA
          go_wp2_with fail
          go_ret
          exact ⟨rfl, Htr.out.low⟩
      · obtain rfl : k = l.length := by omega
        rw [List.take_length] at htr
        have qd := tr_deliver 1 0 which false again b1 b0 htr
        by_cases hout : which < 0 ∨ (l.length : Int) ≤ which
        · rw [take_out l which again hout] at qd
          simp only [s_] at qd
          have Q := Lib.hid qd
          have Ho := Lib.hid hout
          clear qd htr hout
          go_wp2_with fail
          refine Q.out.mono ?_
          rintro e W2 ⟨rfl, M2, ht2, _⟩
          have qw := tr_waiting 1 0 b1 b0 ht2
          rw [take_wait] at qw
          have Q2 := Lib.hid qw
          have HL2 := Lib.hid ht2.low
          clear ht2 qw Q
          go_wp2_with fail
          refine Q2.out.mono ?_
          rintro e W3 ⟨A3, c3', rfl, ho, hb3⟩
          have HL3 := Lib.hid (HL2.out.trans (hb3.mono HL2.out.size))
          have hx := same_any A3 A c3' c l l W3 (StrsAt.own ho rfl) (HS.out.below HL3.out) (by omega) (by omega)
          simp only [beq_self_eq_true] at hx
          have HX := Lib.hid hx
          clear ho hb3 hx Q2
          by_cases h0 : which < 0
          · go_wp2_with fail
            refine HX.out.mono ?_
            rintro e W4 ⟨rfl, hb4⟩
            have HL4 := Lib.hid (HL3.out.trans (hb4.mono HL3.out.size))
            clear hb4
            go_wp2_with fail
            go_ret
            exact ⟨rfl, HL4.out⟩
          · have h1 : (l.length : Int) ≤ which := by have := Ho.out; omega
            have h2 : decide (which < 0) = false := by simp; omega
            have h3 : decide ((l.length : Int) ≤ which) = true := by simp [h1]
            go_wp2_with fail
            refine HX.out.mono ?_
            rintro e W4 ⟨rfl, hb4⟩
            have HL4 := Lib.hid (HL3.out.trans (hb4.mono HL3.out.size))
            clear hb4
            go_wp2_with fail
            go_ret
            exact ⟨rfl, HL4.out⟩
        · obtain ⟨j, rfl⟩ := Int.eq_ofNat_of_zero_le (show 0 ≤ which by omega)
          have hj : j < l.length := by omega
          have h2 : decide ((j : Int) < 0) = false := by simp
          have h3 : decide ((l.length : Int) ≤ (j : Int)) = false := by simp; omega
          have h4 : decide (l.length ≤ j) = false := by simp; omega
          rw [take_yes l j again hj] at qd
          clear hout
          cases again
          · simp only [Bool.false_eq_true, if_false] at qd
            have Q := Lib.hid qd
            clear qd htr
            go_wp2_with fail
            refine Q.out.mono ?_
            rintro e W2 ⟨rfl, M2, ht2, _⟩
            have qw := tr_waiting 1 0 b1 b0 ht2
            rw [take_wait] at qw
            have Q2 := Lib.hid qw
            have HL2 := Lib.hid ht2.low
            clear ht2 qw Q
            go_wp2_with fail
            refine Q2.out.mono ?_
            rintro e W3 ⟨A3, c3', rfl, ho, hb3⟩
            have HL3 := Lib.hid (HL2.out.trans (hb3.mono HL2.out.size))
            have HO := Lib.hid ho
            obtain ⟨b, off, hA, hb2, hcell⟩ := (HS.out.below HL3.out) j hj
            have hwr : IntKind.i64.wrap ((j : Int) + 1) = (j : Int) + 1 := IntWalk.i64_in _ (by omega)
            obtain ⟨A1, a1, r1, s1⟩ := run_to (x := l) (k := j) HC.out.2 rfl (by omega) HC.out.1.1
            obtain ⟨A2, a2, r2, s2⟩ := run_from (x := l) (k := j + 1) HC.out.2 rfl (by omega) HC.out.1.1
            rw [Int.natCast_add] at r2
            simp only [Int.natCast_one] at r2
            have S1 := Lib.hid (fun W (h : Below W3.heap.size W3 W) => s1 W (HS.out.below (HL3.out.trans (h.mono HL3.out.size))))
            have S2 := Lib.hid (fun W (h : Below W3.heap.size W3 W) => s2 W (HS.out.below (HL3.out.trans (h.mono HL3.out.size))))
            have S0 := Lib.hid (fun W (h : Below W3.heap.size W3 W) => HS.out.below (HL3.out.trans (h.mono HL3.out.size)))
            have A1' := Lib.hid a1
            have A2' := Lib.hid a2
            have hn0 : ¬ newM W3.heap.size b := by unfold newM; omega
            have HCC := Lib.hid (cutAt_length l j hj)
            clear ho hb3 Q2 s1 s2 a1 a2
            generalize hlj : l[j] = x at *
            have HLJ := Lib.hid hlj
            clear hlj
            subst hA
            go_wp2_with fail
            refine Reg.wp_region_eff (newM W3.heap.size) (fun _ _ _ => True) (TakeT W3.heap.size j l) (by kernel_rfl) (by kernel_rfl) (fun _ _ _ _ _ _ => trivial) takeT_stays trivial ?_
            simp only
            iterate 14
              apply Reg.SeqE.val
              rotate_left 2
              · intro δ W hW hkn K hK
                obtain ⟨hc, hf, _⟩ := Reg.kcell hW
                simp only [Act.put, List.setIfInBounds_toArray, List.set_cons_zero, List.set_cons_succ] at hK
                unfold Reg.Does
                go_simp
                try simp only [IntWalk.i64_left]
                first
                  | exact hK _ (Below.refl _ _)
                  | (trace_state; fail)
              rotate_left 1
              · intro δ δ' hd; first | rfl | (simp only [hd _ (show Reg.reach _ 12 _ _ = true by kernel_rfl)])
              · intro x w; exact trivial
              simp only [Act.put, List.setIfInBounds_toArray, List.set_cons_zero, List.set_cons_succ, List.nil_append, List.cons_append, Nat.reduceAdd, Nat.zero_add]
            refine Reg.SeqE.eff (fun e h => by simp at h) (fun δ W5 hW5 hkn hT5 K hK => ?_) ?_
            · simp only [Act.put, List.setIfInBounds_toArray, List.set_cons_zero, List.set_cons_succ] at hK
              unfold Reg.Does
              go_simp
              refine hK _ _ (Reg.Keep.ofBelow ((Below.refl _ _).alloc (Nat.le_refl _) _)) trivial ⟨_, 0, rfl, rfl, .inr ⟨W5.heap.size, 0, _, rfl, hW5.size, Reg.heap_new _ _, Nat.le_refl _, by unfold maxLen; omega, rfl, rfl⟩⟩
            simp only [Act.put, List.setIfInBounds_toArray, List.set_cons_zero, List.set_cons_succ, List.nil_append, List.cons_append, Nat.reduceAdd, Nat.zero_add]
            iterate 3
              apply Reg.SeqE.val
              rotate_left 2
              · intro δ W hW hkn K hK
                obtain ⟨hc, hf, _⟩ := Reg.kcell hW
                simp only [Act.put, List.setIfInBounds_toArray, List.set_cons_zero, List.set_cons_succ] at hK
                unfold Reg.Does
                go_simp
                try simp only [IntWalk.i64_left]
                first
                  | exact hK _ (Below.refl _ _)
                  | (trace_state; fail)
              rotate_left 1
              · intro δ δ' hd; first | rfl | (simp only [hd _ (show Reg.reach _ 12 _ _ = true by kernel_rfl)])
              · intro x w; exact trivial
              simp only [Act.put, List.setIfInBounds_toArray, List.set_cons_zero, List.set_cons_succ, List.nil_append, List.cons_append, Nat.reduceAdd, Nat.zero_add]
            refine Reg.SeqE.eff (fun e h => ?_) (fun δ W5 hW5 hkn hT5 K hK => ?_) ?_
            · simp only [List.getLast?_singleton, Option.some.injEq] at h
              subst h
              kernel_rfl
            · obtain ⟨Ax, cx, e14, ho⟩ := hT5
              refine does_app (by rfl) _ _ rfl rfl rfl ho (by simp; omega) (S1.out W5 (keepB hW5)) A1'.out (by omega) hW5.size ?_
              intro A' c' w6 ho6 hg6 hat6
              rw [List.nil_append] at ho6
              simp only [Nat.zero_add] at ho6 ⊢
              exact hK _ _ (keep_grown hg6 (fun q hq => (ho.lt q hq).1)) trivial ⟨A', c', rfl, ho6⟩
            simp only [Act.put, List.setIfInBounds_toArray, List.set_cons_zero, List.set_cons_succ, List.nil_append, List.cons_append, Nat.reduceAdd, Nat.zero_add]
            iterate 4
              apply Reg.SeqE.val
              rotate_left 2
              · intro δ W hW hkn K hK
                obtain ⟨hc, hf, _⟩ := Reg.kcell hW
                simp only [Act.put, List.setIfInBounds_toArray, List.set_cons_zero, List.set_cons_succ] at hK
                unfold Reg.Does
                go_simp
                try simp only [IntWalk.i64_left]
                first
                  | exact hK _ (Below.refl _ _)
              rotate_left 1
              · intro δ δ' hd; first | rfl | (simp only [hd _ (show Reg.reach _ 12 _ _ = true by kernel_rfl)])
              · intro x w; exact trivial
              simp only [Act.put, List.setIfInBounds_toArray, List.set_cons_zero, List.set_cons_succ, List.nil_append, List.cons_append, Nat.reduceAdd, Nat.zero_add]
            refine Reg.SeqE.eff (fun e h => ?_) (fun δ W5 hW5 hkn hT5 K hK => ?_) ?_
            · simp only [List.getLast?_cons_cons, List.getLast?_singleton, Option.some.injEq] at h
              subst h
              kernel_rfl
            · obtain ⟨Ax, cx, e18, ho⟩ := hT5
              refine does_app (by rfl) _ _ rfl rfl rfl ho (by simp) (S2.out W5 (keepB hW5)) A2'.out (by omega) hW5.size ?_
              intro A' c' w6 ho6 hg6 hat6
              exact hK _ _ (keep_grown hg6 (fun q hq => (ho.lt q hq).1)) trivial ⟨A', c', rfl, ho6⟩
            simp only [Act.put, List.setIfInBounds_toArray, List.set_cons_zero, List.set_cons_succ, List.nil_append, List.cons_append, Nat.reduceAdd, Nat.zero_add]
            refine Reg.SeqE.eff (fun e h => ?_) (fun δ W5 hW5 hkn hT5 K hK => ?_) ?_
            · simp only [List.getLast?_cons_cons, List.getLast?_singleton, Option.some.injEq] at h
              subst h
              kernel_rfl
            · obtain ⟨Ax, cx, e23, ho⟩ := hT5
              have e23' : δ 23 = .slice Ax (j + (l.length - (j + 1))) cx := e23
              rw [e23, ← HCC.out] at ho
              rw [← HCC.out] at e23'
              have hx := same_any A3 Ax c3' cx (cutAt l j) (cutAt l j) W5 (StrsAt.own (own_below HO.out (keepB hW5)) rfl) (StrsAt.own ho rfl) (by have := cutAt_len l j; omega) (by have := cutAt_len l j; omega)
              simp only [beq_self_eq_true] at hx
              have HX := Lib.hid hx
              clear ho hx e23
              simp only [Act.put, List.setIfInBounds_toArray, List.set_cons_zero, List.set_cons_succ] at hK
              rw [e23'] at hK
              unfold Reg.Does
              go_simp
              refine HX.out.mono ?_
              rintro e w6 ⟨rfl, hb6⟩
              exact hK _ _ (Reg.Keep.ofBelow hb6) trivial rfl
            simp only [Act.put, List.setIfInBounds_toArray, List.set_cons_zero, List.set_cons_succ, List.nil_append, List.cons_append, Nat.reduceAdd, Nat.zero_add]
            refine Reg.SeqE.val (fun δ => δ 24) (fun δ δ' hd => hd 24 (by kernel_rfl)) (fun _ _ => trivial) (fun δ W5 hW5 hkn K hK => ?_) ?_
            · simp only [Act.put, List.setIfInBounds_toArray, List.set_cons_zero, List.set_cons_succ] at hK
              unfold Reg.Does
              go_simp
              exact hK _ (Below.refl _ _)
            simp only [Act.put, List.setIfInBounds_toArray, List.set_cons_zero, List.set_cons_succ, List.nil_append, List.cons_append, Nat.reduceAdd, Nat.zero_add]
            refine Reg.SeqE.val (fun δ => δ 24) (fun δ δ' hd => hd 24 (by kernel_rfl)) (fun _ _ => trivial) (fun δ W5 hW5 hkn K hK => ?_) ?_
            · simp only [Act.put, List.setIfInBounds_toArray, List.set_cons_zero, List.set_cons_succ] at hK
              unfold Reg.Does
              go_simp
              exact hK _ (Below.refl _ _)
            simp only [Act.put, List.setIfInBounds_toArray, List.set_cons_zero, List.set_cons_succ, List.nil_append, List.cons_append, Nat.reduceAdd, Nat.zero_add]
            refine Reg.SeqE.nil (fun δ W5 hW5 hF hT5 => ?_)
            have e24 : δ 24 = .bool true := hT5
            have HL5 := Lib.hid (HL3.out.trans ((keepB hW5).mono HL3.out.size))
            rw [e24]
            clear e24 hT5 hF hW5
            go_wp2_with fail
            go_ret
            exact ⟨rfl, HL5.out⟩
          · simp only [if_true] at qd
            have Q := Lib.hid qd
            clear qd htr
            go_wp2_with fail
            refine Q.out.mono ?_
            rintro e W2 ⟨rfl, M2, ht2, _⟩
            have qw := tr_waiting 1 0 b1 b0 ht2
            rw [take_wait] at qw
            have Q2 := Lib.hid qw
            have HL2 := Lib.hid ht2.low
            clear ht2 qw Q
            go_wp2_with fail
            refine Q2.out.mono ?_
            rintro e W3 ⟨A3, c3', rfl, ho, hb3⟩
            have HL3 := Lib.hid (HL2.out.trans (hb3.mono HL2.out.size))
            have hx := same_any A3 A c3' c l l W3 (StrsAt.own ho rfl) (HS.out.below HL3.out) (by omega) (by omega)
            simp only [beq_self_eq_true] at hx
            have HX := Lib.hid hx
            obtain ⟨b, off, hA, hb2, hcell⟩ := (HS.out.below HL3.out) j hj
            clear ho hb3 hx Q2
            generalize l[j] = x at *
            subst hA
            go_wp2_with fail
            refine HX.out.mono ?_
            rintro e W4 ⟨rfl, hb4⟩
            have HL4 := Lib.hid (HL3.out.trans (hb4.mono HL3.out.size))
            clear hb4
            go_wp2_with fail
            go_ret
            exact ⟨rfl, HL4.out⟩
  · have c1 : 90 < l.length := by omega
    have c2 : (90 : Int) < (l.length : Int) := by omega
    go_enter Try.func4, Try.ntmps4
    go_wp2_with fail
    (with_reducible refine HH.out.mono ?_); rintro e w1 ⟨rfl, hb1⟩
    have hnew := Lib.hid (tr_new (w0 := w) (W := w1) 2 (by omega) (by omega) hb1)
    clear hb1 HH
    go_wp2_with fail
    refine hnew.out.mono ?_
    rintro e W0 ⟨g, M0, rfl, ht0, _, _⟩
    have HT0 := Lib.hid ht0.low
    clear hnew ht0
    go_wp2_with fail
    go_ret
    exact ⟨rfl, HT0.out⟩

end N
end Go.Proofs.Ytklcpopnggiepaa
