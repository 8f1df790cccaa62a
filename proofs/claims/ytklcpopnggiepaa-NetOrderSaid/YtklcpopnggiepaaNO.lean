/- Law 'NetOrder': the walk. -/
import Derived.Test.YtklcpopnggiepaaNp
set_option linter.unusedSimpArgs false
set_option linter.unusedVariables false
set_option maxRecDepth 100000
namespace Go.Proofs.Ytklcpopnggiepaa
open Go.RowKit
namespace N

def ordD (a b : Int) (l : List Tx) : Nt := { newN 4 with q := at2 (fun _ _ => []) a b l }
section
variable {a b : Int} (ha : 0 ≤ a ∧ a < 4) (hb : 0 ≤ b ∧ b < 4) (hab : a ≠ b)
include ha hb hab
theorem ord_ok : okP 4 a b = true := by rw [okP_iff]; exact ⟨hab, ha, hb⟩
theorem ord_send (l : List Tx) (t : Tx) (hl : l.length < 100) (ht : t.length ≤ 100) : send (ordD a b l) a b t = (0, ordD a b (l ++ [t])) := by
  have e : (ordD a b l).q a b = l := by simp [ordD, at2]
  have ok : okP (ordD a b l).n a b = true := ord_ok ha hb hab
  unfold send
  rw [if_neg (by simp [ok]), if_neg (by omega), if_neg (by simp [ordD, newN]), e, if_neg (by omega)]
  have : at2 (ordD a b l).q a b (l ++ [t]) = (ordD a b (l ++ [t])).q := by
    funext x y
    simp only [ordD, at2]
    split <;> rfl
  rw [this]; rfl
theorem ord_wait (l : List Tx) : waiting (ordD a b l) a b = l := by
  have ok : okP (ordD a b l).n a b = true := ord_ok ha hb hab
  unfold waiting
  rw [if_pos ok]
  simp [ordD, at2]
theorem ord_deliver (t : Tx) (l : List Tx) : deliver (ordD a b (t :: l)) a b 0 false false = ((t, true), ordD a b l) := by
  have ok : okP (ordD a b (t :: l)).n a b = true := ord_ok ha hb hab
  have e : (ordD a b (t :: l)).q a b = t :: l := by simp [ordD, at2]
  have hi : inQ (ordD a b (t :: l)) a b 0 = true := by
    unfold inQ
    rw [ok, e]
    simp
  unfold deliver delT delD
  rw [if_neg (by simp [hi]), if_neg (by simp), if_neg (by simp [hi]), e]
  simp only [Bool.false_or, Bool.not_false, if_true]
  congr 1
  unfold cutD
  rw [e]
  show (⟨4, at2 (ordD a b (t :: l)).q a b (cutAt (t :: l) (0 : Int).toNat), fun _ _ => false⟩ : Nt) = ⟨4, at2 (fun _ _ => []) a b l, fun _ _ => false⟩
  congr 1
  funext x y
  simp only [ordD, at2]
  split <;> rfl
end
theorem ord_0 (a b : Int) : ordD a b [] = newN 4 := by
  have e : at2 (fun _ _ => ([] : List Tx)) a b [] = fun _ _ => [] := funext fun x => funext fun y => by simp [at2]
  show (⟨4, at2 (fun _ _ => ([] : List Tx)) a b [], fun _ _ => false⟩ : Nt) = ⟨4, fun _ _ => [], fun _ _ => false⟩
  rw [e]

/-- A row beside the network, carried on. -/
theorem SafeRow.of {M : Nat → Prop} {B : Nat} {v : Value} {n : Nat} {xs : List Value} {W : World} (h : W.ownsRow B 9 1 v n xs) (hM : ∀ k, v.ownBlock = some k → ¬ M k) : SafeRow M B 9 1 v n xs W := ⟨h, hM⟩

set_option maxHeartbeats 8000000 in
theorem order_walk (A : Option Addr) (c : Nat) (l : List Tx) (ra rb : Int) (A2 : Option Addr) (c2 : Nat) (bs : List Bool) (w : World) (hs : StrsAt w A l) (hc : (l.length ≤ c ∧ c ≤ maxLen) ∧ (A = none → c = 0)) (hbt : ∀ t ∈ l, t.length ≤ maxLen) (h1 : 0 ≤ ra ∧ ra ≤ 255) (h2 : 0 ≤ rb ∧ rb ≤ 255)
    (hbs : BoolsAt w A2 bs) (hbl : bs.length ≤ 9223372036854775807) (_ : True) :
    Calls Try.prog 3 #[.slice A l.length c, .int .u8 ra, .int .u8 rb, .slice A2 bs.length c2] w fun e w' => e = .returned (.bool true) ∧ Below w.heap.size w w' := by
  obtain ⟨h1, h1'⟩ := h1
  obtain ⟨h2, h2'⟩ := h2
  obtain ⟨a, hra, ha⟩ : ∃ a : Nat, ra % 4 = (a : Int) ∧ a < 4 := ⟨(ra % 4).toNat, by omega, by omega⟩
  obtain ⟨b, hrb, hb⟩ : ∃ b : Nat, rb % 4 = (b : Int) ∧ b < 4 := ⟨(rb % 4).toNat, by omega, by omega⟩
  have HH := Lib.hid (head_any w)
  have HS := Lib.hid hs
  have HC := Lib.hid hc
  have HB := Lib.hid hbs
  have HBL := Lib.hid hbl
  clear hs hc hbt hbs hbl
  by_cases hl : l.length ≤ 90
  · by_cases hab : a = b
    · subst hab
      have c1 : ¬ 90 < l.length := by omega
      have c2 : ¬ (90 : Int) < (l.length : Int) := by omega
      go_enter Try.func3, Try.ntmps3
      go_wp2_with fail
      (with_reducible refine HH.out.mono ?_); rintro e w1 ⟨rfl, hb1⟩
      go_wp2_with fail
      go_ret
      exact ⟨rfl, hb1⟩
    · have c1 : ¬ 90 < l.length := by omega
      have c2 : ¬ (90 : Int) < (l.length : Int) := by omega
      have hab' : ((a : Int) == (b : Int)) = false := by simp; omega
      have hab2 : decide (a = b) = false := by simp [hab]
      have Hab := Lib.hid hab
      have ia : 0 ≤ (a : Int) ∧ (a : Int) < 4 := by omega
      have ib : 0 ≤ (b : Int) ∧ (b : Int) < 4 := by omega
      have iab : (a : Int) ≠ (b : Int) := by omega
      have Hia := Lib.hid ia
      have Hib := Lib.hid ib
      have Hiab := Lib.hid iab
      have B1 : Hid (B64 (a : Int)) := by unfold Hid B64; omega
      have B2 : Hid (B64 (b : Int)) := by unfold Hid B64; omega
      clear ia ib iab
      go_enter Try.func3, Try.ntmps3
      go_wp2_with fail
      (with_reducible refine HH.out.mono ?_); rintro e w1 ⟨rfl, hb1⟩
      have hnew := Lib.hid (tr_new (w0 := w) (W := w1) 4 (by omega) (by omega) hb1)
      clear hb1 HH
      go_wp2_with fail
      refine hnew.out.mono ?_
      rintro e W0 ⟨g, M0, rfl, ht0, _, _⟩
      rw [← ord_0 a b] at ht0
      have HT0 := Lib.hid ht0
      clear hnew ht0
      go_wp2_with fail
      go_loopw [14, 15] (fun v i wr => ∃ (k : Nat) (M : Nat → Prop) (gs q : List Tx), k ≤ l.length ∧ i = .int .i64 k ∧ gs ++ q = l.take k ∧ (∃ A c, v = .slice A gs.length c) ∧ Tr w g (ordD a b q) M wr ∧ SafeRow M w.heap.size 9 1 v gs.length (sv gs) wr) (fun _ i _ => l.length - (intOf i).toNat)
      case atStart => exact ⟨0, M0, [], [], Nat.zero_le _, rfl, rfl, ⟨none, 0, rfl⟩, HT0.out, nil_row _ _, fun k h => by simp [Value.ownBlock] at h⟩
      case round =>
        obtain ⟨k, M, gs, q, hk, rfl, hgq, ⟨A3, c3, rfl⟩, htr, hsr⟩ := hrel
        have hlen : gs.length + q.length = k := by have := congrArg List.length hgq; simp at this; omega
        by_cases hlt : k < l.length
        · obtain ⟨b', off, hA, hb2, hcell⟩ := (HS.out.below htr.low) k hlt
          have hsz := str_size l[k]
          have e1 : l.take k ++ [l[k]] = l.take (k + 1) := List.take_append_getElem hlt
          have E1 := Lib.hid e1
          have HG := Lib.hid hgq
          have Htr := Lib.hid htr
          have Hsr := Lib.hid hsr
          have HL := Lib.hid hlen
          have hk0 : (0 : Int) ≤ (k : Int) := by omega
          have hkn : (k : Int) < (l.length : Int) := by omega
          clear e1 hgq hsr
          by_cases ht : l[k].length ≤ 100
          · have qs := tr_send a b l[k] B1.out B2.out htr
            rw [ord_send Hia.out Hib.out Hiab.out q l[k] (by omega) ht] at qs
            have Q := Lib.hid qs
            have d1 : ¬ 100 < (str l[k]).size := by omega
            have d2 : ¬ (100 : Int) < ((str l[k]).size : Int) := by omega
            clear hsz qs htr ht hlen
            generalize l[k] = x at *
            subst hA
            by_cases hwn : k < bs.length
            · obtain ⟨b3, off3, hA2, hb3, hcell3⟩ := (HB.out.below Htr.out.low) k hwn
              have d3 : (k : Int) < (bs.length : Int) := by omega
              cases hbk : bs[k]
              · have HBK := Lib.hid hbk
                clear hbk hcell3
                subst hA2
                go_wp2_with fail
                refine Q.out.mono ?_
                rintro e W2 ⟨rfl, M2, ht2, hm2⟩
                obtain ⟨b3', off3', e3, hlt3, hcell3'⟩ := (HB.out.below ht2.low) k hwn
                simp only [Option.some.injEq, Addr.mk.injEq] at e3
                obtain ⟨rfl, rfl, _⟩ := e3
                rw [HBK.out] at hcell3'
                have HT2 := Lib.hid ht2
                have HR2 := Lib.hid (Hsr.out.moved hm2)
                clear ht2 hm2 Q
                go_wp2_with fail
                exact ⟨⟨k + 1, M2, gs, q ++ [x], by omega, by go_num, by rw [← List.append_assoc, HG.out, E1.out], ⟨A3, c3, rfl⟩, HT2.out, HR2.out⟩, by simp [intOf]; omega⟩
              · have HBK := Lib.hid hbk
                clear hbk hcell3
                subst hA2
                go_wp2_with fail
                refine Q.out.mono ?_
                rintro e W2 ⟨rfl, M2, ht2, hm2⟩
                obtain ⟨b3', off3', e3, hlt3, hcell3'⟩ := (HB.out.below ht2.low) k hwn
                simp only [Option.some.injEq, Addr.mk.injEq] at e3
                obtain ⟨rfl, rfl, _⟩ := e3
                rw [HBK.out] at hcell3'
                obtain ⟨t, q', eq⟩ : ∃ t q', q ++ [x] = t :: q' := by cases q <;> exact ⟨_, _, rfl⟩
                rw [eq] at ht2
                have qd := tr_deliver a b 0 false false B1.out B2.out ht2
                rw [ord_deliver Hia.out Hib.out Hiab.out] at qd
                have Q3 := Lib.hid qd
                have HR2 := Lib.hid (Hsr.out.moved hm2)
                have EQ := Lib.hid eq
                clear ht2 hm2 Q qd eq
                go_wp2_with fail
                refine Q3.out.mono ?_
                rintro e W3 ⟨rfl, M3, ht3, hm3⟩
                have HT3 := Lib.hid ht3
                have HR3 := Lib.hid (HR2.out.moved hm3)
                have hz3 : w.heap.size ≤ W3.heap.size := ht3.low.size
                have HZ := Lib.hid hz3
                clear ht3 hm3 Q3 hz3
                go_wp2_with (at_builtin; refine wpList_app (A := some ⟨W3.heap.size, 0, none⟩) (c := 1) (m := 1) (l := [t]) (by rfl) _ _ (by rfl) (by rfl) (by rfl) (HR3.out.own.alloc _) rfl (StrsAt.own (row_one W3 t) rfl) (by simp) (by have := HL.out; omega) (by simp; have := HZ.out; omega) ?_; intro A5 c5 W5 ho5 hg5 hat5)
                have hown3 := HR3.out.own
                have ht5 := (HT3.out.below (W' := W3.alloc (.cells #[.string (str t)] 9)) ((Below.refl _ _).alloc (Nat.le_refl _) _)).grown hg5 (fun j hj => ⟨(hown3.lt j hj).1, HR3.out.no j hj⟩)
                refine ⟨⟨k + 1, M3, gs ++ [t], q', by omega, by go_num, ?_, ⟨A5, c5, by simp⟩, ht5, ⟨by simpa using ho5, fun j hj => ?_⟩⟩, by simp [intOf]; omega⟩
                · rw [List.append_assoc, List.singleton_append, ← EQ.out, ← List.append_assoc, HG.out, E1.out]
                · rcases hat5 with e | e
                  · exact HR3.out.no j (by rw [← e]; exact hj)
                  · rw [e] at hj
                    simp only [Option.some.injEq, World.size_alloc] at hj
                    intro m
                    have := (HT3.out.lt j m).2
                    omega
            · have d3 : ¬ (k : Int) < (bs.length : Int) := by omega
              have d4 : decide ((k : Int) < (bs.length : Int)) = false := by simp; omega
              have d5 : decide (k < bs.length) = false := by simp; omega
              go_wp2_with fail
              refine Q.out.mono ?_
              rintro e W2 ⟨rfl, M2, ht2, hm2⟩
              have HT2 := Lib.hid ht2
              have HR2 := Lib.hid (Hsr.out.moved hm2)
              clear ht2 hm2 Q
              go_wp2_with fail
              exact ⟨⟨k + 1, M2, gs, q ++ [x], by omega, by go_num, by rw [← List.append_assoc, HG.out, E1.out], ⟨A3, c3, rfl⟩, HT2.out, HR2.out⟩, by simp [intOf]; omega⟩
          · have d1 : 100 < (str l[k]).size := by omega
            have d2 : (100 : Int) < ((str l[k]).size : Int) := by omega
            clear hsz htr ht hlen
            generalize l[k] = x at *
            subst hA
            go_wp2_with fail
            go_ret
            exact ⟨rfl, Htr.out.low⟩
        · obtain rfl : k = l.length := by omega
          rw [List.take_length] at hgq
          have qw := tr_waiting a b B1.out B2.out htr
          rw [ord_wait Hia.out Hib.out Hiab.out] at qw
          have Q2 := Lib.hid qw
          have Htr := Lib.hid htr
          have Hsr := Lib.hid hsr
          have HG := Lib.hid hgq
          clear qw htr hsr hgq
          go_wp2_with fail
          refine Q2.out.mono ?_
          rintro e W2 ⟨A4, c4, rfl, ho, hb2⟩
          have Ho := Lib.hid ho
          have HB2 := Lib.hid hb2
          have hsr2 := Hsr.out.below hb2
          have hst2 := StrsAt.own ho rfl
          have hA4 : A4 = none → c4 = 0 := fun e => by
            rcases ho.2 with ⟨e2, _⟩ | ⟨g', cap, cur, e2, _⟩
            · injection e2
            · rw [e] at e2; injection e2 with e3; cases e3
          have hlq : gs.length + q.length = l.length := by have := congrArg List.length HG.out; simpa using this
          have hz2 : w.heap.size ≤ W2.heap.size := Nat.le_trans Htr.out.low.size hb2.size
          have hlow2 := Htr.out.low.trans (hb2.mono Htr.out.low.size)
          have HLQ := Lib.hid hlq
          have HL2 := Lib.hid hlow2
          have HSR := Lib.hid hsr2
          have HST := Lib.hid hst2
          have HA4 := Lib.hid hA4
          have HZ := Lib.hid hz2
          clear ho hb2 Q2 hsr2 hst2 hlq hlow2 hA4 hz2
          go_wp2_with (at_builtin; refine wpList_app (by rfl) _ _ (by rfl) (by rfl) (by rfl) HSR.out.own rfl HST.out HA4.out (by have := HLQ.out; omega) HZ.out ?_; intro A5 c5 W5 ho5 hg5 hat5; have HO5 := Lib.hid ho5; have HL5 := Lib.hid (HL2.out.grown hg5 HZ.out (fun j hj => (HSR.out.own.lt j hj).1)); clear ho5 hg5 hat5)
          have hx := same_any A5 A c5 c (gs ++ q) l W5 (StrsAt.own (n := gs.length + q.length) HO5.out (by simp)) (HS.out.below HL5.out) (by have := HLQ.out; simp; omega) (by omega)
          rw [List.length_append, HG.out, beq_self_eq_true, HLQ.out] at hx
          have HX := Lib.hid hx
          clear hx
          go_wp2_with fail
          refine HX.out.mono ?_
          rintro e W6 ⟨rfl, hb6⟩
          have HL6 := Lib.hid (HL5.out.trans (hb6.mono HL5.out.size))
          clear hb6 HX
          go_wp2_with fail
          go_ret
          exact ⟨rfl, HL6.out⟩
  · have c1 : 90 < l.length := by omega
    have c2 : (90 : Int) < (l.length : Int) := by omega
    go_enter Try.func3, Try.ntmps3
    go_wp2_with fail
    (with_reducible refine HH.out.mono ?_); rintro e w1 ⟨rfl, hb1⟩
    go_wp2_with fail
    go_ret
    exact ⟨rfl, hb1⟩

end N
end Go.Proofs.Ytklcpopnggiepaa
