/- The reference network: Waiting, Send. -/
import Derived.Test.YtklcpopnggiepaaRy
import Derived.Test.YtklcpopnggiepaaNp
set_option linter.unusedSimpArgs false
set_option linter.unusedVariables false
set_option maxRecDepth 100000
namespace Go.Proofs.Ytklcpopnggiepaa
open Go.RowKit
namespace N

def waitR (R : Rf) (a b : Int) : List Tx := if okP R.n a b = true then txs R.ms a b else []
theorem txs_le (ms : List Mg) (a b : Int) : (txs ms a b).length ≤ ms.length := by rw [txs_len]; exact List.countP_le_length
theorem waitR_le (R : Rf) (a b : Int) : (waitR R a b).length ≤ R.ms.length := by
  unfold waitR
  split
  · exact txs_le _ _ _
  · simp
set_option maxHeartbeats 4000000 in
theorem rwait_any (a b : Int) (w : World) {B g : Nat} {M : Nat → Prop} {R : Rf} (h : RefAt w B M g R) (hn : R.ms.length ≤ 100000) :
    Calls Try.prog 20 #[.pointer (some ⟨g, 0, none⟩), .int .i64 a, .int .i64 b] w fun e w' =>
      ∃ A c, e = .returned (.slice A (waitR R a b).length c) ∧ w'.ownsRow w.heap.size 9 1 (.slice A (waitR R a b).length c) (waitR R a b).length (sv (waitR R a b)) ∧ Below w.heap.size w w' := by
  obtain ⟨lv, gv, h⟩ := h
  obtain ⟨A, c, rfl, hc⟩ := h.lform
  have H := Lib.hid h
  clear h
  cases hok : okP R.n a b
  · have hw : waitR R a b = [] := by unfold waitR; rw [hok]; rfl
    rw [hw]
    have HOK := Lib.hid hok
    clear hok hw
    go_enter Try.func20, Try.ntmps20
    go_wp2_with fail
    go_loopw [7, 8] (fun v i wr => v = .slice none 0 0 ∧ i = .int .i64 0 ∧ wr = w) (fun _ i _ => 0)
    case atStart => exact ⟨rfl, rfl, rfl⟩
    case round =>
      obtain ⟨rfl, rfl, rfl⟩ := hrel
      obtain ⟨ck, fk, zk⟩ := H.out.blk.facts
      have qp := pair_any a b R.n g wr (ck 0)
      rw [HOK.out] at qp
      have QP := Lib.hid qp
      clear qp
      by_cases h0 : (0 : Int) < (R.ms.length : Int)
      · go_wp2_with fail
        (with_reducible refine QP.out.mono ?_); rintro e w1 ⟨rfl, rfl⟩
        go_wp2_with fail
        go_ret
        exact ⟨none, 0, rfl, nil_row _ _, Below.refl _ _⟩
      · go_wp2_with fail
        go_ret
        exact ⟨none, 0, rfl, nil_row _ _, Below.refl _ _⟩
  · have hw : waitR R a b = txs R.ms a b := by unfold waitR; rw [hok]; rfl
    rw [hw]
    have HOK := Lib.hid hok
    clear hok hw
    go_enter Try.func20, Try.ntmps20
    go_wp2_with fail
    go_loopw [7, 8] (fun v i wr => ∃ (k : Nat) (gs : List Tx), k ≤ R.ms.length ∧ i = .int .i64 k ∧ gs = txs (R.ms.take k) a b ∧ gs.length ≤ k ∧ (∃ A c, v = .slice A gs.length c) ∧ wr.ownsRow w.heap.size 9 1 v gs.length (sv gs) ∧ Below w.heap.size w wr) (fun _ i _ => R.ms.length - (intOf i).toNat)
    case atStart => exact ⟨0, [], Nat.zero_le _, rfl, rfl, Nat.le_refl _, ⟨none, 0, rfl⟩, nil_row _ _, Below.refl _ _⟩
    case round =>
      obtain ⟨k, gs, hk, rfl, hgs, hgl, ⟨A3, c3, rfl⟩, hrow, hW⟩ := hrel
      have hR := H.out.below hW
      obtain ⟨ck, fk, zk⟩ := hR.blk.facts
      have HW := Lib.hid hW
      have HRow := Lib.hid hrow
      have HGS := Lib.hid hgs
      have hz : w.heap.size ≤ wr.heap.size := hW.size
      clear hW hrow hgs
      by_cases hlt : k < R.ms.length
      · obtain ⟨gq, hA, hlt1, c0, c1, c2⟩ := hR.msg hlt
        have hki : (k : Int) < (R.ms.length : Int) := by omega
        have hk0 : (0 : Int) ≤ (k : Int) := by omega
        have e1 : R.ms.take k ++ [R.ms[k]] = R.ms.take (k + 1) := List.take_append_getElem hlt
        have e2 := txs_snoc (R.ms.take k) a b R.ms[k]
        rw [e1] at e2
        have hM : isM a b R.ms[k] = (R.ms[k].1 == a && R.ms[k].2.1 == b) := rfl
        generalize R.ms[k] = m at c0 c1 c2 e2 hM
        obtain ⟨m1, m2, mt⟩ := m
        simp only at c0 c1 c2 e2 hM
        have qp := pair_any a b R.n g wr (ck 0)
        rw [HOK.out] at qp
        have QP := Lib.hid qp
        have E2 := Lib.hid e2
        have HM := Lib.hid hM
        clear qp e1 e2 hM hR
        subst hA
        cases q1 : (m1 == a)
        · have hM := HM.out
          rw [q1] at hM
          have E3 := E2.out
          rw [hM] at E3
          have E4 := Lib.hid E3
          clear E3 hM
          go_wp2_with fail
          (with_reducible refine QP.out.mono ?_); rintro e w1 ⟨rfl, rfl⟩
          go_wp2_with fail
          exact ⟨⟨k + 1, gs, by omega, by go_num, by rw [E4.out, HGS.out]; simp, by omega, ⟨A3, c3, rfl⟩, HRow.out, HW.out⟩, by simp [intOf]; omega⟩
        · cases q2 : (m2 == b)
          · have hM := HM.out
            rw [q1, q2] at hM
            have E3 := E2.out
            rw [hM] at E3
            have E4 := Lib.hid E3
            clear E3 hM
            go_wp2_with fail
            (with_reducible refine QP.out.mono ?_); rintro e w1 ⟨rfl, rfl⟩
            go_wp2_with fail
            exact ⟨⟨k + 1, gs, by omega, by go_num, by rw [E4.out, HGS.out]; simp, by omega, ⟨A3, c3, rfl⟩, HRow.out, HW.out⟩, by simp [intOf]; omega⟩
          · have hM := HM.out
            rw [q1, q2] at hM
            have E3 := E2.out
            rw [hM] at E3
            have E4 := Lib.hid E3
            clear E3 hM
            go_wp2_with fail
            (with_reducible refine QP.out.mono ?_); rintro e w1 ⟨rfl, rfl⟩
            go_wp2_with (at_builtin; refine wpList_app (A := some ⟨wr.heap.size, 0, none⟩) (c := 1) (m := 1) (l := [mt]) (by rfl) _ _ (by rfl) (by rfl) (by rfl) (own_below HRow.out ((Below.refl _ _).alloc (Nat.le_refl _) _)) rfl (StrsAt.own (row_one wr mt) rfl) (by simp) (by omega) (by simp; omega) ?_; intro A5 c5 W5 ho5 hg5 hat5)
            refine ⟨⟨k + 1, gs ++ [mt], by omega, by go_num, by rw [E4.out, HGS.out]; simp, by simp; omega, ⟨A5, c5, by simp⟩, by simpa using ho5, (HW.out.alloc hz _).grown hg5 (by simp; omega) (fun q hq => (HRow.out.lt q hq).1)⟩, by simp [intOf]; omega⟩
      · obtain rfl : k = R.ms.length := by omega
        have e : gs = txs R.ms a b := by rw [HGS.out, List.take_of_length_le (Nat.le_refl _)]
        have E := Lib.hid e
        have qp := pair_any a b R.n g wr (ck 0)
        rw [HOK.out] at qp
        have QP := Lib.hid qp
        clear hR e qp
        go_wp2_with fail
        go_ret
        rw [← E.out]
        exact ⟨A3, c3, rfl, HRow.out, HW.out⟩

end N
end Go.Proofs.Ytklcpopnggiepaa
