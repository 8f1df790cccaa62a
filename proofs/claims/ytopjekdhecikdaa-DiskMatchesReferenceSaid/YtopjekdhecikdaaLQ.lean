/- Law 'DiskPrefix': the contract of 'prefix'. -/
import Derived.Test.YtopjekdhecikdaaDv
import Derived.Test.YtopjekdhecikdaaDz
set_option linter.unusedSimpArgs false
set_option linter.unusedVariables false
set_option maxRecDepth 100000
namespace Go.Proofs.Ytopjekdhecikdaa
open Go.RowKit
namespace D

theorem Safe.upd6 {M : Nat → Prop} {k : Nat} {T : TypeId} {W : World} {a b c d e f x y z t u v : Value} (h : Safe M k #[a, b, c, d, e, f] T W) :
    Safe M k #[x, y, z, t, u, v] T ((((((W.setCell ⟨k, 0, none⟩ x).setCell ⟨k, 1, none⟩ y).setCell ⟨k, 2, none⟩ z).setCell ⟨k, 3, none⟩ t).setCell ⟨k, 4, none⟩ u).setCell ⟨k, 5, none⟩ v) := ⟨(Reg.upd6 h.blk).at_, h.no⟩
theorem TrM.set6 {w0 W : World} {n m g : Nat} {d : Dk} {M : Nat → Prop} {k : Nat} (h : TrM w0 n m g d M W) (x y z t u v : Value) (hM : ¬ M k) (hl : w0.heap.size ≤ k) :
    TrM w0 n m g d M ((((((W.setCell ⟨k, 0, none⟩ x).setCell ⟨k, 1, none⟩ y).setCell ⟨k, 2, none⟩ z).setCell ⟨k, 3, none⟩ t).setCell ⟨k, 4, none⟩ u).setCell ⟨k, 5, none⟩ v) :=
  (((((h.set _ _ hM hl).set _ _ hM hl).set _ _ hM hl).set _ _ hM hl).set _ _ hM hl).set _ _ hM hl
theorem str_drop (t : Tx) (k : Nat) {n : Nat} (h : t.length = n) : (str t).extract k n = str (t.drop k) := by
  have e : (t.drop k) = ((str t).extract k n).data.toList := by
    simp [str, ByteArray.extract, ByteArray.copySlice]
    rw [List.take_of_length_le (by simp; omega)]
  rw [e, ← str_of]
theorem own_base {w : World} {B B' : Nat} {e : TypeId} {size n : Nat} {v : Value} {xs : List Value} (h : w.ownsRow B e size v n xs) (hb : B' ≤ B) : w.ownsRow B' e size v n xs := by
  refine ⟨h.1, ?_⟩
  rcases h.2 with hn | ⟨g', cap, cur, e1, hB, rest⟩
  · exact .inl hn
  · exact .inr ⟨g', cap, cur, e1, Nat.le_trans hb hB, rest⟩

set_option maxHeartbeats 40000000 in
set_option maxRecDepth 100000 in
theorem prefix_any (N : Nat) (hN1 : 1 ≤ N) (hN2 : N ≤ 12) (A : Option Addr) (c : Nat) (l : List AV) (A2 : Option Addr) (c2 : Nat) (l2 : List AV) (W : Nat) (w : World) (hl : ActsAt w A l) (hll : l.length ≤ 60) (hb : ∀ a ∈ l, a.aft ≤ 9223372036854775807) (ok1 : ∀ a ∈ l, a.text.length ≤ 100)
    (hl2 : ActsAt w A2 l2) (hll2 : l2.length ≤ 60) (ok2 : ∀ a ∈ l2, a.text.length ≤ 100) (hW : W ≤ 60) :
    Calls Try.prog 26 #[.int .i64 N, .slice A l.length c, .slice A2 l2.length c2, .int .i64 W] w fun e w' =>
      ∃ A' c', e = .returned (.tuple #[.slice A' N c', .bool true]) ∧ w'.ownsRow w.heap.size 9 1 (.slice A' N c') N (sv (secs N (settle (eff (start (runD (newD N) l))) ((ents N l2).take W)))) ∧ Below w.heap.size w w' := by
  have HLl := Lib.hid hl
  have HBdl := Lib.hid hb
  have OKl := Lib.hid ok1
  have HLl2 := Lib.hid hl2
  have OKl2 := Lib.hid ok2
  clear hl hb ok1 hl2 ok2
  obtain ⟨st0, hst0⟩ : ∃ s, eff (start (runD (newD N) l)) = s := ⟨_, rfl⟩
  rw [hst0]
  have HS0 := Lib.hid hst0
  clear hst0
  go_enter Try.func26, Try.ntmps26
  go_wp2_with fail
  (with_reducible refine (tr_new (w0 := w) N hN1 (by omega) (Below.refl _ _)).mono ?_); rintro e w3 ⟨g, rfl, ht⟩
  have HT := Lib.hid ht
  clear ht
  go_wp2_with fail
  go_loopw [11] (fun i wr => ∃ k : Nat, k ≤ l.length ∧ i = .int .i64 k ∧ Tr w N k g (runD (newD N) (l.take k)) wr) (fun i _ => l.length - (intOf i).toNat)
  case atStart => exact ⟨0, Nat.zero_le _, rfl, HT.out⟩
  case round =>
    clear HT
    obtain ⟨k, hk, rfl, ht⟩ := hrel
    by_cases hlt : k < l.length
    · obtain ⟨b, off, hA, hlt2, c0, c1, c2, c3, c4, c5⟩ := (HLl.out.below ht.low) k hlt
      subst hA
      have hkl : (k : Int) < (l.length : Int) := by omega
      have hd := tr_do l[k] ht (by omega) (by have := OKl.out l[k] (List.getElem_mem hlt); omega) (HBdl.out l[k] (List.getElem_mem hlt))
      unfold actV at hd
      have hD := Lib.hid hd
      clear hd
      have hrt := Lib.hid (runD_take (d := newD N) hlt)
      clear ht
      go_wp2_with fail
      (with_reducible refine hD.out.mono ?_); rintro e w4 ⟨rfl, ht4⟩
      have HT4 := Lib.hid ht4
      clear ht4
      go_wp2_with fail
      refine ⟨⟨k + 1, by omega, by go_num, by rw [hrt.out]; exact HT4.out⟩, by simp [intOf]; omega⟩
    · obtain rfl : k = l.length := by omega
      rw [List.take_length] at ht
      have hS := Lib.hid (tr_start ht)
      clear ht
      generalize hd0 : runD (newD N) l = d0 at *
      clear hd0
      go_wp2_with fail
      (with_reducible refine hS.out.mono ?_); rintro e w4 ⟨rfl, ht4⟩
      have Ho := Lib.hid (show (start d0).off = false from rfl)
      have Ha := Lib.hid (show (start d0).arm = none from rfl)
      clear hS hk hlt HBdl OKl HLl
      generalize start d0 = d1 at *
      have f1 := tr_sync ht4 (by omega)
      rw [sync_clean Ho.out Ha.out] at f1
      have F1 := Lib.hid f1
      clear f1 ht4
      go_wp2_with fail
      (with_reducible refine F1.out.mono ?_); rintro e w5 ⟨rfl, ht5⟩
      have Ho2 := Lib.hid (show ({ d1 with st := eff d1, q := [] } : Dk).off = false from Ho.out)
      have Ha2 := Lib.hid (show ({ d1 with st := eff d1, q := [] } : Dk).arm = none from Ha.out)
      have Hst := Lib.hid (show eff d1 = ({ d1 with st := eff d1, q := [] } : Dk).st from rfl)
      have Hq2 := Lib.hid (show ({ d1 with st := eff d1, q := [] } : Dk) = wq { d1 with st := eff d1, q := [] } [] from rfl)
      generalize ({ d1 with st := eff d1, q := [] } : Dk) = d2 at *
      have HT5 := Lib.hid ht5
      clear ht5 F1
      go_wp2_with fail
      go_loopw [12, 13] (fun dn i wr => ∃ k : Nat, k ≤ l2.length ∧ i = .int .i64 k ∧ ∃ D : Nat, dn = .int .i64 D ∧ D = (ents N (l2.take k)).length ∧ D ≤ W ∧ Tr w N (l.length + k) g (wq d2 (ents N (l2.take k))) wr) (fun _ i _ => l2.length - (intOf i).toNat)
      case atStart => exact ⟨0, Nat.zero_le _, rfl, 0, rfl, rfl, Nat.zero_le _, by have := HT5.out; rw [Hq2.out] at this; exact this⟩
      case round =>
        clear HT5
        obtain ⟨k, hk, rfl, D, rfl, hDq, hDW, ht⟩ := hrel
        have HT0 := Lib.hid ht
        clear ht
        by_cases hlt : k < l2.length
        · have hkl : (k : Int) < (l2.length : Int) := by omega
          have hk0 : (0 : Int) ≤ (k : Int) := by omega
          by_cases hdw : D < W
          · have hdw2 : (D : Int) < (W : Int) := by omega
            obtain ⟨b, off, hA, hlt2, c0, c1, c2, c3, c4, c5⟩ := (HLl2.out.below HT0.out.low) k hlt
            subst hA
            have hxl : l2[k].text.length ≤ 1000000 := by have := OKl2.out l2[k] (List.getElem_mem hlt); omega
            have Cs := Lib.hid (write_ent HT0.out.good Ho2.out Ha2.out l2[k])
            have hent := Lib.hid (ents_take (N := N) hlt)
            have HDq := Lib.hid hDq
            clear hDq
            go_wp2_with fail
            refine Reg.wp_region_seq (by kernel_rfl) (by kernel_rfl) ?_
            simp only
            iterate 11
              apply Reg.SeqOK.val
              · intro γ W hW K hK
                obtain ⟨hc, hf, _⟩ := bcell hW
                simp only [Act.put, List.setIfInBounds_toArray, List.set_cons_zero, List.set_cons_succ] at hK
                unfold Reg.Does
                go_simp
                try simp only [IntWalk.i64_left]
                first
                  | exact hK _ (Below.refl _ _)
                  | (go_at_call 24; (with_reducible refine (text_any _ _ _ _ _ _ _ (by assumption)).mono ?_); rintro e w' ⟨rfl, hb⟩; exact hK _ hb)
              simp only [Act.put, List.setIfInBounds_toArray, List.set_cons_zero, List.set_cons_succ, List.nil_append, List.cons_append, Nat.reduceAdd, Nat.zero_add]
            refine Reg.SeqOK.tail (by kernel_rfl) (by kernel_rfl) (fun γ W' hW' _ _ _ => ?_)
            have hS := tr_write l2[k].sec (atext l2[k].text l2[k].odd) (HT0.out.below hW') (by omega)
            clear hW' c0 c1 c2 c3 c4 c5 hlt2 HT0
            have HS := Lib.hid hS
            clear hS
            refine Reg.tail_cons ?_
            unfold Reg.Does
            go_simp
            go_wp2_with fail
            (with_reducible refine HS.out.mono ?_); rintro e w8 ⟨rfl, ht8⟩
            have HT := Lib.hid ht8
            clear ht8 HS
            refine Reg.tail_cons ?_
            unfold Reg.Does
            go_simp
            refine Reg.tail_nil ?_
            rcases Cs.out with ⟨he, hen, hd2⟩ | ⟨he, hen, hd2⟩
            · rw [he]
              rw [hd2, wq_more] at HT
              rw [hen] at hent
              clear he hd2 Cs hen
              go_wp2_with fail
              refine ⟨⟨k + 1, by omega, by go_num, D + 1, by go_num, ?_, by omega, ?_⟩, by simp [intOf]; omega⟩
              · rw [hent.out, List.length_append, ← HDq.out]; rfl
              · rw [hent.out]; exact HT.out
            · rw [he]
              rw [hd2] at HT
              rw [hen] at hent
              clear he hd2 Cs hen
              go_wp2_with fail
              refine ⟨⟨k + 1, by omega, by go_num, D, rfl, ?_, by omega, ?_⟩, by simp [intOf]; omega⟩
              · rw [hent.out]; simpa using HDq.out
              · rw [hent.out]; simpa using HT.out.more (by omega)
          · obtain rfl : D = W := by omega
            have hcs := conts_wq N d2 (ents N (l2.take k))
            rw [← ents_first N l2 k, ← hDq] at hcs
            have f3 := tr_contents HT0.out (by omega) (show (wq d2 (ents N (l2.take k))).off = false from Ho2.out)
            rw [← ents_first N l2 k, ← hDq] at f3
            rw [hcs] at f3
            have hlow := Lib.hid HT0.out.low
            have F3 := Lib.hid f3
            clear hcs f3 HT0 hDq
            go_wp2_with fail
            (with_reducible refine F3.out.mono ?_); rintro e w8 ⟨A1, c1, rfl, ho1, hb8⟩
            have HO := Lib.hid ho1
            have HB := Lib.hid hb8
            clear ho1 hb8
            go_wp2
            go_ret2
            exact ⟨A1, c1, rfl, by rw [← HS0.out, Hst.out]; exact own_base HO.out hlow.out.size, hlow.out.trans (HB.out.mono hlow.out.size)⟩
        · obtain rfl : k = l2.length := by omega
          have hcs := conts_wq N d2 (ents N l2)
          rw [List.take_length] at HT0 hDq
          have htk : ents N l2 = (ents N l2).take W := (List.take_of_length_le (by omega)).symm
          have f3 := tr_contents HT0.out (by omega) (show (wq d2 (ents N l2)).off = false from Ho2.out)
          rw [hcs, htk] at f3
          have hlow := Lib.hid HT0.out.low
          have F3 := Lib.hid f3
          clear hcs f3 HT0 hDq htk
          go_wp2_with fail
          (with_reducible refine F3.out.mono ?_); rintro e w8 ⟨A1, c1, rfl, ho1, hb8⟩
          have HO := Lib.hid ho1
          have HB := Lib.hid hb8
          clear ho1 hb8
          go_wp2
          go_ret2
          exact ⟨A1, c1, rfl, by rw [← HS0.out, Hst.out]; exact own_base HO.out hlow.out.size, hlow.out.trans (HB.out.mono hlow.out.size)⟩

end D
end Go.Proofs.Ytopjekdhecikdaa
