/- Net's law: a network that the call made; texts compared. -/
import Derived.Test.YtklcpopnggiepaaNj
set_option linter.unusedSimpArgs false
set_option linter.unusedVariables false
set_option maxRecDepth 100000
namespace Go.Proofs.Ytklcpopnggiepaa
open Go.RowKit
namespace N

def Few (d : Nt) : Prop := ∀ a b, (d.q a b).length ≤ 100
theorem few_new (n : Int) : Few (newN n) := fun _ _ => Nat.zero_le _
theorem Few.send {d : Nt} (h : Few d) (a b : Int) (t : Tx) : Few (send d a b t).2 := by
  unfold N.send
  split
  · exact h
  · split
    · exact h
    · split
      · exact h
      · split
        · exact h
        · intro x y
          simp only [at2]; split
          · simp; omega
          · exact h x y
theorem Few.deliver {d : Nt} (h : Few d) (a b i : Int) (lost again : Bool) : Few (deliver d a b i lost again).2 := by
  show Few (delD d a b i lost again)
  unfold N.delD
  split
  · exact h
  · split
    · intro x y
      simp only [at2, cutD]; split
      · exact Nat.le_trans (cutAt_len _ _) (h a b)
      · exact h x y
    · exact h
theorem Few.turn {d : Nt} (h : Few d) (a b : Int) (cut : Bool) : Few (turn d a b cut).2 := by
  unfold N.turn
  split
  · exact h
  · split
    · exact h
    · cases cut
      · exact h
      · intro x y
        simp only [both, at2, if_true]; split
        · simp
        · split
          · simp
          · exact h x y
theorem Few.waiting {d : Nt} (h : Few d) (a b : Int) : (waiting d a b).length ≤ 100 := by
  unfold N.waiting; split
  · exact h a b
  · simp

/-- A network that the call made; below the heap's size at its beginning nothing has turned. -/
structure Tr (w0 : World) (g : Nat) (d : Nt) (M : Nat → Prop) (W : World) : Prop where
  few : Few d
  at_ : NetAt W w0.heap.size M g d
  low : Below w0.heap.size w0 W
theorem Tr.below {w0 W W' : World} {g : Nat} {d : Nt} {M : Nat → Prop} (h : Tr w0 g d M W) (hb : Below W.heap.size W W') : Tr w0 g d M W' := ⟨h.few, h.at_.below hb, h.low.trans (hb.mono h.low.size)⟩
theorem Tr.lt {w0 W : World} {g : Nat} {d : Nt} {M : Nat → Prop} (h : Tr w0 g d M W) : ∀ k, M k → w0.heap.size ≤ k ∧ k < W.heap.size := by
  obtain ⟨_, _, _, _, hd⟩ := h.at_
  exact hd.bb
theorem Tr.post {w0 W W' : World} {g : Nat} {d d' : Nt} {M : Nat → Prop} (h : Tr w0 g d M W) (hf : Few d') (hp : Post W w0.heap.size M g d' W') : ∃ M', Tr w0 g d' M' W' ∧ Moved M M' W W' := by
  obtain ⟨M', hd', hm⟩ := hp
  exact ⟨M', ⟨hf, hd', h.low.trans (hm.toBelow (fun k hk => (h.lt k hk).1) h.low.size)⟩, hm⟩
/-- A row beside the network is written. -/
theorem Tr.grown {w0 W W' : World} {g : Nat} {d : Nt} {M : Nat → Prop} {row : Option Nat} (h : Tr w0 g d M W) (hg : W.grownBy W' row) (hr : ∀ k, row = some k → w0.heap.size ≤ k ∧ ¬ M k) : Tr w0 g d M W' := by
  obtain ⟨bq, bc, fq, fc, hd⟩ := h.at_
  exact ⟨h.few, ⟨bq, bc, fq, fc, hd.same hg.size fun k m => hg.block k (hd.bb k m).2 fun e => (hr k e.symm).2 m⟩, h.low.grown hg h.low.size (fun k e => (hr k e).1)⟩
/-- Another network, while this one moves. -/
theorem Tr.beside {w0 W W' : World} {g g2 : Nat} {d d2 : Nt} {M M' M2 : Nat → Prop} (h : Tr w0 g d M W) (h2 : Tr w0 g2 d2 M2 W) (hx : ∀ k, M k → ¬ M2 k) (hm : Moved M M' W W') (hl : Below w0.heap.size w0 W') : Tr w0 g2 d2 M2 W' ∧ ∀ k, M' k → ¬ M2 k := by
  refine ⟨⟨h2.few, ?_, hl⟩, fun k m m2 => ?_⟩
  · obtain ⟨bq, bc, fq, fc, hd⟩ := h2.at_
    exact ⟨bq, bc, fq, fc, hd.same hm.keep.size fun k m2 => hm.keep.block k (hd.bb k m2).2 fun m => hx k m m2⟩
  · rcases hm.sub k m with m1 | m1
    · exact hx k m1 m2
    · have := (h2.lt k m2).2; omega

/-- A block that is not the network's. -/
structure Safe (M : Nat → Prop) (k : Nat) (C : Array Value) (T : TypeId) (W : World) : Prop where
  blk : Reg.Blk k C T W
  no : ¬ M k
theorem Safe.moved {M M' : Nat → Prop} {k : Nat} {C : Array Value} {T : TypeId} {W W' : World} (h : Safe M k C T W) (hm : Moved M M' W W') : Safe M' k C T W' :=
  ⟨hm.blk h.blk h.no, fun m => by rcases hm.sub k m with m | m; exact h.no m; have := h.blk.lt; omega⟩
theorem Safe.below {M : Nat → Prop} {k : Nat} {C : Array Value} {T : TypeId} {W W' : World} (h : Safe M k C T W) (hb : Below W.heap.size W W') : Safe M k C T W' := ⟨h.blk.keep hb, h.no⟩
/-- A row that is not the network's. -/
structure SafeRow (M : Nat → Prop) (B : Nat) (e : TypeId) (sz : Nat) (v : Value) (n : Nat) (xs : List Value) (W : World) : Prop where
  own : W.ownsRow B e sz v n xs
  no : ∀ k, v.ownBlock = some k → ¬ M k
theorem SafeRow.moved {M M' : Nat → Prop} {B : Nat} {e : TypeId} {sz : Nat} {v : Value} {n : Nat} {xs : List Value} {W W' : World} (h : SafeRow M B e sz v n xs W) (hm : Moved M M' W W') : SafeRow M' B e sz v n xs W' := by
  refine ⟨⟨h.own.1, ?_⟩, fun k hk m => by rcases hm.sub k m with m | m; exact h.no k hk m; have := (h.own.lt k hk).2; omega⟩
  rcases h.own.2 with hn | ⟨g', cap, cur, e1, hB, hg, rest⟩
  · exact .inl hn
  · exact .inr ⟨g', cap, cur, e1, hB, (hm.keep.block g' (Array.getElem?_eq_some_iff.1 hg).1 (h.no g' (by rw [e1]; rfl))).trans hg, rest⟩
theorem SafeRow.below {M : Nat → Prop} {B : Nat} {e : TypeId} {sz : Nat} {v : Value} {n : Nat} {xs : List Value} {W W' : World} (h : SafeRow M B e sz v n xs W) (hb : Below W.heap.size W W') : SafeRow M B e sz v n xs W' := ⟨own_below h.own hb, h.no⟩
/-- A row that was made after the network's blocks. -/
theorem SafeRow.new {M : Nat → Prop} {B : Nat} {e : TypeId} {sz : Nat} {v : Value} {n : Nat} {xs : List Value} {W : World} (h : W.ownsRow B e sz v n xs) (hM : ∀ k, M k → k < B) : SafeRow M B e sz v n xs W :=
  ⟨h, fun k hk m => by have := (h.lt k hk).1; have := hM k m; omega⟩
theorem SafeRow.strs {M : Nat → Prop} {B n c : Nat} {A : Option Addr} {l : List Tx} {W : World} (h : SafeRow M B 9 1 (.slice A n c) n (sv l) W) (hn : l.length = n) : StrsAt W A l := StrsAt.own h.own hn
section
variable {w0 W : World} {g : Nat} {d : Nt} {M : Nat → Prop}
theorem tr_new (n : Int) (h1 : 1 ≤ n) (h8 : n ≤ 8) (hb : Below w0.heap.size w0 W) : Calls Try.prog 11 #[.int .i64 n] W fun e W' =>
    ∃ g M, e = .returned (.tuple #[.pointer (some ⟨g, 0, none⟩), .int .i64 0]) ∧ Tr w0 g (newN n) M W' ∧ (∀ k, M k → W.heap.size ≤ k) ∧ Below W.heap.size W W' := by
  refine (new_yes n h1 h8 W w0.heap.size hb.size).mono ?_
  rintro e W' ⟨g, M, rfl, hd, hM, hb2⟩
  exact ⟨g, M, rfl, ⟨few_new n, hd, hb.trans (hb2.mono hb.size)⟩, hM, hb2⟩
theorem tr_send (a b : Int) (t : Tx) (ha : B64 a) (hb : B64 b) (h : Tr w0 g d M W) :
    Calls Try.prog 12 #[.pointer (some ⟨g, 0, none⟩), .int .i64 a, .int .i64 b, .string (str t)] W fun e W' => e = .returned (.int .i64 (send d a b t).1) ∧ ∃ M', Tr w0 g (send d a b t).2 M' W' ∧ Moved M M' W W' :=
  (send_any a b t W h.low.size ha hb h.at_).mono fun e W' ⟨he, hp⟩ => ⟨he, h.post (h.few.send _ _ _) hp⟩
theorem tr_deliver (a b k : Int) (lost again : Bool) (ha : B64 a) (hb : B64 b) (h : Tr w0 g d M W) :
    Calls Try.prog 13 #[.pointer (some ⟨g, 0, none⟩), .int .i64 a, .int .i64 b, .int .i64 k, .bool lost, .bool again] W fun e W' =>
      e = .returned (.tuple #[.string (str (deliver d a b k lost again).1.1), .bool (deliver d a b k lost again).1.2]) ∧ ∃ M', Tr w0 g (deliver d a b k lost again).2 M' W' ∧ Moved M M' W W' :=
  (deliver_any a b k lost again W h.low.size ha hb h.at_ (Nat.le_trans (h.few a b) (by omega))).mono fun e W' ⟨he, hp⟩ => ⟨he, h.post (h.few.deliver _ _ _ _ _) hp⟩
theorem tr_waiting (a b : Int) (ha : B64 a) (hb : B64 b) (h : Tr w0 g d M W) :
    Calls Try.prog 15 #[.pointer (some ⟨g, 0, none⟩), .int .i64 a, .int .i64 b] W fun e W' =>
      ∃ A c, e = .returned (.slice A (waiting d a b).length c) ∧ W'.ownsRow W.heap.size 9 1 (.slice A (waiting d a b).length c) (waiting d a b).length (sv (waiting d a b)) ∧ Below W.heap.size W W' := by
  refine (waiting_any a b ha hb W h.at_ (Nat.le_trans (h.few a b) (by omega))).mono ?_
  rintro e W' ⟨v, rfl, ho, hb⟩
  have ho' := ho
  rcases ho'.2 with ⟨rfl, h0⟩ | ⟨g', cap, cur, rfl, _⟩
  · exact ⟨none, 0, by rw [h0], by rw [h0] at ho ⊢; exact ho, hb⟩
  · exact ⟨_, cap, rfl, ho, hb⟩
theorem tr_cut (a b : Int) (ha : B64 a) (hb : B64 b) (h : Tr w0 g d M W) :
    Calls Try.prog 21 #[.pointer (some ⟨g, 0, none⟩), .int .i64 a, .int .i64 b] W fun e W' => e = .returned (.int .i64 (turn d a b true).1) ∧ ∃ M', Tr w0 g (turn d a b true).2 M' W' ∧ Moved M M' W W' :=
  (cut_any a b W ha hb h.low.size h.at_).mono fun e W' ⟨he, hp⟩ => ⟨he, h.post (h.few.turn _ _ _) hp⟩
theorem tr_heal (a b : Int) (ha : B64 a) (hb : B64 b) (h : Tr w0 g d M W) :
    Calls Try.prog 22 #[.pointer (some ⟨g, 0, none⟩), .int .i64 a, .int .i64 b] W fun e W' => e = .returned (.int .i64 (turn d a b false).1) ∧ ∃ M', Tr w0 g (turn d a b false).2 M' W' ∧ Moved M M' W W' :=
  (heal_any a b W ha hb h.low.size h.at_).mono fun e W' ⟨he, hp⟩ => ⟨he, h.post (h.few.turn _ _ _) hp⟩
end

/-! ### 'Texts' -/
theorem same_any (A A' : Option Addr) (c c' : Nat) (l m : List Tx) (w : World) (h : StrsAt w A l) (k : StrsAt w A' m) (hl : l.length ≤ 9223372036854775807) (hm : m.length ≤ 9223372036854775807) :
    Calls Try.prog 14 #[.slice A l.length c, .slice A' m.length c'] w fun e w' => e = .returned (.bool (l == m)) ∧ Below w.heap.size w w' := by
  by_cases hlm : l.length = m.length
  · have Hlm := Lib.hid hlm
    have hlm2 : ((l.length : Int) != (m.length : Int)) = false := by rw [hlm]; simp
    have H := Lib.hid h
    have K := Lib.hid k
    clear h k
    rw [hlm] at hlm2 ⊢
    clear hlm
    go_enter Try.func14, Try.ntmps14
    go_wp2_with fail
    go_loopw [5] (fun i wr => ∃ k : Nat, k ≤ m.length ∧ i = .int .i64 k ∧ (∀ j (hj : j < l.length) (hj' : j < m.length), j < k → l[j] = m[j]) ∧ Below w.heap.size w wr) (fun i _ => m.length - (intOf i).toNat)
    case atStart => exact ⟨0, Nat.zero_le _, rfl, fun j _ _ hj => absurd hj (by omega), Below.refl _ _⟩
    case round =>
      obtain ⟨k, hk, rfl, hall, hW⟩ := hrel
      have Hall := Lib.hid hall
      have HW := Lib.hid hW
      clear hall
      by_cases hlt : k < m.length
      · obtain ⟨b, off, hA, hlt1, c1⟩ := (H.out.below hW) k (by have := Hlm.out; omega)
        obtain ⟨b', off', hA', hlt2, c2⟩ := (K.out.below hW) k hlt
        subst hA hA'
        clear hW
        have hki : (k : Int) < (m.length : Int) := by omega
        have hk0 : (0 : Int) ≤ (k : Int) := by omega
        by_cases hx : l[k]'(by have := Hlm.out; omega) = m[k]
        · rw [hx] at c1
          have Hx := Lib.hid hx
          clear hx
          go_wp2_with fail
          refine Reg.wp_region_seq (by kernel_rfl) (by kernel_rfl) ?_
          simp only
          iterate 9
            apply Reg.SeqOK.val
            · intro γ W hW K hK
              obtain ⟨hc, hf, _⟩ := bcell hW
              simp only [Act.put, List.setIfInBounds_toArray, List.set_cons_zero, List.set_cons_succ] at hK
              unfold Reg.Does
              go_simp
              try simp only [IntWalk.i64_left]
              first
                | exact hK _ (Below.refl _ _)
            simp only [Act.put, List.setIfInBounds_toArray, List.set_cons_zero, List.set_cons_succ, List.nil_append, List.cons_append, Nat.reduceAdd, Nat.zero_add]
          refine Reg.SeqOK.nil (by kernel_rfl) (fun γ W hW2 _ _ _ => ?_)
          have HW2 := Lib.hid hW2
          clear hW2
          go_wp2_with fail
          refine ⟨⟨k + 1, by omega, by go_num, fun j hj hj' hjk => ?_, HW.out.trans (HW2.out.mono HW.out.size)⟩, by simp [intOf]; omega⟩
          rcases Nat.lt_or_ge j k with h1 | h1
          · exact Hall.out j hj hj' h1
          · obtain rfl : j = k := by omega
            exact Hx.out
        · have Hx := Lib.hid hx
          generalize hlk : l[k]'(by have := Hlm.out; omega) = x at c1 hx
          generalize hmk : m[k] = y at c2 hx
          have e1 : ((str x).toList == (str y).toList) = false := by rw [str_toList, str_toList]; simpa using hx
          clear hlk hmk hx
          go_wp2_with fail
          refine Reg.wp_region_seq (by kernel_rfl) (by kernel_rfl) ?_
          simp only
          iterate 9
            apply Reg.SeqOK.val
            · intro γ W hW K hK
              obtain ⟨hc, hf, _⟩ := bcell hW
              simp only [Act.put, List.setIfInBounds_toArray, List.set_cons_zero, List.set_cons_succ] at hK
              unfold Reg.Does
              go_simp
              try simp only [IntWalk.i64_left]
              first
                | exact hK _ (Below.refl _ _)
            simp only [Act.put, List.setIfInBounds_toArray, List.set_cons_zero, List.set_cons_succ, List.nil_append, List.cons_append, Nat.reduceAdd, Nat.zero_add]
          refine Reg.SeqOK.nil (by kernel_rfl) (fun γ W hW2 _ _ _ => ?_)
          have HW2 := Lib.hid hW2
          clear hW2
          go_wp2
          go_ret
          refine ⟨ret_bool ?_, HW.out.trans (HW2.out.mono HW.out.size)⟩
          symm
          rw [beq_eq_false_iff_ne]
          rintro rfl
          exact Hx.out rfl
      · obtain rfl : k = m.length := by omega
        clear hW
        go_wp2
        go_ret
        refine ⟨ret_bool ?_, HW.out⟩
        symm
        rw [beq_iff_eq]
        exact List.ext_getElem Hlm.out fun j hj hj' => Hall.out j hj hj' hj'
  · have hlm2 : ((l.length : Int) != (m.length : Int)) = true := by simp; omega
    have Hlm := Lib.hid hlm
    clear h k hlm
    go_enter Try.func14, Try.ntmps14
    go_wp2
    go_ret
    refine ⟨ret_bool ?_, Below.refl _ _⟩
    symm
    rw [beq_eq_false_iff_ne]
    rintro rfl
    exact Hlm.out rfl

theorem same_rows {A A' : Option Addr} {n c c' B B' : Nat} {l m : List Tx} {w : World} (h : w.ownsRow B 9 1 (.slice A n c) n (sv l)) (k : w.ownsRow B' 9 1 (.slice A' n c') n (sv m)) (hl : l.length = n) (hm : m.length = n) (hn : n ≤ 9223372036854775807) :
    Calls Try.prog 14 #[.slice A n c, .slice A' n c'] w fun e w' => e = .returned (.bool (l == m)) ∧ Below w.heap.size w w' := by
  have q := same_any A A' c c' l m w (StrsAt.own h hl) (StrsAt.own k hm) (by omega) (by omega)
  rw [hl, hm] at q
  exact q

end N
end Go.Proofs.Ytklcpopnggiepaa
