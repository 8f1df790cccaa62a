/- The reference network's memory; pair, cut. -/
import Derived.Test.YtklcpopnggiepaaNx
import Derived.Test.YtklcpopnggiepaaOv
import Derived.Deep.AppendLies
set_option linter.unusedSimpArgs false
set_option linter.unusedVariables false
set_option maxRecDepth 100000
namespace Go.Proofs.Ytklcpopnggiepaa
open Go.RowKit
namespace N

def mc (ms : List Mg) : List Value := ms.flatMap fun m => [.int .i64 m.1, .int .i64 m.2.1, .string (str m.2.2)]
def gc (g : List (Int × Int)) : List Value := g.flatMap fun p => [.int .i64 p.1, .int .i64 p.2]
theorem mc_get {q : List Mg} : ∀ {i : Nat} (h : i < q.length), (mc q)[i * 3]? = some (.int .i64 q[i].1) ∧ (mc q)[i * 3 + 1]? = some (.int .i64 q[i].2.1) ∧ (mc q)[i * 3 + 2]? = some (.string (str q[i].2.2)) := by
  induction q with
  | nil => intro i h; simp at h
  | cons p q ih =>
    intro i h
    cases i with
    | zero => simp [mc]
    | succ i =>
      have := ih (i := i) (by simpa using h)
      have e : mc (p :: q) = [.int .i64 p.1, .int .i64 p.2.1, .string (str p.2.2)] ++ mc q := by simp [mc]
      rw [e, List.getElem?_append_right (by simp; omega), List.getElem?_append_right (by simp; omega), List.getElem?_append_right (by simp; omega)]
      simp only [List.length_cons, List.length_nil, List.getElem_cons_succ]
      rw [show (i + 1) * 3 - (0 + 1 + 1 + 1) = i * 3 from by omega, show (i + 1) * 3 + 1 - (0 + 1 + 1 + 1) = i * 3 + 1 from by omega, show (i + 1) * 3 + 2 - (0 + 1 + 1 + 1) = i * 3 + 2 from by omega]
      exact this
theorem gc_get {q : List (Int × Int)} : ∀ {i : Nat} (h : i < q.length), (gc q)[i * 2]? = some (.int .i64 q[i].1) ∧ (gc q)[i * 2 + 1]? = some (.int .i64 q[i].2) := by
  induction q with
  | nil => intro i h; simp at h
  | cons p q ih =>
    intro i h
    cases i with
    | zero => simp [gc]
    | succ i =>
      have := ih (i := i) (by simpa using h)
      have e : gc (p :: q) = [.int .i64 p.1, .int .i64 p.2] ++ gc q := by simp [gc]
      rw [e, List.getElem?_append_right (by simp; omega), List.getElem?_append_right (by simp; omega)]
      simp only [List.length_cons, List.length_nil, List.getElem_cons_succ]
      rw [show (i + 1) * 2 - (0 + 1 + 1) = i * 2 from by omega, show (i + 1) * 2 + 1 - (0 + 1 + 1) = i * 2 + 1 from by omega]
      exact this
theorem mc_snoc (q : List Mg) (m : Mg) : mc (q ++ [m]) = mc q ++ [.int .i64 m.1, .int .i64 m.2.1, .string (str m.2.2)] := by simp [mc]
theorem gc_snoc (q : List (Int × Int)) (m : Int × Int) : gc (q ++ [m]) = gc q ++ [.int .i64 m.1, .int .i64 m.2] := by simp [gc]
theorem mc_app (q r : List Mg) : mc (q ++ r) = mc q ++ mc r := by simp [mc]
theorem gc_app (q r : List (Int × Int)) : gc (q ++ r) = gc q ++ gc r := by simp [gc]
theorem mc_len (q : List Mg) : (mc q).length = q.length * 3 := by
  induction q with
  | nil => rfl
  | cons p q ih => simp only [mc, List.flatMap_cons, List.length_append, List.length_cons, List.length_nil] at ih ⊢; omega
theorem gc_len (q : List (Int × Int)) : (gc q).length = q.length * 2 := by
  induction q with
  | nil => rfl
  | cons p q ih => simp only [gc, List.flatMap_cons, List.length_append, List.length_cons, List.length_nil] at ih ⊢; omega

structure IsRef (w : World) (B : Nat) (M : Nat → Prop) (g : Nat) (R : Rf) (lv gv : Value) : Prop where
  blk : Reg.Blk g #[.int .i64 R.n, lv, gv] 66 w
  row : w.ownsRow B 69 3 lv R.ms.length (mc R.ms)
  cut : w.ownsRow B 58 2 gv R.gone.length (gc R.gone)
  mg : M g
  ml : ∀ k, lv.ownBlock = some k → M k
  mv : ∀ k, gv.ownBlock = some k → M k
  bb : ∀ k, M k → B ≤ k ∧ k < w.heap.size
def RefAt (w : World) (B : Nat) (M : Nat → Prop) (g : Nat) (R : Rf) : Prop := ∃ lv gv, IsRef w B M g R lv gv
def RPost (w : World) (B : Nat) (M : Nat → Prop) (g : Nat) (R : Rf) (w' : World) : Prop := ∃ M', RefAt w' B M' g R ∧ Moved M M' w w'
section
variable {w : World} {B : Nat} {M : Nat → Prop} {g : Nat} {R : Rf} {lv gv : Value}
theorem IsRef.same {w' : World} (h : IsRef w B M g R lv gv) (hs : w.heap.size ≤ w'.heap.size) (hk : ∀ k, M k → w'.heap[k]? = w.heap[k]?) : IsRef w' B M g R lv gv :=
  ⟨(hk g h.mg).trans h.blk, own_of h.row fun k e => hk k (h.ml k e), own_of h.cut fun k e => hk k (h.mv k e), h.mg, h.ml, h.mv, fun k m => ⟨(h.bb k m).1, Nat.lt_of_lt_of_le (h.bb k m).2 hs⟩⟩
theorem IsRef.below {w' : World} (h : IsRef w B M g R lv gv) (hb : Below w.heap.size w w') : IsRef w' B M g R lv gv := h.same hb.size fun k m => hb.block k (h.bb k m).2
theorem IsRef.lform (h : IsRef w B M g R lv gv) : ∃ A c, lv = .slice A R.ms.length c ∧ R.ms.length ≤ c := by
  rcases h.row.2 with ⟨e, hn⟩ | ⟨g', cap, cur, e, hb, hg, hc, _⟩
  · exact ⟨none, 0, by rw [e, hn], by omega⟩
  · exact ⟨some ⟨g', 0, none⟩, cap, e, hc⟩
theorem IsRef.gform (h : IsRef w B M g R lv gv) : ∃ A c, gv = .slice A R.gone.length c ∧ R.gone.length ≤ c := by
  rcases h.cut.2 with ⟨e, hn⟩ | ⟨g', cap, cur, e, hb, hg, hc, _⟩
  · exact ⟨none, 0, by rw [e, hn], by omega⟩
  · exact ⟨some ⟨g', 0, none⟩, cap, e, hc⟩
theorem IsRef.msg {A : Option Addr} {c : Nat} (h : IsRef w B M g R (.slice A R.ms.length c) gv) {k : Nat} (hk : k < R.ms.length) :
    ∃ gq, A = some ⟨gq, 0, none⟩ ∧ gq < w.heap.size ∧ w.cell? ⟨gq, k * 3, none⟩ = some (.int .i64 R.ms[k].1) ∧ w.cell? ⟨gq, k * 3 + 1, none⟩ = some (.int .i64 R.ms[k].2.1) ∧ w.cell? ⟨gq, k * 3 + 2, none⟩ = some (.string (str R.ms[k].2.2)) := by
  obtain ⟨gq, cap, hv, _, hlt⟩ := h.row.form (by omega)
  have hA : A = some ⟨gq, 0, none⟩ ∧ c = cap := by injection hv with a b c; exact ⟨a, c⟩
  obtain ⟨rfl, rfl⟩ := hA
  obtain ⟨p1, p2, p3⟩ := mc_get hk
  exact ⟨gq, rfl, hlt, by rw [h.row.cellAt _ (by omega)]; exact p1, by rw [h.row.cellAt _ (by omega)]; exact p2, by rw [h.row.cellAt _ (by omega)]; exact p3⟩
theorem IsRef.pr {A : Option Addr} {c : Nat} (h : IsRef w B M g R lv (.slice A R.gone.length c)) {k : Nat} (hk : k < R.gone.length) :
    ∃ gq, A = some ⟨gq, 0, none⟩ ∧ gq < w.heap.size ∧ w.cell? ⟨gq, k * 2, none⟩ = some (.int .i64 R.gone[k].1) ∧ w.cell? ⟨gq, k * 2 + 1, none⟩ = some (.int .i64 R.gone[k].2) := by
  obtain ⟨gq, cap, hv, _, hlt⟩ := h.cut.form (by omega)
  have hA : A = some ⟨gq, 0, none⟩ ∧ c = cap := by injection hv with a b c; exact ⟨a, c⟩
  obtain ⟨rfl, rfl⟩ := hA
  obtain ⟨p1, p2⟩ := gc_get hk
  exact ⟨gq, rfl, hlt, by rw [h.cut.cellAt _ (by omega)]; exact p1, by rw [h.cut.cellAt _ (by omega)]; exact p2⟩
end

theorem pair_any (a b n : Int) (g : Nat) (w : World) (h : w.cell? ⟨g, 0, none⟩ = some (.int .i64 n)) :
    Calls Try.prog 32 #[.pointer (some ⟨g, 0, none⟩), .int .i64 a, .int .i64 b] w fun e w' => e = .returned (.bool (okP n a b)) ∧ w = w' := by
  have hv : okP n a b = (decide (0 ≤ a) && decide (a < n) && decide (0 ≤ b) && decide (b < n) && !(a == b)) := by
    rw [Bool.eq_iff_iff, okP_iff]; simp; omega
  obtain ⟨V, hV⟩ : ∃ V, okP n a b = V := ⟨_, rfl⟩
  rw [hV] at hv ⊢
  clear hV
  by_cases h1 : 0 ≤ a
  · by_cases h2 : a < n
    · by_cases h3 : 0 ≤ b
      · by_cases h4 : b < n
        · cases h5 : (a == b)
          · have h5' : (a != b) = true := by unfold bne; rw [h5]; rfl
            obtain rfl : V = true := by rw [hv]; simp [h1, h2, h3, h4]; simpa using h5
            clear hv
            go_enter Try.func32, Try.ntmps32
            go_wp2
            go_ret
            exact ⟨rfl, rfl⟩
          · have h5' : (a != b) = false := by unfold bne; rw [h5]; rfl
            obtain rfl : V = false := by rw [hv, h5]; simp
            clear hv
            go_enter Try.func32, Try.ntmps32
            go_wp2
            go_ret
            exact ⟨rfl, rfl⟩
        · obtain rfl : V = false := by rw [hv]; simp [h4]
          clear hv
          go_enter Try.func32, Try.ntmps32
          go_wp2
          go_ret
          exact ⟨rfl, rfl⟩
      · obtain rfl : V = false := by rw [hv]; simp [h3]
        clear hv
        go_enter Try.func32, Try.ntmps32
        go_wp2
        go_ret
        exact ⟨rfl, rfl⟩
    · obtain rfl : V = false := by rw [hv]; simp [h2]
      clear hv
      go_enter Try.func32, Try.ntmps32
      go_wp2
      go_ret
      exact ⟨rfl, rfl⟩
  · obtain rfl : V = false := by rw [hv]; simp [h1]
    clear hv
    go_enter Try.func32, Try.ntmps32
    go_wp2
    go_ret
    exact ⟨rfl, rfl⟩

def CutRes (gone : List (Int × Int)) (a b v : Int) : Prop := (v = -1 ∧ shut gone a b = false) ∨ ∃ k : Nat, ∃ hk : k < gone.length, v = k ∧ isG a b gone[k] = true
theorem CutRes.neg {gone : List (Int × Int)} {a b v : Int} (h : CutRes gone a b v) (hv : v < 0) : shut gone a b = false := by
  rcases h with ⟨_, h⟩ | ⟨k, hk, rfl, _⟩
  · exact h
  · omega
theorem CutRes.pos {gone : List (Int × Int)} {a b v : Int} (h : CutRes gone a b v) (hv : ¬ v < 0) : shut gone a b = true ∧ ∃ k : Nat, ∃ hk : k < gone.length, v = k ∧ isG a b gone[k] = true := by
  rcases h with ⟨rfl, _⟩ | ⟨k, hk, rfl, hg⟩
  · omega
  · refine ⟨?_, k, hk, rfl, hg⟩
    unfold shut
    rw [List.any_eq_true]
    exact ⟨_, List.getElem_mem hk, hg⟩

set_option maxHeartbeats 4000000 in
theorem rcut_any (a b : Int) (w : World) {B g : Nat} {M : Nat → Prop} {R : Rf} (h : RefAt w B M g R) (hn : R.gone.length ≤ 1000000) :
    Calls Try.prog 36 #[.pointer (some ⟨g, 0, none⟩), .int .i64 a, .int .i64 b] w fun e w' => ∃ v, e = .returned (.int .i64 v) ∧ CutRes R.gone a b v ∧ Below w.heap.size w w' := by
  obtain ⟨lv, gv, h⟩ := h
  obtain ⟨A, c, rfl, hc⟩ := h.gform
  have H := Lib.hid h
  clear h
  go_enter Try.func36, Try.ntmps36
  go_wp2_with fail
  go_loopw [7] (fun i wr => ∃ k : Nat, k ≤ R.gone.length ∧ i = .int .i64 k ∧ (∀ j (hj : j < R.gone.length), j < k → isG a b R.gone[j] = false) ∧ Below w.heap.size w wr) (fun i _ => R.gone.length - (intOf i).toNat)
  case atStart => exact ⟨0, Nat.zero_le _, rfl, fun j _ hj => absurd hj (by omega), Below.refl _ _⟩
  case round =>
    obtain ⟨k, hk, rfl, hall, hW⟩ := hrel
    have Hall := Lib.hid hall
    have HW := Lib.hid hW
    have hR := H.out.below hW
    obtain ⟨ck, fk, zk⟩ := hR.blk.facts
    clear hall hW
    by_cases hlt : k < R.gone.length
    · obtain ⟨gq, hA, hlt1, c0, c1⟩ := hR.pr hlt
      have hki : (k : Int) < (R.gone.length : Int) := by omega
      have hk0 : (0 : Int) ≤ (k : Int) := by omega
      have HG : Hid (isG a b R.gone[k] = ((R.gone[k].1 == a && R.gone[k].2 == b) || (R.gone[k].1 == b && R.gone[k].2 == a))) := rfl
      obtain ⟨p1, hp1⟩ : ∃ p1, R.gone[k].1 = p1 := ⟨_, rfl⟩
      obtain ⟨p2, hp2⟩ : ∃ p2, R.gone[k].2 = p2 := ⟨_, rfl⟩
      rw [hp1] at c0 HG
      rw [hp2] at c1 HG
      clear hp1 hp2
      subst hA
      clear hR
      have HW3 : Hid (Below wr.heap.size wr (wr.alloc (.cells #[.int .i64 p1, .int .i64 p2] 58))) := (Below.refl _ _).alloc (Nat.le_refl _) _
      cases q1 : (p1 == a)
      · cases q3 : (p1 == b)
        · have hno : isG a b R.gone[k] = false := by rw [HG.out]; simp [q1, q3]
          have Hno := Lib.hid hno
          clear hno
          go_wp2_with fail
          refine ⟨⟨k + 1, by omega, by go_num, fun j hj hjk => ?_, HW.out.trans (HW3.out.mono HW.out.size)⟩, by simp [intOf]; omega⟩
          rcases Nat.lt_or_ge j k with h1 | h1
          · exact Hall.out j hj h1
          · obtain rfl : j = k := by omega
            exact Hno.out
        · cases q4 : (p2 == a)
          · have hno : isG a b R.gone[k] = false := by rw [HG.out]; simp [q1, q3, q4]
            have Hno := Lib.hid hno
            clear hno
            go_wp2_with fail
            refine ⟨⟨k + 1, by omega, by go_num, fun j hj hjk => ?_, HW.out.trans (HW3.out.mono HW.out.size)⟩, by simp [intOf]; omega⟩
            rcases Nat.lt_or_ge j k with h1 | h1
            · exact Hall.out j hj h1
            · obtain rfl : j = k := by omega
              exact Hno.out
          · go_wp2_with fail
            go_ret
            refine ⟨_, rfl, .inr ⟨k, hlt, rfl, ?_⟩, HW.out.trans (HW3.out.mono HW.out.size)⟩
            rw [HG.out]; simp [q1, q3, q4]
      · cases q2 : (p2 == b)
        · cases q3 : (p1 == b)
          · have hno : isG a b R.gone[k] = false := by rw [HG.out]; simp [q1, q2, q3]
            have Hno := Lib.hid hno
            clear hno
            go_wp2_with fail
            refine ⟨⟨k + 1, by omega, by go_num, fun j hj hjk => ?_, HW.out.trans (HW3.out.mono HW.out.size)⟩, by simp [intOf]; omega⟩
            rcases Nat.lt_or_ge j k with h1 | h1
            · exact Hall.out j hj h1
            · obtain rfl : j = k := by omega
              exact Hno.out
          · cases q4 : (p2 == a)
            · have hno : isG a b R.gone[k] = false := by rw [HG.out]; simp [q1, q2, q3, q4]
              have Hno := Lib.hid hno
              clear hno
              go_wp2_with fail
              refine ⟨⟨k + 1, by omega, by go_num, fun j hj hjk => ?_, HW.out.trans (HW3.out.mono HW.out.size)⟩, by simp [intOf]; omega⟩
              rcases Nat.lt_or_ge j k with h1 | h1
              · exact Hall.out j hj h1
              · obtain rfl : j = k := by omega
                exact Hno.out
            · go_wp2_with fail
              go_ret
              refine ⟨_, rfl, .inr ⟨k, hlt, rfl, ?_⟩, HW.out.trans (HW3.out.mono HW.out.size)⟩
              rw [HG.out]; simp [q1, q2, q3, q4]
        · go_wp2_with fail
          go_ret
          refine ⟨_, rfl, .inr ⟨k, hlt, rfl, ?_⟩, HW.out.trans (HW3.out.mono HW.out.size)⟩
          rw [HG.out]; simp [q1, q2]
    · obtain rfl : k = R.gone.length := by omega
      clear hR
      go_wp2
      go_ret
      refine ⟨_, rfl, .inl ⟨rfl, ?_⟩, HW.out⟩
      unfold shut
      rw [List.any_eq_false]
      intro x hx
      obtain ⟨j, hj, rfl⟩ := List.getElem_of_mem hx
      rw [Hall.out j hj hj]; simp

end N
end Go.Proofs.Ytklcpopnggiepaa
