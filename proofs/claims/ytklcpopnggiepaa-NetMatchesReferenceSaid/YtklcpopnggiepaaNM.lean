/- Law 'NetMatchesReference': the walk. Printed by mkM51.py. -/
import Derived.Test.YtklcpopnggiepaaRo
import Derived.Test.YtklcpopnggiepaaNL
set_option linter.unusedSimpArgs false
set_option linter.unusedVariables false
set_option maxRecDepth 100000
namespace Go.Proofs.Ytklcpopnggiepaa
open Go.RowKit
namespace N

/-- A network beside its reference. -/
def Two (w0 : World) (g gr : Nat) (d : Nt) (s : Nat) (W : World) : Prop := ∃ (M Mr : Nat → Prop) (R : Rf), Tr w0 g d M W ∧ RefAt W w0.heap.size Mr gr R ∧ Agree d R ∧ (∀ k, M k → ¬ Mr k) ∧ R.ms.length ≤ s ∧ R.gone.length ≤ s
theorem Two.below {w0 W W' : World} {g gr s : Nat} {d : Nt} (h : Two w0 g gr d s W) (hb : Below W.heap.size W W') : Two w0 g gr d s W' := by
  obtain ⟨M, Mr, R, h1, h2, h3, h4, h5, h6⟩ := h
  exact ⟨M, Mr, R, h1.below hb, h2.below hb, h3, h4, h5, h6⟩
/-- .. when the network has moved, and the reference not yet. -/
def Half (w0 : World) (g gr : Nat) (d d1 : Nt) (s : Nat) (W : World) : Prop := ∃ (M Mr : Nat → Prop) (R : Rf), Tr w0 g d1 M W ∧ RefAt W w0.heap.size Mr gr R ∧ Agree d R ∧ (∀ k, M k → ¬ Mr k) ∧ R.ms.length ≤ s ∧ R.gone.length ≤ s
theorem Half.below {w0 W W' : World} {g gr s : Nat} {d d1 : Nt} (h : Half w0 g gr d d1 s W) (hb : Below W.heap.size W W') : Half w0 g gr d d1 s W' := by
  obtain ⟨M, Mr, R, h1, h2, h3, h4, h5, h6⟩ := h
  exact ⟨M, Mr, R, h1.below hb, h2.below hb, h3, h4, h5, h6⟩
theorem two_do {w0 W : World} {g gr s : Nat} {d : Nt} (x : SV) (ha : B64 x.a) (hb : B64 x.b) (h : Two w0 g gr d s W) :
    Calls Try.prog 18 #[.pointer (some ⟨g, 0, none⟩), stepV x] W fun e W' => e = .returned (resV (doN d x).1) ∧ Half w0 g gr d (doN d x).2 s W' ∧ Below w0.heap.size W W' := by
  obtain ⟨M, Mr, R, h1, ⟨lv, gv, h2⟩, h3, h4, h5, h6⟩ := h
  refine (tr_do x ha hb h1).mono ?_
  rintro e W' ⟨rfl, M', ht, hm⟩
  refine ⟨rfl, ⟨M', Mr, R, ht, ⟨lv, gv, h2.same hm.keep.size fun k m => hm.keep.block k (h2.bb k m).2 fun m1 => h4 k m1 m⟩, h3, fun k m1 m => ?_, h5, h6⟩, hm.toBelow (fun k m => (h1.lt k m).1) h1.low.size⟩
  rcases hm.sub k m1 with m2 | m2
  · exact h4 k m2 m
  · have := (h2.bb k m).2; omega
theorem half_do {w0 W : World} {g gr s : Nat} {d : Nt} (x : SV) (hs : s ≤ 40000) (h : Half w0 g gr d (doN d x).2 s W) :
    Calls Try.prog 19 #[.pointer (some ⟨gr, 0, none⟩), stepV x] W fun e W' => e = .returned (resV (doN d x).1) ∧ Two w0 g gr (doN d x).2 (s + 1) W' ∧ Below w0.heap.size W W' := by
  obtain ⟨M, Mr, R, h1, h2, h3, h4, h5, h6⟩ := h
  obtain ⟨lv, gv, hi⟩ := h2
  refine (rdo_any x ⟨lv, gv, hi⟩ h1.low.size h3 (by omega) (by omega)).mono ?_
  rintro e W' ⟨rfl, R', ha', hs1, hs2, Mr', hr', hm⟩
  have hlow := hm.toBelow (fun k m => (hi.bb k m).1) h1.low.size
  obtain ⟨bq, bc, fq, fc, hd⟩ := h1.at_
  refine ⟨rfl, ⟨M, Mr', R', ⟨h1.few, ⟨bq, bc, fq, fc, hd.same hm.keep.size fun k m => hm.keep.block k (hd.bb k m).2 fun m1 => h4 k m m1⟩, h1.low.trans hlow⟩, hr', ha', fun k m m1 => ?_, by omega, by omega⟩, hlow⟩
  rcases hm.sub k m1 with m2 | m2
  · exact h4 k m m2
  · have := (hd.bb k m).2; omega
theorem two_wait {w0 W : World} {g gr s : Nat} {d : Nt} (a b : Int) (ha : B64 a) (hb : B64 b) (h : Two w0 g gr d s W) :
    Calls Try.prog 15 #[.pointer (some ⟨g, 0, none⟩), .int .i64 a, .int .i64 b] W fun e W' =>
      ∃ A c, e = .returned (.slice A (waiting d a b).length c) ∧ W'.ownsRow W.heap.size 9 1 (.slice A (waiting d a b).length c) (waiting d a b).length (sv (waiting d a b)) ∧ Below W.heap.size W W' := by
  obtain ⟨M, Mr, R, h1, _⟩ := h
  exact tr_waiting a b ha hb h1
theorem two_waitR {w0 W : World} {g gr s : Nat} {d : Nt} (a b : Int) (hs : s ≤ 50000) (h : Two w0 g gr d s W) :
    Calls Try.prog 20 #[.pointer (some ⟨gr, 0, none⟩), .int .i64 a, .int .i64 b] W fun e W' =>
      ∃ A c, e = .returned (.slice A (waiting d a b).length c) ∧ W'.ownsRow W.heap.size 9 1 (.slice A (waiting d a b).length c) (waiting d a b).length (sv (waiting d a b)) ∧ Below W.heap.size W W' := by
  obtain ⟨M, Mr, R, h1, h2, h3, h4, h5, h6⟩ := h
  have e : waiting d a b = waitR R a b := by
    unfold waiting waitR
    rw [← h3.n]
    by_cases ok : okP d.n a b = true
    · rw [if_pos ok, if_pos ok, h3.q a b ok]
    · rw [if_neg ok, if_neg ok]
  rw [e]
  exact rwait_any a b W h2 (by omega)

def matF (r : Value) : Nat → Value → World → Prop
  | 5, v, _ => v = r
  | 11, v, _ => v = r
  | 38, v, _ => v = .bool true
  | 50, v, _ => v = .bool true
  | _, _, _ => True
theorem matF_stays (r : Value) (d : Nat) (v : Value) (w w' : World) (h : matF r d v w) : matF r d v w' := by
  unfold matF at h ⊢
  split <;> simp_all
def RowW (w0 : World) (v : Value) (l : List Tx) (w : World) : Prop := ∃ A c, v = .slice A l.length c ∧ w.ownsRow w0.heap.size 9 1 (.slice A l.length c) l.length (sv l)
theorem RowW.below {w0 w w' : World} {v : Value} {l : List Tx} (h : RowW w0 v l w) (hb : Below w.heap.size w w') : RowW w0 v l w' := by
  obtain ⟨A, c, e, h⟩ := h
  exact ⟨A, c, e, own_below h hb⟩
def matT (w0 : World) (g gr s : Nat) (d d1 : Nt) (l1 l2 : List Tx) : List Value → World → Prop
  | [], w => Two w0 g gr d s w
  | [_], w => Half w0 g gr d d1 s w
  | [_, _], w => Two w0 g gr d1 (s + 1) w
  | [_, _, v], w => Two w0 g gr d1 (s + 1) w ∧ RowW w0 v l1 w
  | [_, _, v, u], w => Two w0 g gr d1 (s + 1) w ∧ RowW w0 v l1 w ∧ RowW w0 u l1 w
  | [_, _, _, _, _], w => Two w0 g gr d1 (s + 1) w
  | [_, _, _, _, _, v], w => Two w0 g gr d1 (s + 1) w ∧ RowW w0 v l2 w
  | [_, _, _, _, _, v, u], w => Two w0 g gr d1 (s + 1) w ∧ RowW w0 v l2 w ∧ RowW w0 u l2 w
  | _, w => Two w0 g gr d1 (s + 1) w
theorem matT_stays {w0 : World} {g gr s : Nat} {d d1 : Nt} {l1 l2 : List Tx} : ∀ vs w w', matT w0 g gr s d d1 l1 l2 vs w → Below w.heap.size w w' → matT w0 g gr s d d1 l1 l2 vs w' := by
  intro vs w w' h hb
  match vs, h with
  | [], h => exact Two.below h hb
  | [_], h => exact Half.below h hb
  | [_, _], h => exact Two.below h hb
  | [_, _, v], ⟨h, r⟩ => exact ⟨h.below hb, r.below hb⟩
  | [_, _, v, u], ⟨h, r, q⟩ => exact ⟨h.below hb, r.below hb, q.below hb⟩
  | [_, _, _, _, _], h => exact Two.below h hb
  | [_, _, _, _, _, v], ⟨h, r⟩ => exact ⟨h.below hb, r.below hb⟩
  | [_, _, _, _, _, v, u], ⟨h, r, q⟩ => exact ⟨h.below hb, r.below hb, q.below hb⟩
  | _ :: _ :: _ :: _ :: _ :: _ :: _ :: _ :: _, h => exact Two.below h hb

theorem keepOf {B : Nat} {w w' : World} (h : Below B w w') : Reg.Keep (fromM B) w w' := ⟨h.os, h.tape, h.output, h.size, fun k _ hn => h.block k (by unfold fromM at hn; omega)⟩
set_option maxHeartbeats 16000000 in
theorem matches_walk (nodes : Int) (A : Option Addr) (c : Nat) (l : List SV) (a b : Int) (w : World) (hnd : -9223372036854775808 ≤ nodes ∧ nodes ≤ 9223372036854775807) (hs : StepsAt w A l) (hl : l.length ≤ 9223372036854775807) (hab64 : ∀ x ∈ l, B64 x.a ∧ B64 x.b)
    (h1 : -9223372036854775808 ≤ a ∧ a ≤ 9223372036854775807) (h2 : -9223372036854775808 ≤ b ∧ b ≤ 9223372036854775807) :
    Calls Try.prog 6 #[.int .i64 nodes, .slice A l.length c, .int .i64 a, .int .i64 b] w fun e w' => e = .returned (.bool true) ∧ Below w.heap.size w w' := by
  have HH := Lib.hid (head_any w)
  have HS := Lib.hid hs
  have HL := Lib.hid hl
  have HX := Lib.hid hab64
  have B1 : Hid (B64 a) := h1
  have B2 : Hid (B64 b) := h2
  clear hs hab64 h1 h2 hnd
  go_enter Try.func6, Try.ntmps6
  go_wp2_with fail
  (with_reducible refine HH.out.mono ?_); rintro e w1 ⟨rfl, hb1⟩
  have LB := Lib.hid hb1
  have hf := Lib.hid (few_any A c l w1 (HS.out.below hb1) HL.out)
  clear hb1 HH
  go_wp2_with fail
  (with_reducible refine hf.out.mono ?_); rintro e w2 ⟨rfl, hb2⟩
  have LB2 := Lib.hid (LB.out.trans (hb2.mono LB.out.size))
  clear hb2 LB hf
  cases hfw : fewS l
  · go_wp2_with fail
    go_ret
    exact ⟨rfl, LB2.out⟩
  · have h150 := (fewI.1 hfw).1
    clear hfw
    by_cases hn : 1 ≤ nodes ∧ nodes ≤ 8
    · obtain ⟨n1, n8⟩ := hn
      have hnew := Lib.hid (tr_new (w0 := w) (W := w2) nodes n1 n8 LB2.out)
      go_wp2_with fail
      refine hnew.out.mono ?_
      rintro e W0 ⟨g, M0, rfl, ht0, hM0, _⟩
      have HT0 := Lib.hid ht0
      have hnr := Lib.hid (rnew_yes nodes n1 n8 W0 w.heap.size ht0.low.size)
      clear hnew ht0 hM0 n1 n8
      go_wp2_with fail
      refine hnr.out.mono ?_
      rintro e W1 ⟨gr, Mr, rfl, hr1, hMr, hb1⟩
      have h2 : Two w g gr (newN nodes) 0 W1 := ⟨M0, Mr, _, HT0.out.below hb1, hr1, agree_new nodes, fun k m m1 => by have := (HT0.out.lt k m).2; have := hMr k m1; omega, Nat.le_refl _, Nat.le_refl _⟩
      have H2 := Lib.hid h2
      clear hnr hr1 hMr hb1 h2 HT0
      go_wp2_with fail
      go_loopw [14] (fun i wr => ∃ (k : Nat) (d : Nt), k ≤ l.length ∧ i = .int .i64 k ∧ Two w g gr d k wr ∧ Below w.heap.size w wr) (fun i _ => l.length - (intOf i).toNat)
      case atStart => exact ⟨0, _, Nat.zero_le _, rfl, H2.out, by obtain ⟨_, _, _, h, _⟩ := H2.out; exact h.low⟩
      case round =>
        obtain ⟨k, d, hk, rfl, htwo, hlow⟩ := hrel
        clear H2
        have HLow := Lib.hid hlow
        have HTwo := Lib.hid htwo
        by_cases hlt : k < l.length
        · obtain ⟨bs, off, hA, hbs, c0, c1, c2, c3, c4, c5, c6⟩ := (HS.out.below hlow).get k hlt
          have hki : (k : Int) < (l.length : Int) := by omega
          have hk0 : (0 : Int) ≤ (k : Int) := by omega
          have hx64 := HX.out l[k] (List.getElem_mem hlt)
          have hbw : bs < w.heap.size := by
            obtain ⟨bs', off', e, h, _⟩ := HS.out k hlt
            rw [hA] at e
            injection e with e
            injection e with e
            omega
          clear htwo hlow
          generalize l[k] = X at *
          obtain ⟨kind, xa, xb, xn, xt, xl, xg⟩ := X
          simp only at c0 c1 c2 c3 c4 c5 c6 hx64
          subst hA
          obtain ⟨r, hr⟩ : ∃ r, r = (doN d ⟨kind, xa, xb, xn, xt, xl, xg⟩).1 := ⟨_, rfl⟩
          obtain ⟨re, rt, ro⟩ := r
          have HR := Lib.hid hr
          clear hr
          have nb : ¬ fromM w.heap.size bs := by unfold fromM; omega
          go_wp2_with fail
          refine Reg.wp_region_eff (fromM w.heap.size) (matF (.agg #[.int .i64 re, .string (str rt), .bool ro])) (matT w g gr k d (doN d ⟨kind, xa, xb, xn, xt, xl, xg⟩).2 (waiting (doN d ⟨kind, xa, xb, xn, xt, xl, xg⟩).2 xa xb) (waiting (doN d ⟨kind, xa, xb, xn, xt, xl, xg⟩).2 a b)) (by kernel_rfl) (by kernel_rfl) (fun _ _ _ _ h _ => matF_stays _ _ _ _ _ h) matT_stays (HTwo.out.below (Below.refl _ _).drew) ?_
          simp only
          iterate 5
            apply Reg.SeqE.val
            rotate_left 2
            · intro δ W hW hkn K hK
              obtain ⟨hc, hf, _⟩ := Reg.kcell hW
              simp only [Act.put, List.setIfInBounds_toArray, List.set_cons_zero, List.set_cons_succ] at hK
              unfold Reg.Does
              go_simp
              try simp only [IntWalk.i64_left]
              first
                | exact hK _ (Below.refl _ _)
                | (trace_state; fail)
            rotate_left 1
            · intro δ δ' hd; first | rfl | (simp only [hd _ (show Reg.reach _ 12 _ _ = true by kernel_rfl)])
            · intro x w; exact trivial
            simp only [Act.put, List.setIfInBounds_toArray, List.set_cons_zero, List.set_cons_succ, List.nil_append, List.cons_append, Nat.reduceAdd, Nat.zero_add]
          refine Reg.SeqE.eff (fun e h => by simp at h) (fun δ W5 hW5 hkn hT5 K hK => ?_) ?_
          · have q2 := two_do ⟨kind, xa, xb, xn, xt, xl, xg⟩ hx64.1 hx64.2 (show Two w g gr d k W5 from hT5)
            rw [← HR.out] at q2
            unfold stepV resV at q2
            simp only at q2
            have Q2 := Lib.hid q2
            clear q2 hT5
            simp only [Act.put, List.setIfInBounds_toArray, List.set_cons_zero, List.set_cons_succ] at hK
            unfold Reg.Does
            go_simp
            refine Q2.out.mono ?_
            rintro e w6 ⟨rfl, hh, hb⟩
            exact hK _ _ (keepOf hb) rfl hh
          simp only [Act.put, List.setIfInBounds_toArray, List.set_cons_zero, List.set_cons_succ, List.nil_append, List.cons_append, Nat.reduceAdd, Nat.zero_add]
          iterate 5
            apply Reg.SeqE.val
            rotate_left 2
            · intro δ W hW hkn K hK
              obtain ⟨hc, hf, _⟩ := Reg.kcell hW
              simp only [Act.put, List.setIfInBounds_toArray, List.set_cons_zero, List.set_cons_succ] at hK
              unfold Reg.Does
              go_simp
              try simp only [IntWalk.i64_left]
              first
                | exact hK _ (Below.refl _ _)
            rotate_left 1
            · intro δ δ' hd; first | rfl | (simp only [hd _ (show Reg.reach _ 12 _ _ = true by kernel_rfl)])
            · intro x w; exact trivial
            simp only [Act.put, List.setIfInBounds_toArray, List.set_cons_zero, List.set_cons_succ, List.nil_append, List.cons_append, Nat.reduceAdd, Nat.zero_add]
          refine Reg.SeqE.eff (fun e h => ?_) (fun δ W5 hW5 hkn hT5 K hK => ?_) ?_
          · simp only [List.getLast?_singleton, Option.some.injEq] at h
            subst h
            kernel_rfl
          · have q2 := half_do ⟨kind, xa, xb, xn, xt, xl, xg⟩ (by omega) (show Half w g gr d (doN d ⟨kind, xa, xb, xn, xt, xl, xg⟩).2 k W5 from hT5)
            rw [← HR.out] at q2
            unfold stepV resV at q2
            simp only at q2
            have Q2 := Lib.hid q2
            clear q2 hT5
            simp only [Act.put, List.setIfInBounds_toArray, List.set_cons_zero, List.set_cons_succ] at hK
            unfold Reg.Does
            go_simp
            refine Q2.out.mono ?_
            rintro e w6 ⟨rfl, hh, hb⟩
            exact hK _ _ (keepOf hb) rfl hh
          simp only [Act.put, List.setIfInBounds_toArray, List.set_cons_zero, List.set_cons_succ, List.nil_append, List.cons_append, Nat.reduceAdd, Nat.zero_add]
          refine Reg.SeqE.val (fun δ => .bool false) (fun δ δ' hd => rfl) (fun _ _ => trivial) (fun δ W5 hW5 hkn K hK => ?_) ?_
          · have e5 : δ 5 = .agg #[.int .i64 re, .string (str rt), .bool ro] := hkn 5 (by kernel_rfl)
            have e11 : δ 11 = .agg #[.int .i64 re, .string (str rt), .bool ro] := hkn 11 (by kernel_rfl)
            have hne := run_neq_same re rt ro
            simp only [Act.put, List.setIfInBounds_toArray, List.set_cons_zero, List.set_cons_succ] at hK
            rw [e5, e11] at hK
            unfold Reg.Does
            rw [e5, e11]
            go_simp
            exact hK _ (Below.refl _ _)
          simp only [Act.put, List.setIfInBounds_toArray, List.set_cons_zero, List.set_cons_succ, List.nil_append, List.cons_append, Nat.reduceAdd, Nat.zero_add]
          iterate 12
            apply Reg.SeqE.val
            rotate_left 2
            · intro δ W hW hkn K hK
              obtain ⟨hc, hf, _⟩ := Reg.kcell hW
              simp only [Act.put, List.setIfInBounds_toArray, List.set_cons_zero, List.set_cons_succ] at hK
              unfold Reg.Does
              go_simp
              try simp only [IntWalk.i64_left]
              first
                | exact hK _ (Below.refl _ _)
            rotate_left 1
            · intro δ δ' hd; first | rfl | (simp only [hd _ (show Reg.reach _ 12 _ _ = true by kernel_rfl)])
            · intro x w; exact trivial
            simp only [Act.put, List.setIfInBounds_toArray, List.set_cons_zero, List.set_cons_succ, List.nil_append, List.cons_append, Nat.reduceAdd, Nat.zero_add]
          refine Reg.SeqE.eff (fun e h => ?_) (fun δ W5 hW5 hkn hT5 K hK => ?_) ?_
          · simp only [List.getLast?_cons_cons, List.getLast?_singleton, Option.some.injEq] at h
            subst h
            kernel_rfl
          · have ht : Two w g gr (doN d ⟨kind, xa, xb, xn, xt, xl, xg⟩).2 (k + 1) W5 := hT5
            have q2 := two_wait xa xb hx64.1 hx64.2 ht
            have Q2 := Lib.hid q2
            have HT := Lib.hid ht
            clear q2 hT5 ht
            simp only [Act.put, List.setIfInBounds_toArray, List.set_cons_zero, List.set_cons_succ] at hK
            unfold Reg.Does
            go_simp
            refine Q2.out.mono ?_
            rintro e w6 ⟨A6, c6', rfl, ho, hb⟩
            have hz : w.heap.size ≤ W5.heap.size := by obtain ⟨_, _, _, h, _⟩ := HT.out; exact h.low.size
            exact hK _ _ (keepOf (hb.mono hz)) trivial ⟨HT.out.below hb, A6, c6', rfl, own_base ho hz⟩
          simp only [Act.put, List.setIfInBounds_toArray, List.set_cons_zero, List.set_cons_succ, List.nil_append, List.cons_append, Nat.reduceAdd, Nat.zero_add]
          iterate 11
            apply Reg.SeqE.val
            rotate_left 2
            · intro δ W hW hkn K hK
              obtain ⟨hc, hf, _⟩ := Reg.kcell hW
              simp only [Act.put, List.setIfInBounds_toArray, List.set_cons_zero, List.set_cons_succ] at hK
              unfold Reg.Does
              go_simp
              try simp only [IntWalk.i64_left]
              first
                | exact hK _ (Below.refl _ _)
            rotate_left 1
            · intro δ δ' hd; first | rfl | (simp only [hd _ (show Reg.reach _ 12 _ _ = true by kernel_rfl)])
            · intro x w; exact trivial
            simp only [Act.put, List.setIfInBounds_toArray, List.set_cons_zero, List.set_cons_succ, List.nil_append, List.cons_append, Nat.reduceAdd, Nat.zero_add]
          refine Reg.SeqE.eff (fun e h => ?_) (fun δ W5 hW5 hkn hT5 K hK => ?_) ?_
          · simp only [List.getLast?_cons_cons, List.getLast?_singleton, Option.some.injEq] at h
            subst h
            kernel_rfl
          · obtain ⟨ht, hrow⟩ : Two w g gr (doN d ⟨kind, xa, xb, xn, xt, xl, xg⟩).2 (k + 1) W5 ∧ RowW w (δ 25) (waiting (doN d ⟨kind, xa, xb, xn, xt, xl, xg⟩).2 xa xb) W5 := hT5
            have q2 := two_waitR xa xb (by omega) ht
            have Q2 := Lib.hid q2
            have HT := Lib.hid ht
            have HRow := Lib.hid hrow
            clear q2 ht hrow
            simp only [Act.put, List.setIfInBounds_toArray, List.set_cons_zero, List.set_cons_succ] at hK
            unfold Reg.Does
            go_simp
            refine Q2.out.mono ?_
            rintro e w6 ⟨A6, c6', rfl, ho, hb⟩
            have hz : w.heap.size ≤ W5.heap.size := by obtain ⟨_, _, _, h, _⟩ := HT.out; exact h.low.size
            exact hK _ _ (keepOf (hb.mono hz)) trivial ⟨HT.out.below hb, HRow.out.below hb, A6, c6', rfl, own_base ho hz⟩
          simp only [Act.put, List.setIfInBounds_toArray, List.set_cons_zero, List.set_cons_succ, List.nil_append, List.cons_append, Nat.reduceAdd, Nat.zero_add]
          refine Reg.SeqE.eff (fun e h => ?_) (fun δ W5 hW5 hkn hT5 K hK => ?_) ?_
          · simp only [List.getLast?_cons_cons, List.getLast?_singleton, Option.some.injEq] at h
            subst h
            kernel_rfl
          · obtain ⟨ht, ⟨A1, c1', e25, r1⟩, A2, c2', e37, r2⟩ : Two w g gr (doN d ⟨kind, xa, xb, xn, xt, xl, xg⟩).2 (k + 1) W5 ∧ RowW w (δ 25) (waiting (doN d ⟨kind, xa, xb, xn, xt, xl, xg⟩).2 xa xb) W5 ∧ RowW w (δ 37) (waiting (doN d ⟨kind, xa, xb, xn, xt, xl, xg⟩).2 xa xb) W5 := hT5
            have hfw : (waiting (doN d ⟨kind, xa, xb, xn, xt, xl, xg⟩).2 xa xb).length ≤ 100 := by obtain ⟨_, _, _, h, _⟩ := ht; exact Few_wait h.few _ _
            have q2 := same_rows r1 r2 rfl rfl (by omega)
            rw [show (waiting (doN d ⟨kind, xa, xb, xn, xt, xl, xg⟩).2 xa xb == waiting (doN d ⟨kind, xa, xb, xn, xt, xl, xg⟩).2 xa xb) = true by simp] at q2
            have Q2 := Lib.hid q2
            have HT := Lib.hid ht
            clear q2 ht r1 r2
            simp only [Act.put, List.setIfInBounds_toArray, List.set_cons_zero, List.set_cons_succ] at hK
            rw [e25, e37] at hK
            unfold Reg.Does
            rw [e25, e37]
            go_simp
            (with_reducible refine Q2.out.mono ?_); rintro e w6 ⟨rfl, hb⟩
            exact hK _ _ (.ofBelow hb) rfl (HT.out.below hb)
          simp only [Act.put, List.setIfInBounds_toArray, List.set_cons_zero, List.set_cons_succ, List.nil_append, List.cons_append, Nat.reduceAdd, Nat.zero_add]
          refine Reg.SeqE.val (fun δ => .bool false) (fun δ δ' hd => rfl) (fun _ _ => trivial) (fun δ W5 hW5 hkn K hK => ?_) ?_
          · have e38 : δ 38 = .bool true := hkn 38 (by kernel_rfl)
            simp only [Act.put, List.setIfInBounds_toArray, List.set_cons_zero, List.set_cons_succ] at hK
            rw [e38] at hK
            unfold Reg.Does
            rw [e38]
            go_simp
            exact hK _ (Below.refl _ _)
          simp only [Act.put, List.setIfInBounds_toArray, List.set_cons_zero, List.set_cons_succ, List.nil_append, List.cons_append, Nat.reduceAdd, Nat.zero_add]
          iterate 5
            apply Reg.SeqE.val
            rotate_left 2
            · intro δ W hW hkn K hK
              obtain ⟨hc, hf, _⟩ := Reg.kcell hW
              simp only [Act.put, List.setIfInBounds_toArray, List.set_cons_zero, List.set_cons_succ] at hK
              unfold Reg.Does
              go_simp
              try simp only [IntWalk.i64_left]
              first
                | exact hK _ (Below.refl _ _)
            rotate_left 1
            · intro δ δ' hd; first | rfl | (simp only [hd _ (show Reg.reach _ 12 _ _ = true by kernel_rfl)])
            · intro x w; exact trivial
            simp only [Act.put, List.setIfInBounds_toArray, List.set_cons_zero, List.set_cons_succ, List.nil_append, List.cons_append, Nat.reduceAdd, Nat.zero_add]
          refine Reg.SeqE.eff (fun e h => ?_) (fun δ W5 hW5 hkn hT5 K hK => ?_) ?_
          · simp only [List.getLast?_cons_cons, List.getLast?_singleton, Option.some.injEq] at h
            subst h
            kernel_rfl
          · have ht : Two w g gr (doN d ⟨kind, xa, xb, xn, xt, xl, xg⟩).2 (k + 1) W5 := hT5
            have q2 := two_wait a b B1.out B2.out ht
            have Q2 := Lib.hid q2
            have HT := Lib.hid ht
            clear q2 hT5 ht
            simp only [Act.put, List.setIfInBounds_toArray, List.set_cons_zero, List.set_cons_succ] at hK
            unfold Reg.Does
            go_simp
            refine Q2.out.mono ?_
            rintro e w6 ⟨A6, c6', rfl, ho, hb⟩
            have hz : w.heap.size ≤ W5.heap.size := by obtain ⟨_, _, _, h, _⟩ := HT.out; exact h.low.size
            exact hK _ _ (keepOf (hb.mono hz)) trivial ⟨HT.out.below hb, A6, c6', rfl, own_base ho hz⟩
          simp only [Act.put, List.setIfInBounds_toArray, List.set_cons_zero, List.set_cons_succ, List.nil_append, List.cons_append, Nat.reduceAdd, Nat.zero_add]
          iterate 3
            apply Reg.SeqE.val
            rotate_left 2
            · intro δ W hW hkn K hK
              obtain ⟨hc, hf, _⟩ := Reg.kcell hW
              simp only [Act.put, List.setIfInBounds_toArray, List.set_cons_zero, List.set_cons_succ] at hK
              unfold Reg.Does
              go_simp
              try simp only [IntWalk.i64_left]
              first
                | exact hK _ (Below.refl _ _)
            rotate_left 1
            · intro δ δ' hd; first | rfl | (simp only [hd _ (show Reg.reach _ 12 _ _ = true by kernel_rfl)])
            · intro x w; exact trivial
            simp only [Act.put, List.setIfInBounds_toArray, List.set_cons_zero, List.set_cons_succ, List.nil_append, List.cons_append, Nat.reduceAdd, Nat.zero_add]
          refine Reg.SeqE.eff (fun e h => ?_) (fun δ W5 hW5 hkn hT5 K hK => ?_) ?_
          · simp only [List.getLast?_cons_cons, List.getLast?_singleton, Option.some.injEq] at h
            subst h
            kernel_rfl
          · obtain ⟨ht, hrow⟩ : Two w g gr (doN d ⟨kind, xa, xb, xn, xt, xl, xg⟩).2 (k + 1) W5 ∧ RowW w (δ 45) (waiting (doN d ⟨kind, xa, xb, xn, xt, xl, xg⟩).2 a b) W5 := hT5
            have q2 := two_waitR a b (by omega) ht
            have Q2 := Lib.hid q2
            have HT := Lib.hid ht
            have HRow := Lib.hid hrow
            clear q2 ht hrow
            simp only [Act.put, List.setIfInBounds_toArray, List.set_cons_zero, List.set_cons_succ] at hK
            unfold Reg.Does
            go_simp
            refine Q2.out.mono ?_
            rintro e w6 ⟨A6, c6', rfl, ho, hb⟩
            have hz : w.heap.size ≤ W5.heap.size := by obtain ⟨_, _, _, h, _⟩ := HT.out; exact h.low.size
            exact hK _ _ (keepOf (hb.mono hz)) trivial ⟨HT.out.below hb, HRow.out.below hb, A6, c6', rfl, own_base ho hz⟩
          simp only [Act.put, List.setIfInBounds_toArray, List.set_cons_zero, List.set_cons_succ, List.nil_append, List.cons_append, Nat.reduceAdd, Nat.zero_add]
          refine Reg.SeqE.eff (fun e h => ?_) (fun δ W5 hW5 hkn hT5 K hK => ?_) ?_
          · simp only [List.getLast?_cons_cons, List.getLast?_singleton, Option.some.injEq] at h
            subst h
            kernel_rfl
          · obtain ⟨ht, ⟨A1, c1', e25, r1⟩, A2, c2', e37, r2⟩ : Two w g gr (doN d ⟨kind, xa, xb, xn, xt, xl, xg⟩).2 (k + 1) W5 ∧ RowW w (δ 45) (waiting (doN d ⟨kind, xa, xb, xn, xt, xl, xg⟩).2 a b) W5 ∧ RowW w (δ 49) (waiting (doN d ⟨kind, xa, xb, xn, xt, xl, xg⟩).2 a b) W5 := hT5
            have hfw : (waiting (doN d ⟨kind, xa, xb, xn, xt, xl, xg⟩).2 a b).length ≤ 100 := by obtain ⟨_, _, _, h, _⟩ := ht; exact Few_wait h.few _ _
            have q2 := same_rows r1 r2 rfl rfl (by omega)
            rw [show (waiting (doN d ⟨kind, xa, xb, xn, xt, xl, xg⟩).2 a b == waiting (doN d ⟨kind, xa, xb, xn, xt, xl, xg⟩).2 a b) = true by simp] at q2
            have Q2 := Lib.hid q2
            have HT := Lib.hid ht
            clear q2 ht r1 r2
            simp only [Act.put, List.setIfInBounds_toArray, List.set_cons_zero, List.set_cons_succ] at hK
            rw [e25, e37] at hK
            unfold Reg.Does
            rw [e25, e37]
            go_simp
            (with_reducible refine Q2.out.mono ?_); rintro e w6 ⟨rfl, hb⟩
            exact hK _ _ (.ofBelow hb) rfl (HT.out.below hb)
          simp only [Act.put, List.setIfInBounds_toArray, List.set_cons_zero, List.set_cons_succ, List.nil_append, List.cons_append, Nat.reduceAdd, Nat.zero_add]
          refine Reg.SeqE.val (fun δ => .bool false) (fun δ δ' hd => rfl) (fun _ _ => trivial) (fun δ W5 hW5 hkn K hK => ?_) ?_
          · have e38 : δ 50 = .bool true := hkn 50 (by kernel_rfl)
            simp only [Act.put, List.setIfInBounds_toArray, List.set_cons_zero, List.set_cons_succ] at hK
            rw [e38] at hK
            unfold Reg.Does
            rw [e38]
            go_simp
            exact hK _ (Below.refl _ _)
          simp only [Act.put, List.setIfInBounds_toArray, List.set_cons_zero, List.set_cons_succ, List.nil_append, List.cons_append, Nat.reduceAdd, Nat.zero_add]
          iterate 1
            apply Reg.SeqE.val
            rotate_left 2
            · intro δ W hW hkn K hK
              obtain ⟨hc, hf, _⟩ := Reg.kcell hW
              simp only [Act.put, List.setIfInBounds_toArray, List.set_cons_zero, List.set_cons_succ] at hK
              unfold Reg.Does
              go_simp
              try simp only [IntWalk.i64_left]
              first
                | exact hK _ (Below.refl _ _)
            rotate_left 1
            · intro δ δ' hd; first | rfl | (simp only [hd _ (show Reg.reach _ 12 _ _ = true by kernel_rfl)])
            · intro x w; exact trivial
            simp only [Act.put, List.setIfInBounds_toArray, List.set_cons_zero, List.set_cons_succ, List.nil_append, List.cons_append, Nat.reduceAdd, Nat.zero_add]
          refine Reg.SeqE.nil (fun δ W5 hW5 hF hT5 => ?_)
          have ht : Two w g gr (doN d ⟨kind, xa, xb, xn, xt, xl, xg⟩).2 (k + 1) W5 := hT5
          have HT := Lib.hid ht
          clear hF hW5 ht c0 c1 c2 c3 c4 c5 c6 hbs HTwo
          go_wp2_with fail
          exact ⟨⟨k + 1, (doN d ⟨kind, xa, xb, xn, xt, xl, xg⟩).2, by omega, by go_num, HT.out, by obtain ⟨_, _, _, h, _⟩ := HT.out; exact h.low⟩, by simp [intOf]; omega⟩
        · obtain rfl : k = l.length := by omega
          clear htwo hlow
          go_wp2_with fail
          go_ret
          exact ⟨rfl, HLow.out⟩
    · have hn' : nodes < 1 ∨ 8 < nodes := by omega
      have Q1 := Lib.hid (new_no nodes hn' w2)
      have HN := Lib.hid hn'
      clear hn hn'
      go_wp2_with fail
      (with_reducible refine Q1.out.mono ?_); rintro e w3 ⟨rfl, hb3⟩
      have LB3 := Lib.hid (LB2.out.trans (hb3.mono LB2.out.size))
      have Q2 := Lib.hid (rnew_no nodes HN.out w3)
      clear hb3 Q1 LB2
      go_wp2_with fail
      (with_reducible refine Q2.out.mono ?_); rintro e w4 ⟨rfl, hb4⟩
      have LB4 := Lib.hid (LB3.out.trans (hb4.mono LB3.out.size))
      clear hb4 Q2 LB3
      go_wp2_with fail
      go_loopw [14] (fun i wr => i = .int .i64 0 ∧ wr = w4) (fun i _ => (intOf i).toNat)
      case atStart => exact ⟨rfl, rfl⟩
      case round =>
        obtain ⟨rfl, rfl⟩ := hrel
        by_cases h0 : (0 : Int) < (l.length : Int)
        · go_wp2_with fail
          go_ret
          exact ⟨rfl, LB4.out⟩
        · go_wp2_with fail
          go_ret
          exact ⟨rfl, LB4.out⟩

end N
end Go.Proofs.Ytklcpopnggiepaa

