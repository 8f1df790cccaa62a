/- Law 'NetHonest': the walk. Printed by mkH51.py. -/
import Derived.Test.YtklcpopnggiepaaNp
import Derived.Test.YtklcpopnggiepaaNw
import Derived.Test.YtklcpopnggiepaaOv
import Derived.Deep.AppendLies
set_option linter.unusedSimpArgs false
set_option linter.unusedVariables false
set_option maxRecDepth 100000
namespace Go.Proofs.Ytklcpopnggiepaa
open Go.RowKit
namespace N

def rc (L : Rn) : List Value := L.flatMap fun p => [.int .i64 p.2.err, .string (str p.2.text), .bool p.2.ok]
theorem rc_len (q : Rn) : (rc q).length = q.length * 3 := by
  induction q with
  | nil => rfl
  | cons p q ih => simp only [rc, List.flatMap_cons, List.length_append, List.length_cons, List.length_nil] at ih ⊢; omega
theorem rc_get {q : Rn} : ∀ {i : Nat} (h : i < q.length), (rc q)[i * 3]? = some (.int .i64 q[i].2.err) ∧ (rc q)[i * 3 + 1]? = some (.string (str q[i].2.text)) ∧ (rc q)[i * 3 + 2]? = some (.bool q[i].2.ok) := by
  induction q with
  | nil => intro i h; simp at h
  | cons p q ih =>
    intro i h
    cases i with
    | zero => simp [rc]
    | succ i =>
      have := ih (i := i) (by simpa using h)
      have e : rc (p :: q) = [.int .i64 p.2.err, .string (str p.2.text), .bool p.2.ok] ++ rc q := by simp [rc]
      rw [e, List.getElem?_append_right (by simp; omega), List.getElem?_append_right (by simp; omega), List.getElem?_append_right (by simp; omega)]
      simp only [List.length_cons, List.length_nil, List.getElem_cons_succ]
      rw [show (i + 1) * 3 - (0 + 1 + 1 + 1) = i * 3 from by omega, show (i + 1) * 3 + 1 - (0 + 1 + 1 + 1) = i * 3 + 1 from by omega, show (i + 1) * 3 + 2 - (0 + 1 + 1 + 1) = i * 3 + 2 from by omega]
      exact this
theorem rc_snoc (q : Rn) (x : SV) (r : RV) : rc (q ++ [(x, r)]) = rc q ++ [.int .i64 r.err, .string (str r.text), .bool r.ok] := by simp [rc]
theorem info_res : (Try.prog.info? 43).map (fun i => (i.zero, i.size, i.bytes)) = some (some (.agg #[.int .i64 0, .string ByteArray.empty, .bool false]), 3, 32) := by kernel_rfl
/-- A step and its result in memory. -/
def At (w : World) (bs off gg j : Nat) (y : SV) (s : RV) : Prop :=
  bs < w.heap.size ∧ gg < w.heap.size ∧
  w.cell? ⟨bs, off + j * 7, none⟩ = some (.int .i64 y.kind) ∧ w.cell? ⟨bs, off + j * 7 + 1, none⟩ = some (.int .i64 y.a) ∧ w.cell? ⟨bs, off + j * 7 + 2, none⟩ = some (.int .i64 y.b) ∧
  w.cell? ⟨bs, off + j * 7 + 4, none⟩ = some (.string (str y.text)) ∧ w.cell? ⟨bs, off + j * 7 + 6, none⟩ = some (.bool y.again) ∧
  w.cell? ⟨gg, j * 3, none⟩ = some (.int .i64 s.err) ∧ w.cell? ⟨gg, j * 3 + 1, none⟩ = some (.string (str s.text)) ∧ w.cell? ⟨gg, j * 3 + 2, none⟩ = some (.bool s.ok)
theorem At.below {w w' : World} {bs off gg j : Nat} {y : SV} {s : RV} (h : At w bs off gg j y s) (hb : Below w.heap.size w w') : At w' bs off gg j y s := by
  obtain ⟨h1, h2, c0, c1, c2, c3, c4, c5, c6, c7⟩ := h
  exact ⟨Nat.lt_of_lt_of_le h1 hb.size, Nat.lt_of_lt_of_le h2 hb.size, (hb.cell (p := ⟨bs, _, none⟩) h1).trans c0, (hb.cell (p := ⟨bs, _, none⟩) h1).trans c1, (hb.cell (p := ⟨bs, _, none⟩) h1).trans c2, (hb.cell (p := ⟨bs, _, none⟩) h1).trans c3, (hb.cell (p := ⟨bs, _, none⟩) h1).trans c4, (hb.cell (p := ⟨gg, _, none⟩) h2).trans c5, (hb.cell (p := ⟨gg, _, none⟩) h2).trans c6, (hb.cell (p := ⟨gg, _, none⟩) h2).trans c7⟩
theorem At.of {w : World} {bs off gg B cap n : Nat} {l : List SV} {L : Rn} (hs : StepsAt w (some ⟨bs, off, none⟩) l) (hr : w.ownsRow B 43 3 (.slice (some ⟨gg, 0, none⟩) n cap) n (rc L)) (hL : L.length = n) (hm : L.map Prod.fst = l.take n) (j : Nat) (hj : j < n) (hjl : j < l.length) :
    At w bs off gg j (L[j]'(by omega)).1 (L[j]'(by omega)).2 := by
  obtain ⟨b', off', hA, hb, c0, c1, c2, c3, c4, c5, c6⟩ := hs.get j hjl
  injection hA with hA
  injection hA with hA1 hA2
  subst hA1 hA2
  have hlt := (hr.lt gg rfl).2
  have e : l[j] = (L[j]'(by omega)).1 := by
    have h1 : (L.map Prod.fst)[j]'(by simp; omega) = (l.take n)[j]'(by simp; omega) := by simp only [hm]
    simpa using h1.symm
  rw [e] at c0 c1 c2 c3 c4 c5 c6
  obtain ⟨g0, g1, g2⟩ := rc_get (q := L) (i := j) (by omega)
  exact ⟨hb, hlt, c0, c1, c2, c4, c6, (hr.cellAt _ (by omega)).trans g0, (hr.cellAt _ (by omega)).trans g1, (hr.cellAt _ (by omega)).trans g2⟩
theorem map_fst_get {L : Rn} {l : List SV} {n : Nat} (hm : L.map Prod.fst = l.take n) (hL : L.length = n) (j : Nat) (hj : j < n) (hjl : j < l.length) : (L[j]'(by omega)).1 = l[j] := by
  have h1 : (L.map Prod.fst)[j]'(by simp; omega) = (l.take n)[j]'(by simp; omega) := by simp only [hm]
  simpa using h1

theorem after_append {w W3 w4 : World} {g k bs off gg cap : Nat} {d1 : Nt} {M3 : Nat → Prop} {L : Rn} {l : List SV} {A3 : Option Addr} {c3 : Nat} {X : SV} {re : Int} {rt : Tx} {ro : Bool} {o : Obj} (HT3 : Tr w g d1 M3 W3) (HR3 : SafeRow M3 w.heap.size 43 3 (.slice A3 k c3) k (rc L) W3)
    (hown1 : w4.ownsRow w.heap.size 43 3 (.slice (some ⟨gg, 0, none⟩) (k + 1) cap) (k + 1) (rc L ++ [.int .i64 re, .string (str rt), .bool ro])) (hgrow : (W3.alloc o).grownBy w4 (Value.slice A3 k c3).ownBlock)
    (hat : (Value.slice A3 k c3).ownBlock = some gg ∨ gg = W3.heap.size + 1) (hLk : L.length = k) (hm : (L ++ [(X, (⟨re, rt, ro⟩ : RV))]).map Prod.fst = l.take (k + 1)) (hs : StepsAt w (some ⟨bs, off, none⟩) l) (hlt : k < l.length) :
    Tr w g d1 M3 w4 ∧ SafeRow M3 w.heap.size 43 3 (.slice (some ⟨gg, 0, none⟩) (k + 1) cap) (k + 1) (rc (L ++ [(X, ⟨re, rt, ro⟩)])) w4 ∧ (L ++ [(X, (⟨re, rt, ro⟩ : RV))]).length = k + 1 ∧
    (∀ (j : Nat) (hj : j < (L ++ [(X, (⟨re, rt, ro⟩ : RV))]).length), At w4 bs off gg j ((L ++ [(X, (⟨re, rt, ro⟩ : RV))])[j]).1 ((L ++ [(X, (⟨re, rt, ro⟩ : RV))])[j]).2) ∧ At w4 bs off gg k X ⟨re, rt, ro⟩ := by
  have own4 : w4.ownsRow w.heap.size 43 3 (.slice (some ⟨gg, 0, none⟩) (k + 1) cap) (k + 1) (rc (L ++ [(X, ⟨re, rt, ro⟩)])) := by rw [rc_snoc]; exact hown1
  have ht4 := (HT3.below ((Below.refl W3.heap.size W3).alloc (Nat.le_refl _) o)).grown hgrow (fun q hq => ⟨(HR3.own.lt q hq).1, HR3.no q hq⟩)
  have hL1 : (L ++ [(X, (⟨re, rt, ro⟩ : RV))]).length = k + 1 := by rw [List.length_append, hLk]; rfl
  have hall : ∀ (j : Nat) (hj : j < (L ++ [(X, (⟨re, rt, ro⟩ : RV))]).length), At w4 bs off gg j ((L ++ [(X, (⟨re, rt, ro⟩ : RV))])[j]).1 ((L ++ [(X, (⟨re, rt, ro⟩ : RV))])[j]).2 := fun j hj => At.of (hs.below ht4.low) own4 hL1 hm j (by omega) (by omega)
  refine ⟨ht4, ⟨own4, fun q hq m => ?_⟩, hL1, hall, ?_⟩
  · have e : gg = q := by simpa [Value.ownBlock] using hq
    subst e
    rcases hat with h | h
    · exact HR3.no _ h m
    · have := (HT3.lt _ m).2; omega
  · have h := hall k (by omega)
    subst hLk
    simpa using h

set_option maxHeartbeats 16000000 in
theorem honest_walk (nodes : Int) (A : Option Addr) (c : Nat) (l : List SV) (w : World) (hnd : -9223372036854775808 ≤ nodes ∧ nodes ≤ 9223372036854775807) (hs : StepsAt w A l) (hl : l.length ≤ 9223372036854775807) (hab64 : ∀ x ∈ l, B64 x.a ∧ B64 x.b) :
    Calls Try.prog 8 #[.int .i64 nodes, .slice A l.length c] w fun e w' => e = .returned (.bool true) ∧ Below w.heap.size w w' := by
  have HH := Lib.hid (head_any w)
  have HS := Lib.hid hs
  have HL := Lib.hid hl
  have HX := Lib.hid hab64
  clear hs hab64 hnd
  by_cases hn : 1 ≤ nodes ∧ nodes ≤ 8
  · obtain ⟨n1, n8⟩ := hn
    go_enter Try.func8, Try.ntmps8
    go_wp2_with fail
    (with_reducible refine HH.out.mono ?_); rintro e w1 ⟨rfl, hb1⟩
    have hnew := Lib.hid (tr_new (w0 := w) (W := w1) nodes n1 n8 hb1)
    clear hb1 HH
    go_wp2_with fail
    refine hnew.out.mono ?_
    rintro e W0 ⟨g, M0, rfl, ht0, hM0, _⟩
    have HT0 := Lib.hid ht0
    have hf := Lib.hid (few_any A c l W0 (HS.out.below ht0.low) HL.out)
    clear hnew ht0 hM0 n1 n8
    go_wp2_with fail
    (with_reducible refine hf.out.mono ?_); rintro e W2 ⟨rfl, hb2⟩
    have HTn := Lib.hid (HT0.out.below hb2)
    clear hb2 HT0 hf
    cases hfw : fewS l
    · have low := Lib.hid HTn.out.low
      clear HTn
      go_wp2_with fail
      go_ret
      exact ⟨rfl, low.out⟩
    · have h150 := (fewI.1 hfw).1
      clear hfw
      go_wp2_with fail
      go_loopw [8, 9] (fun v i wr => ∃ (k : Nat) (M : Nat → Prop) (d : Nt) (L : Rn), k ≤ l.length ∧ i = .int .i64 k ∧ L.map Prod.fst = l.take k ∧ (∃ A c, v = .slice A k c) ∧ Tr w g d M wr ∧ SafeRow M w.heap.size 43 3 v k (rc L) wr ∧ Inv d L) (fun _ i _ => l.length - (intOf i).toNat)
      case atStart => exact ⟨0, M0, _, [], Nat.zero_le _, rfl, rfl, ⟨none, 0, rfl⟩, HTn.out, ⟨⟨rfl, .inl ⟨rfl, rfl⟩⟩, fun k h => by simp [Value.ownBlock] at h⟩, inv_new _⟩
      case round =>
        obtain ⟨k, M, d, L, hk, rfl, hmap, ⟨A3, c3, rfl⟩, htr, hrow, hinv⟩ := hrel
        clear HTn
        by_cases hlt : k < l.length
        · obtain ⟨bs, off, hA, hbs, c0, c1, c2, c3', c4, c5, c6⟩ := (HS.out.below htr.low).get k hlt
          have hki : (k : Int) < (l.length : Int) := by omega
          have hk0 : (0 : Int) ≤ (k : Int) := by omega
          have hx64 := HX.out l[k] (List.getElem_mem hlt)
          have Q := tr_do l[k] hx64.1 hx64.2 htr
          obtain ⟨X, hX⟩ : ∃ X, X = l[k] := ⟨_, rfl⟩
          have hLk : L.length = k := by have := congrArg List.length hmap; simp at this; omega
          have hmap1 : (L ++ [(X, (doN d X).1)]).map Prod.fst = l.take (k + 1) := by
            rw [List.map_append, hmap, hX]
            exact List.take_append_getElem hlt
          have hinv1 := hinv.step X
          have hok1 := hinv.ok X
          rw [← hX] at Q hx64 c0 c1 c2 c3' c4 c5 c6
          obtain ⟨kind, xa, xb, xn, xt, xl, xg⟩ := X
          simp only at hx64 c0 c1 c2 c3' c4 c5 c6
          unfold stepV at Q
          simp only at Q
          obtain ⟨r, hr⟩ : ∃ r, r = (doN d ⟨kind, xa, xb, xn, xt, xl, xg⟩).1 := ⟨_, rfl⟩
          rw [← hr] at Q hmap1 hinv1 hok1
          generalize (doN d ⟨kind, xa, xb, xn, xt, xl, xg⟩).2 = d1 at Q hinv1
          obtain ⟨re, rt, ro⟩ := r
          unfold resV at Q
          simp only at Q hok1
          have HQ := Lib.hid Q
          have HTn := Lib.hid htr
          have HRow := Lib.hid hrow
          have HM1 := Lib.hid hmap1
          have HI1 := Lib.hid hinv1
          have HK1 := Lib.hid hok1
          have HLk := Lib.hid hLk
          clear htr hrow hinv hmap hX Q hmap1 hinv1 hok1 hr hLk
          subst hA
          go_wp2_with fail
          refine HQ.out.mono ?_
          rintro e W3 ⟨rfl, M3, ht3, hm3⟩
          obtain ⟨i0, hi0, hz0, hz1, hz2⟩ := info_parts info_res
          have hr3 := HRow.out.moved hm3
          have HR3 := Lib.hid hr3
          have HT3 := Lib.hid ht3
          have hB3 : w.heap.size ≤ W3.heap.size := ht3.low.size
          clear hr3 ht3 hm3 HQ HTn HRow c0 c1 c2 c3' c4 c5 c6 hbs
          by_cases hk1 : kind = 1
          · subst hk1
            cases ro
            · go_wp2_with (
                                       at_builtin; refine wpList_append_lies _ (by rfl) _ _ _ (by rfl) w.heap.size 43 i0 _ 3 32 Try.underlying52 hi0 hz0 hz1 hz2 rfl (by omega) (.slice A3 k c3) k (rc L) (by rfl) (HR3.out.own.alloc _) ⟨W3.heap.size, 0, none⟩ 1 1 [.int .i64 re, .string (str rt), .bool false] (by rfl) (by rfl) (World.news_of_block (cs := #[.int .i64 re, .string (str rt), .bool false]) (t := 43) (fr := (0, 0)) (heap_alloc_new W3 _)) (by simp [Value.oneCell']) (by omega) (by unfold maxLen; omega) (by omega) (by simp; omega) (W3.heap.size + 1) (by simp) ?_
                                       intro gg cap w4 hown1 hgrow hat hltg
                                       obtain ⟨ht4, hr4, hL1, hall, at4⟩ := after_append HT3.out HR3.out hown1 hgrow hat HLk.out HM1.out HS.out hlt
                                       have HAll := Lib.hid hall
                                       have HATk := Lib.hid at4
                                       obtain ⟨z1, z2, c0, c1, c2, c3, c4, c5, c6, c7⟩ := at4
                                       simp only at c0 c1 c2 c3 c4 c5 c6 c7
                                       have HR4 := Lib.hid hr4
                                       have HT4 := Lib.hid ht4
                                       have HL1 := Lib.hid hL1
                                       clear ht4 hr4 hL1 hall hown1 hgrow hat HT3)
              exact ⟨⟨k + 1, M3, d1, L ++ [(⟨1, xa, xb, xn, xt, xl, xg⟩, ⟨re, rt, false⟩)], by omega, by go_num, HM1.out, ⟨_, _, rfl⟩, HT4.out, HR4.out, HI1.out⟩, by simp [intOf]; omega⟩
            · go_wp2_with (
                                       at_builtin; refine wpList_append_lies _ (by rfl) _ _ _ (by rfl) w.heap.size 43 i0 _ 3 32 Try.underlying52 hi0 hz0 hz1 hz2 rfl (by omega) (.slice A3 k c3) k (rc L) (by rfl) (HR3.out.own.alloc _) ⟨W3.heap.size, 0, none⟩ 1 1 [.int .i64 re, .string (str rt), .bool true] (by rfl) (by rfl) (World.news_of_block (cs := #[.int .i64 re, .string (str rt), .bool true]) (t := 43) (fr := (0, 0)) (heap_alloc_new W3 _)) (by simp [Value.oneCell']) (by omega) (by unfold maxLen; omega) (by omega) (by simp; omega) (W3.heap.size + 1) (by simp) ?_
                                       intro gg cap w4 hown1 hgrow hat hltg
                                       obtain ⟨ht4, hr4, hL1, hall, at4⟩ := after_append HT3.out HR3.out hown1 hgrow hat HLk.out HM1.out HS.out hlt
                                       have HAll := Lib.hid hall
                                       have HATk := Lib.hid at4
                                       obtain ⟨z1, z2, c0, c1, c2, c3, c4, c5, c6, c7⟩ := at4
                                       simp only at c0 c1 c2 c3 c4 c5 c6 c7
                                       have HR4 := Lib.hid hr4
                                       have HT4 := Lib.hid ht4
                                       have HL1 := Lib.hid hL1
                                       clear ht4 hr4 hL1 hall hown1 hgrow hat HT3)
              go_loopw [10, 11, 12, 13] (fun s gt kn j wr2 => ∃ (sn gn jn : Nat), jn ≤ k + 1 ∧ j = .int .i64 jn ∧ s = .int .i64 sn ∧ gt = .int .i64 gn ∧ sn ≤ jn ∧ gn ≤ jn ∧ ((L ++ [((⟨1, xa, xb, xn, xt, xl, xg⟩ : SV), (⟨re, rt, true⟩ : RV))]).take jn).countP (sentB xa xb) = sn ∧ ((L ++ [((⟨1, xa, xb, xn, xt, xl, xg⟩ : SV), (⟨re, rt, true⟩ : RV))]).take jn).countP (gotB xa xb) = gn ∧ kn = .bool (((L ++ [((⟨1, xa, xb, xn, xt, xl, xg⟩ : SV), (⟨re, rt, true⟩ : RV))]).take jn).any (knownB xa xb rt)) ∧ Below w4.heap.size w4 wr2) (fun _ _ _ j _ => k + 1 - (intOf j).toNat)
              case atStart => exact ⟨0, 0, 0, Nat.zero_le _, rfl, rfl, rfl, Nat.zero_le _, Nat.zero_le _, rfl, rfl, rfl, Below.refl _ _⟩
              case round =>
                obtain ⟨sn, gn, jn, hjn, rfl, rfl, rfl, hsn, hgn, hcs, hcg, rfl, hW2⟩ := hrel
                have HCS := Lib.hid hcs
                have HCG := Lib.hid hcg
                have HW2 := Lib.hid hW2
                clear hcs hcg hW2 z1 z2 c0 c1 c2 c3 c4 c5 c6 c7
                by_cases hjk : jn ≤ k
                · have hjl : jn < (L ++ [((⟨1, xa, xb, xn, xt, xl, xg⟩ : SV), (⟨re, rt, true⟩ : RV))]).length := by have := HL1.out; omega
                  have hat := (HAll.out jn hjl).below HW2.out
                  have hts : (L ++ [((⟨1, xa, xb, xn, xt, xl, xg⟩ : SV), (⟨re, rt, true⟩ : RV))]).take (jn + 1) = (L ++ [((⟨1, xa, xb, xn, xt, xl, xg⟩ : SV), (⟨re, rt, true⟩ : RV))]).take jn ++ [(L ++ [((⟨1, xa, xb, xn, xt, xl, xg⟩ : SV), (⟨re, rt, true⟩ : RV))])[jn]] := (List.take_append_getElem hjl).symm
                  generalize (L ++ [((⟨1, xa, xb, xn, xt, xl, xg⟩ : SV), (⟨re, rt, true⟩ : RV))])[jn] = p at hat hts
                  obtain ⟨⟨yk, ya, yb, yn, yt, yl, yg⟩, ⟨se, st, so⟩⟩ := p
                  have HTS := Lib.hid hts
                  have HATj := Lib.hid hat
                  have HATk2 := Lib.hid (HATk.out.below HW2.out)
                  obtain ⟨z1, z2, c0, c1, c2, c3, c4, c5, c6, c7⟩ := HATk2.out
                  obtain ⟨y1, y2, b0, b1, b2, b3, b4, b5, b6, b7⟩ := hat
                  simp only at c0 c1 c2 c3 c4 c5 c6 c7 b0 b1 b2 b3 b4 b5 b6 b7
                  clear hts hjl
                  have hjki : (jn : Int) ≤ (k : Int) := by omega
                  have hjk1 : (jn : Int) < (k : Int) + 1 := by omega
                  have hj0 : (0 : Int) ≤ (jn : Int) := by omega
                  have hkk : (k : Int) < (k : Int) + 1 := by omega
                  have hjl : (jn : Int) < (l.length : Int) := by omega
                  obtain ⟨KN, hKN⟩ : ∃ KN, ((L ++ [((⟨1, xa, xb, xn, xt, xl, xg⟩ : SV), (⟨re, rt, true⟩ : RV))]).take jn).any (knownB xa xb rt) = KN := ⟨_, rfl⟩
                  rw [hKN]
                  have HKN := Lib.hid hKN
                  clear hKN
                  cases ha1 : (ya == xa)
                  · have ha1' : (ya != xa) = true := by unfold bne; rw [ha1]; rfl
                    have hv1 : sentB xa xb ((⟨yk, ya, yb, yn, yt, yl, yg⟩ : SV), (⟨se, st, so⟩ : RV)) = false := by simp [sentB, ha1]
                    have hv2 : gotB xa xb ((⟨yk, ya, yb, yn, yt, yl, yg⟩ : SV), (⟨se, st, so⟩ : RV)) = false := by simp [gotB, ha1]
                    have hv3 : knownB xa xb rt ((⟨yk, ya, yb, yn, yt, yl, yg⟩ : SV), (⟨se, st, so⟩ : RV)) = false := by simp [knownB, sentB, ha1]
                    have HV1 := Lib.hid hv1
                    have HV2 := Lib.hid hv2
                    have HV3 := Lib.hid hv3
                    clear hv1 hv2 hv3
                    go_wp2_with fail
                    refine Reg.wp_region_seq (by kernel_rfl) (by kernel_rfl) ?_
                    simp only
                    iterate 24
                      apply Reg.SeqOK.val
                      · intro γ W hW K hK
                        obtain ⟨hc, hf, _⟩ := bcell hW
                        simp only [Act.put, List.setIfInBounds_toArray, List.set_cons_zero, List.set_cons_succ] at hK
                        unfold Reg.Does
                        go_simp
                        try simp only [IntWalk.i64_left]
                        first
                          | exact hK _ (Below.refl _ _)
                      simp only [Act.put, List.setIfInBounds_toArray, List.set_cons_zero, List.set_cons_succ, List.nil_append, List.cons_append, Nat.reduceAdd, Nat.zero_add]
                    refine Reg.SeqOK.nil (by kernel_rfl) (fun γ W hW _ _ _ => ?_)
                    have HW3 := Lib.hid (HW2.out.trans (hW.mono HW2.out.size))
                    go_wp2_with fail
                    have hv1 := HV1.out
                    have hv2 := HV2.out
                    have hv3 := HV3.out
                    exact ⟨⟨sn, gn, jn + 1, by omega, by go_num, by first | rfl | go_num, by first | rfl | go_num, by omega, by omega, by rw [HTS.out, count_snoc, HCS.out, hv1]; rfl, by rw [HTS.out, count_snoc, HCG.out, hv2]; rfl, congrArg Value.bool (by rw [HTS.out, any_snoc, HKN.out, hv3]; first | rfl | (symm; exact Bool.or_false _)), HW3.out⟩, by simp [intOf]; omega⟩
                  · have ha1' : (ya != xa) = false := by unfold bne; rw [ha1]; rfl
                    cases hb1 : (yb == xb)
                    · have hb1' : (yb != xb) = true := by unfold bne; rw [hb1]; rfl
                      have hv1 : sentB xa xb ((⟨yk, ya, yb, yn, yt, yl, yg⟩ : SV), (⟨se, st, so⟩ : RV)) = false := by simp [sentB, ha1, hb1]
                      have hv2 : gotB xa xb ((⟨yk, ya, yb, yn, yt, yl, yg⟩ : SV), (⟨se, st, so⟩ : RV)) = false := by simp [gotB, ha1, hb1]
                      have hv3 : knownB xa xb rt ((⟨yk, ya, yb, yn, yt, yl, yg⟩ : SV), (⟨se, st, so⟩ : RV)) = false := by simp [knownB, sentB, ha1, hb1]
                      have HV1 := Lib.hid hv1
                      have HV2 := Lib.hid hv2
                      have HV3 := Lib.hid hv3
                      clear hv1 hv2 hv3
                      go_wp2_with fail
                      refine Reg.wp_region_seq (by kernel_rfl) (by kernel_rfl) ?_
                      simp only
                      iterate 24
                        apply Reg.SeqOK.val
                        · intro γ W hW K hK
                          obtain ⟨hc, hf, _⟩ := bcell hW
                          simp only [Act.put, List.setIfInBounds_toArray, List.set_cons_zero, List.set_cons_succ] at hK
                          unfold Reg.Does
                          go_simp
                          try simp only [IntWalk.i64_left]
                          first
                            | exact hK _ (Below.refl _ _)
                        simp only [Act.put, List.setIfInBounds_toArray, List.set_cons_zero, List.set_cons_succ, List.nil_append, List.cons_append, Nat.reduceAdd, Nat.zero_add]
                      refine Reg.SeqOK.nil (by kernel_rfl) (fun γ W hW _ _ _ => ?_)
                      have HW3 := Lib.hid (HW2.out.trans (hW.mono HW2.out.size))
                      go_wp2_with fail
                      have hv1 := HV1.out
                      have hv2 := HV2.out
                      have hv3 := HV3.out
                      exact ⟨⟨sn, gn, jn + 1, by omega, by go_num, by first | rfl | go_num, by first | rfl | go_num, by omega, by omega, by rw [HTS.out, count_snoc, HCS.out, hv1]; rfl, by rw [HTS.out, count_snoc, HCG.out, hv2]; rfl, congrArg Value.bool (by rw [HTS.out, any_snoc, HKN.out, hv3]; first | rfl | (symm; exact Bool.or_false _)), HW3.out⟩, by simp [intOf]; omega⟩
                    · have hb1' : (yb != xb) = false := by unfold bne; rw [hb1]; rfl
                      go_wp2_with fail
                      refine Reg.wp_region_seq (by kernel_rfl) (by kernel_rfl) ?_
                      simp only
                      iterate 24
                        apply Reg.SeqOK.val
                        · intro γ W hW K hK
                          obtain ⟨hc, hf, _⟩ := bcell hW
                          simp only [Act.put, List.setIfInBounds_toArray, List.set_cons_zero, List.set_cons_succ] at hK
                          unfold Reg.Does
                          go_simp
                          try simp only [IntWalk.i64_left]
                          first
                            | exact hK _ (Below.refl _ _)
                        simp only [Act.put, List.setIfInBounds_toArray, List.set_cons_zero, List.set_cons_succ, List.nil_append, List.cons_append, Nat.reduceAdd, Nat.zero_add]
                      refine Reg.SeqOK.nil (by kernel_rfl) (fun γ W hW _ _ _ => ?_)
                      have HATj2 := Lib.hid (HATj.out.below hW)
                      have HATk3 := Lib.hid (HATk2.out.below hW)
                      have HW3 := Lib.hid (HW2.out.trans (hW.mono HW2.out.size))
                      obtain ⟨z1, z2, c0, c1, c2, c3, c4, c5, c6, c7⟩ := HATk3.out
                      obtain ⟨y1, y2, b0, b1, b2, b3, b4, b5, b6, b7⟩ := HATj2.out
                      simp only at c0 c1 c2 c3 c4 c5 c6 c7 b0 b1 b2 b3 b4 b5 b6 b7
                      clear HATj HATk2 HW2 hW
                      by_cases hy0 : yk = 0
                      · subst hy0
                        cases he0 : (se == 0)
                        · have hv1 : sentB xa xb ((⟨0, ya, yb, yn, yt, yl, yg⟩ : SV), (⟨se, st, so⟩ : RV)) = false := by simp [sentB, ha1, hb1, he0]
                          have hv2 : gotB xa xb ((⟨0, ya, yb, yn, yt, yl, yg⟩ : SV), (⟨se, st, so⟩ : RV)) = false := by simp [gotB, ha1, hb1, he0]
                          have hv3 : knownB xa xb rt ((⟨0, ya, yb, yn, yt, yl, yg⟩ : SV), (⟨se, st, so⟩ : RV)) = false := by simp [knownB, sentB, ha1, hb1, he0]
                          have HV1 := Lib.hid hv1
                          have HV2 := Lib.hid hv2
                          have HV3 := Lib.hid hv3
                          clear hv1 hv2 hv3
                          go_wp2_with fail
                          have hv1 := HV1.out
                          have hv2 := HV2.out
                          have hv3 := HV3.out
                          exact ⟨⟨sn, gn, jn + 1, by omega, by go_num, by first | rfl | go_num, by first | rfl | go_num, by omega, by omega, by rw [HTS.out, count_snoc, HCS.out, hv1]; rfl, by rw [HTS.out, count_snoc, HCG.out, hv2]; rfl, congrArg Value.bool (by rw [HTS.out, any_snoc, HKN.out, hv3]; first | rfl | (symm; exact Bool.or_false _)), HW3.out⟩, by simp [intOf]; omega⟩
                        · cases KN
                          · cases hyt : (yt == rt)
                            · have e1 : ((str yt).toList == (str rt).toList) = false := by rw [str_toList, str_toList]; exact hyt
                              have hv1 : sentB xa xb ((⟨0, ya, yb, yn, yt, yl, yg⟩ : SV), (⟨se, st, so⟩ : RV)) = true := by simp [sentB, ha1, hb1, he0, hyt]
                              have hv2 : gotB xa xb ((⟨0, ya, yb, yn, yt, yl, yg⟩ : SV), (⟨se, st, so⟩ : RV)) = false := by simp [gotB, ha1, hb1, he0, hyt]
                              have hv3 : knownB xa xb rt ((⟨0, ya, yb, yn, yt, yl, yg⟩ : SV), (⟨se, st, so⟩ : RV)) = false := by simp [knownB, sentB, ha1, hb1, he0, hyt]
                              have HV1 := Lib.hid hv1
                              have HV2 := Lib.hid hv2
                              have HV3 := Lib.hid hv3
                              clear hv1 hv2 hv3
                              go_wp2_with fail
                              refine Reg.wp_region_seq (by kernel_rfl) (by kernel_rfl) ?_
                              simp only
                              iterate 15
                                apply Reg.SeqOK.val
                                · intro γ W hW K hK
                                  obtain ⟨hc, hf, _⟩ := bcell hW
                                  simp only [Act.put, List.setIfInBounds_toArray, List.set_cons_zero, List.set_cons_succ] at hK
                                  unfold Reg.Does
                                  go_simp
                                  try simp only [IntWalk.i64_left]
                                  first
                                    | exact hK _ (Below.refl _ _)
                                simp only [Act.put, List.setIfInBounds_toArray, List.set_cons_zero, List.set_cons_succ, List.nil_append, List.cons_append, Nat.reduceAdd, Nat.zero_add]
                              refine Reg.SeqOK.nil (by kernel_rfl) (fun γ W hW _ _ _ => ?_)
                              have HATj4 := Lib.hid (HATj2.out.below hW)
                              have HATk4 := Lib.hid (HATk3.out.below hW)
                              have HW4 := Lib.hid (HW3.out.trans (hW.mono HW3.out.size))
                              obtain ⟨z1, z2, c0, c1, c2, c3, c4, c5, c6, c7⟩ := HATk4.out
                              obtain ⟨y1, y2, b0, b1, b2, b3, b4, b5, b6, b7⟩ := HATj4.out
                              simp only at c0 c1 c2 c3 c4 c5 c6 c7 b0 b1 b2 b3 b4 b5 b6 b7
                              clear HATj2 HATk3 HW3 hW
                              go_wp2_with fail
                              have hv1 := HV1.out
                              have hv2 := HV2.out
                              have hv3 := HV3.out
                              exact ⟨⟨sn + 1, gn, jn + 1, by omega, by go_num, by first | rfl | go_num, by first | rfl | go_num, by omega, by omega, by rw [HTS.out, count_snoc, HCS.out, hv1]; rfl, by rw [HTS.out, count_snoc, HCG.out, hv2]; rfl, congrArg Value.bool (by rw [HTS.out, any_snoc, HKN.out, hv3]; first | rfl | (symm; exact Bool.or_false _)), HW4.out⟩, by simp [intOf]; omega⟩
                            · have e1 : ((str yt).toList == (str rt).toList) = true := by rw [str_toList, str_toList]; exact hyt
                              have hv1 : sentB xa xb ((⟨0, ya, yb, yn, yt, yl, yg⟩ : SV), (⟨se, st, so⟩ : RV)) = true := by simp [sentB, ha1, hb1, he0, hyt]
                              have hv2 : gotB xa xb ((⟨0, ya, yb, yn, yt, yl, yg⟩ : SV), (⟨se, st, so⟩ : RV)) = false := by simp [gotB, ha1, hb1, he0, hyt]
                              have hv3 : knownB xa xb rt ((⟨0, ya, yb, yn, yt, yl, yg⟩ : SV), (⟨se, st, so⟩ : RV)) = true := by simp [knownB, sentB, ha1, hb1, he0, hyt]
                              have HV1 := Lib.hid hv1
                              have HV2 := Lib.hid hv2
                              have HV3 := Lib.hid hv3
                              clear hv1 hv2 hv3
                              go_wp2_with fail
                              refine Reg.wp_region_seq (by kernel_rfl) (by kernel_rfl) ?_
                              simp only
                              iterate 15
                                apply Reg.SeqOK.val
                                · intro γ W hW K hK
                                  obtain ⟨hc, hf, _⟩ := bcell hW
                                  simp only [Act.put, List.setIfInBounds_toArray, List.set_cons_zero, List.set_cons_succ] at hK
                                  unfold Reg.Does
                                  go_simp
                                  try simp only [IntWalk.i64_left]
                                  first
                                    | exact hK _ (Below.refl _ _)
                                simp only [Act.put, List.setIfInBounds_toArray, List.set_cons_zero, List.set_cons_succ, List.nil_append, List.cons_append, Nat.reduceAdd, Nat.zero_add]
                              refine Reg.SeqOK.nil (by kernel_rfl) (fun γ W hW _ _ _ => ?_)
                              have HATj4 := Lib.hid (HATj2.out.below hW)
                              have HATk4 := Lib.hid (HATk3.out.below hW)
                              have HW4 := Lib.hid (HW3.out.trans (hW.mono HW3.out.size))
                              obtain ⟨z1, z2, c0, c1, c2, c3, c4, c5, c6, c7⟩ := HATk4.out
                              obtain ⟨y1, y2, b0, b1, b2, b3, b4, b5, b6, b7⟩ := HATj4.out
                              simp only at c0 c1 c2 c3 c4 c5 c6 c7 b0 b1 b2 b3 b4 b5 b6 b7
                              clear HATj2 HATk3 HW3 hW
                              go_wp2_with fail
                              have hv1 := HV1.out
                              have hv2 := HV2.out
                              have hv3 := HV3.out
                              exact ⟨⟨sn + 1, gn, jn + 1, by omega, by go_num, by first | rfl | go_num, by first | rfl | go_num, by omega, by omega, by rw [HTS.out, count_snoc, HCS.out, hv1]; rfl, by rw [HTS.out, count_snoc, HCG.out, hv2]; rfl, congrArg Value.bool (by rw [HTS.out, any_snoc, HKN.out, hv3]; first | rfl | (symm; exact Bool.or_false _)), HW4.out⟩, by simp [intOf]; omega⟩
                          · have hv1 : sentB xa xb ((⟨0, ya, yb, yn, yt, yl, yg⟩ : SV), (⟨se, st, so⟩ : RV)) = true := by simp [sentB, ha1, hb1, he0]
                            have hv2 : gotB xa xb ((⟨0, ya, yb, yn, yt, yl, yg⟩ : SV), (⟨se, st, so⟩ : RV)) = false := by simp [gotB, ha1, hb1, he0]
                            have hv3 : knownB xa xb rt ((⟨0, ya, yb, yn, yt, yl, yg⟩ : SV), (⟨se, st, so⟩ : RV)) = (yt == rt) := by simp [knownB, sentB, ha1, hb1, he0]
                            have HV1 := Lib.hid hv1
                            have HV2 := Lib.hid hv2
                            have HV3 := Lib.hid hv3
                            clear hv1 hv2 hv3
                            go_wp2_with fail
                            refine Reg.wp_region_seq (by kernel_rfl) (by kernel_rfl) ?_
                            simp only
                            iterate 15
                              apply Reg.SeqOK.val
                              · intro γ W hW K hK
                                obtain ⟨hc, hf, _⟩ := bcell hW
                                simp only [Act.put, List.setIfInBounds_toArray, List.set_cons_zero, List.set_cons_succ] at hK
                                unfold Reg.Does
                                go_simp
                                try simp only [IntWalk.i64_left]
                                first
                                  | exact hK _ (Below.refl _ _)
                              simp only [Act.put, List.setIfInBounds_toArray, List.set_cons_zero, List.set_cons_succ, List.nil_append, List.cons_append, Nat.reduceAdd, Nat.zero_add]
                            refine Reg.SeqOK.nil (by kernel_rfl) (fun γ W hW _ _ _ => ?_)
                            have HATj4 := Lib.hid (HATj2.out.below hW)
                            have HATk4 := Lib.hid (HATk3.out.below hW)
                            have HW4 := Lib.hid (HW3.out.trans (hW.mono HW3.out.size))
                            obtain ⟨z1, z2, c0, c1, c2, c3, c4, c5, c6, c7⟩ := HATk4.out
                            obtain ⟨y1, y2, b0, b1, b2, b3, b4, b5, b6, b7⟩ := HATj4.out
                            simp only at c0 c1 c2 c3 c4 c5 c6 c7 b0 b1 b2 b3 b4 b5 b6 b7
                            clear HATj2 HATk3 HW3 hW
                            go_wp2_with fail
                            have hv1 := HV1.out
                            have hv2 := HV2.out
                            have hv3 := HV3.out
                            exact ⟨⟨sn + 1, gn, jn + 1, by omega, by go_num, by first | rfl | go_num, by first | rfl | go_num, by omega, by omega, by rw [HTS.out, count_snoc, HCS.out, hv1]; rfl, by rw [HTS.out, count_snoc, HCG.out, hv2]; rfl, congrArg Value.bool (by rw [HTS.out, any_snoc, HKN.out, hv3]; first | rfl | (symm; exact Bool.or_false _)), HW4.out⟩, by simp [intOf]; omega⟩
                      · have hy0' : (yk == 0) = false := by simpa using hy0
                        by_cases hy1 : yk = 1
                        · subst hy1
                          cases so
                          · have hv1 : sentB xa xb ((⟨1, ya, yb, yn, yt, yl, yg⟩ : SV), (⟨se, st, false⟩ : RV)) = false := by simp [sentB, ha1, hb1]
                            have hv2 : gotB xa xb ((⟨1, ya, yb, yn, yt, yl, yg⟩ : SV), (⟨se, st, false⟩ : RV)) = false := by simp [gotB, ha1, hb1]
                            have hv3 : knownB xa xb rt ((⟨1, ya, yb, yn, yt, yl, yg⟩ : SV), (⟨se, st, false⟩ : RV)) = false := by simp [knownB, sentB, ha1, hb1]
                            have HV1 := Lib.hid hv1
                            have HV2 := Lib.hid hv2
                            have HV3 := Lib.hid hv3
                            clear hv1 hv2 hv3
                            go_wp2_with fail
                            have hv1 := HV1.out
                            have hv2 := HV2.out
                            have hv3 := HV3.out
                            exact ⟨⟨sn, gn, jn + 1, by omega, by go_num, by first | rfl | go_num, by first | rfl | go_num, by omega, by omega, by rw [HTS.out, count_snoc, HCS.out, hv1]; rfl, by rw [HTS.out, count_snoc, HCG.out, hv2]; rfl, congrArg Value.bool (by rw [HTS.out, any_snoc, HKN.out, hv3]; first | rfl | (symm; exact Bool.or_false _)), HW3.out⟩, by simp [intOf]; omega⟩
                          · cases yg
                            · have hv1 : sentB xa xb ((⟨1, ya, yb, yn, yt, yl, false⟩ : SV), (⟨se, st, true⟩ : RV)) = false := by simp [sentB, ha1, hb1]
                              have hv2 : gotB xa xb ((⟨1, ya, yb, yn, yt, yl, false⟩ : SV), (⟨se, st, true⟩ : RV)) = true := by simp [gotB, ha1, hb1]
                              have hv3 : knownB xa xb rt ((⟨1, ya, yb, yn, yt, yl, false⟩ : SV), (⟨se, st, true⟩ : RV)) = false := by simp [knownB, sentB, ha1, hb1]
                              have HV1 := Lib.hid hv1
                              have HV2 := Lib.hid hv2
                              have HV3 := Lib.hid hv3
                              clear hv1 hv2 hv3
                              go_wp2_with fail
                              have hv1 := HV1.out
                              have hv2 := HV2.out
                              have hv3 := HV3.out
                              exact ⟨⟨sn, gn + 1, jn + 1, by omega, by go_num, by first | rfl | go_num, by first | rfl | go_num, by omega, by omega, by rw [HTS.out, count_snoc, HCS.out, hv1]; rfl, by rw [HTS.out, count_snoc, HCG.out, hv2]; rfl, congrArg Value.bool (by rw [HTS.out, any_snoc, HKN.out, hv3]; first | rfl | (symm; exact Bool.or_false _)), HW3.out⟩, by simp [intOf]; omega⟩
                            · have hv1 : sentB xa xb ((⟨1, ya, yb, yn, yt, yl, true⟩ : SV), (⟨se, st, true⟩ : RV)) = false := by simp [sentB, ha1, hb1]
                              have hv2 : gotB xa xb ((⟨1, ya, yb, yn, yt, yl, true⟩ : SV), (⟨se, st, true⟩ : RV)) = false := by simp [gotB, ha1, hb1]
                              have hv3 : knownB xa xb rt ((⟨1, ya, yb, yn, yt, yl, true⟩ : SV), (⟨se, st, true⟩ : RV)) = false := by simp [knownB, sentB, ha1, hb1]
                              have HV1 := Lib.hid hv1
                              have HV2 := Lib.hid hv2
                              have HV3 := Lib.hid hv3
                              clear hv1 hv2 hv3
                              go_wp2_with fail
                              have hv1 := HV1.out
                              have hv2 := HV2.out
                              have hv3 := HV3.out
                              exact ⟨⟨sn, gn, jn + 1, by omega, by go_num, by first | rfl | go_num, by first | rfl | go_num, by omega, by omega, by rw [HTS.out, count_snoc, HCS.out, hv1]; rfl, by rw [HTS.out, count_snoc, HCG.out, hv2]; rfl, congrArg Value.bool (by rw [HTS.out, any_snoc, HKN.out, hv3]; first | rfl | (symm; exact Bool.or_false _)), HW3.out⟩, by simp [intOf]; omega⟩
                        · have hy1' : (yk == 1) = false := by simpa using hy1
                          have hv1 : sentB xa xb ((⟨yk, ya, yb, yn, yt, yl, yg⟩ : SV), (⟨se, st, so⟩ : RV)) = false := by simp [sentB, ha1, hb1, hy0, hy1]
                          have hv2 : gotB xa xb ((⟨yk, ya, yb, yn, yt, yl, yg⟩ : SV), (⟨se, st, so⟩ : RV)) = false := by simp [gotB, ha1, hb1, hy0, hy1]
                          have hv3 : knownB xa xb rt ((⟨yk, ya, yb, yn, yt, yl, yg⟩ : SV), (⟨se, st, so⟩ : RV)) = false := by simp [knownB, sentB, ha1, hb1, hy0, hy1]
                          have HV1 := Lib.hid hv1
                          have HV2 := Lib.hid hv2
                          have HV3 := Lib.hid hv3
                          clear hv1 hv2 hv3
                          go_wp2_with fail
                          have hv1 := HV1.out
                          have hv2 := HV2.out
                          have hv3 := HV3.out
                          exact ⟨⟨sn, gn, jn + 1, by omega, by go_num, by first | rfl | go_num, by first | rfl | go_num, by omega, by omega, by rw [HTS.out, count_snoc, HCS.out, hv1]; rfl, by rw [HTS.out, count_snoc, HCG.out, hv2]; rfl, congrArg Value.bool (by rw [HTS.out, any_snoc, HKN.out, hv3]; first | rfl | (symm; exact Bool.or_false _)), HW3.out⟩, by simp [intOf]; omega⟩
                · obtain rfl : jn = k + 1 := by omega
                  have ht : (L ++ [((⟨1, xa, xb, xn, xt, xl, xg⟩ : SV), (⟨re, rt, true⟩ : RV))]).take (k + 1) = (L ++ [((⟨1, xa, xb, xn, xt, xl, xg⟩ : SV), (⟨re, rt, true⟩ : RV))]) := List.take_of_length_le (by rw [HL1.out]; omega)
                  have hkn : (L ++ [((⟨1, xa, xb, xn, xt, xl, xg⟩ : SV), (⟨re, rt, true⟩ : RV))]).any (knownB xa xb rt) = true := by
                    rw [any_snoc, HK1.out (by simp) (by simp)]; rfl
                  have hcnt := HI1.out.count xa xb
                  have hcs := HCS.out
                  have hcg := HCG.out
                  rw [ht] at hcs hcg
                  rw [hcs, hcg] at hcnt
                  have hgs : ¬ (sn : Int) < (gn : Int) := by omega
                  rw [ht, hkn]
                  have HT5 := Lib.hid (HT4.out.below HW2.out)
                  have HR5 := Lib.hid (HR4.out.below HW2.out)
                  clear ht hkn hcnt hcs hcg
                  go_wp2_with fail
                  exact ⟨⟨k + 1, M3, d1, (L ++ [((⟨1, xa, xb, xn, xt, xl, xg⟩ : SV), (⟨re, rt, true⟩ : RV))]), by omega, by go_num, HM1.out, ⟨_, _, rfl⟩, HT5.out, HR5.out, HI1.out⟩, by simp [intOf]; omega⟩
          · have hk1' : (kind != 1) = true := by simpa using hk1
            go_wp2_with (
                         at_builtin; refine wpList_append_lies _ (by rfl) _ _ _ (by rfl) w.heap.size 43 i0 _ 3 32 Try.underlying52 hi0 hz0 hz1 hz2 rfl (by omega) (.slice A3 k c3) k (rc L) (by rfl) (HR3.out.own.alloc _) ⟨W3.heap.size, 0, none⟩ 1 1 [.int .i64 re, .string (str rt), .bool ro] (by rfl) (by rfl) (World.news_of_block (cs := #[.int .i64 re, .string (str rt), .bool ro]) (t := 43) (fr := (0, 0)) (heap_alloc_new W3 _)) (by simp [Value.oneCell']) (by omega) (by unfold maxLen; omega) (by omega) (by simp; omega) (W3.heap.size + 1) (by simp) ?_
                         intro gg cap w4 hown1 hgrow hat hltg
                         obtain ⟨ht4, hr4, hL1, hall, at4⟩ := after_append HT3.out HR3.out hown1 hgrow hat HLk.out HM1.out HS.out hlt
                         have HAll := Lib.hid hall
                         have HATk := Lib.hid at4
                         obtain ⟨z1, z2, c0, c1, c2, c3, c4, c5, c6, c7⟩ := at4
                         simp only at c0 c1 c2 c3 c4 c5 c6 c7
                         have HR4 := Lib.hid hr4
                         have HT4 := Lib.hid ht4
                         have HL1 := Lib.hid hL1
                         clear ht4 hr4 hL1 hall hown1 hgrow hat HT3)
            exact ⟨⟨k + 1, M3, d1, L ++ [(⟨kind, xa, xb, xn, xt, xl, xg⟩, ⟨re, rt, ro⟩)], by omega, by go_num, HM1.out, ⟨_, _, rfl⟩, HT4.out, HR4.out, HI1.out⟩, by simp [intOf]; omega⟩
        · obtain rfl : k = l.length := by omega
          have low := Lib.hid htr.low
          clear htr hrow hinv hmap
          go_wp2_with fail
          go_ret
          exact ⟨rfl, low.out⟩
  · have hn' : nodes < 1 ∨ 8 < nodes := by omega
    have HN := Lib.hid hn'
    clear hn hn'
    go_enter Try.func8, Try.ntmps8
    go_wp2_with fail
    (with_reducible refine HH.out.mono ?_); rintro e w1 ⟨rfl, hb1⟩
    have LB := Lib.hid hb1
    have Q1 := Lib.hid (new_no nodes HN.out w1)
    clear hb1 HH
    go_wp2_with fail
    (with_reducible refine Q1.out.mono ?_); rintro e w2 ⟨rfl, hb2⟩
    have LB2 := Lib.hid (LB.out.trans (hb2.mono LB.out.size))
    have hf := Lib.hid (few_any A c l w2 (HS.out.below LB2.out) HL.out)
    clear hb2 Q1 LB
    go_wp2_with fail
    (with_reducible refine hf.out.mono ?_); rintro e w4 ⟨rfl, hb4⟩
    have LB4 := Lib.hid (LB2.out.trans (hb4.mono LB2.out.size))
    clear hb4 hf LB2
    cases hfw : fewS l
    · go_wp2_with fail
      go_ret
      exact ⟨rfl, LB4.out⟩
    · go_wp2_with fail
      go_ret
      exact ⟨rfl, LB4.out⟩

end N
end Go.Proofs.Ytklcpopnggiepaa
