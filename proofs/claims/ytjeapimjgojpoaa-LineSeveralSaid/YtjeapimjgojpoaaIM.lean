/- Lines: the walk of 'LineSeveral'. -/
import Derived.Test.YtjeapimjgojpoaaIj
import Derived.Test.YtjeapimjgojpoaaIm
import Derived.Test.YtjeapimjgojpoaaAx
import Derived.Test.YtjeapimjgojpoaaReu
set_option linter.unusedSimpArgs false
set_option linter.unusedVariables false
set_option maxRecDepth 100000
namespace Go.Proofs.Ytjeapimjgojpoaa
open Go.RowKit
namespace G

def slv (x : Ln) : Value := .slice x.A x.l.length x.c
theorem info_line : (Try.prog.info? 38).map (fun i => (i.zero, i.size, i.bytes)) = some (some (.slice none 0 0), 1, 24) := by kernel_rfl
theorem src_lines {w : World} {A : Option Addr} {L : List Ln} (h : LinesAt w A L) : Ap.SrcAt w A 1 L.length (L.map slv) :=
  ⟨by simp, fun u hu => by obtain ⟨x, _, rfl⟩ := List.mem_map.1 hu; rfl, fun j u hu => by
    have hj : j < L.length := by
      have := (List.getElem?_eq_some_iff.1 hu).1
      simpa using this
    obtain ⟨b, off, hA, hb, c0, _, _⟩ := h j hj
    refine ⟨b, off, hA, hb, ?_⟩
    rw [c0, ← hu]
    unfold ln
    rw [List.getElem?_map, List.getElem?_eq_getElem hj]
    rfl⟩
theorem lines_own {w : World} {B n c : Nat} {A : Option Addr} {L : List Ln} (h : w.ownsRow B 38 1 (.slice A n c) n (L.map slv)) (hn : n = L.length) (hl : ∀ x ∈ L, LineAt w x.A x.l ∧ x.l.length ≤ 9223372036854775807) : LinesAt w A L := fun i hi => by
  subst hn
  have hs := Ap.SrcAt.own h (fun u hu => by obtain ⟨x, _, rfl⟩ := List.mem_map.1 hu; rfl)
  obtain ⟨b, off, hA, hb, c0⟩ := hs.at_ i (slv L[i]) (by rw [List.getElem?_map, List.getElem?_eq_getElem hi]; rfl)
  have hx : ln L i = L[i] := by unfold ln; rw [List.getElem?_eq_getElem hi]; rfl
  rw [hx]
  have hm := hl L[i] (List.getElem_mem hi)
  exact ⟨b, off, hA, hb, c0, hm.1, hm.2⟩

/-- The walk, where nothing is asked. -/
theorem several_out (A B : Option Addr) (c d n : Nat) (L : List Ln) (px py : Int) (w : World) (hl : LinesAt w A L) (hn : L.length ≤ 9223372036854775807) (h : fewL L = false ∨ 60 < n) :
    Calls Try.prog 5 #[.slice A L.length c, .slice B n d, .agg #[.int .i64 px, .int .i64 py]] w fun e w' => e = .returned (.bool true) ∧ Below w.heap.size w w' := by
  have HF := Lib.hid (fun W (h : LinesAt W A L) => few_lines A c L W h hn)
  have HL := Lib.hid hl
  have HH := Lib.hid h
  clear hl h
  generalize fewL L = q at *
  go_enter Try.func5, Try.ntmps5
  go_wp2_with fail
  (with_reducible refine (head_any _).mono ?_); rintro e w1 ⟨rfl, hb1⟩
  have HB := Lib.hid (((Below.refl w.heap.size w).alloc (Nat.le_refl _) _).trans (hb1.mono (by simp)))
  clear hb1
  go_wp2_with fail
  (with_reducible refine (HF.out _ (HL.out.below HB.out)).mono ?_); rintro e w2 ⟨rfl, rfl⟩
  cases q with
  | false =>
    go_wp2_with fail
    go_ret
    exact ⟨rfl, HB.out⟩
  | true =>
    have hn60 : (60 : Int) < (n : Int) := by
      rcases HH.out with h | h
      · cases h
      · omega
    go_wp2_with fail
    go_ret
    exact ⟨rfl, HB.out⟩

set_option maxHeartbeats 4000000 in
theorem several_no (A B : Option Addr) (c d n : Nat) (L : List Ln) (px py : Int) (w : World) (hl : LinesAt w A L) (hf : fewL L = true) (h60 : n ≤ 60) (hr : nearR L px py = (0, 1)) :
    Calls Try.prog 5 #[.slice A L.length c, .slice B n d, .agg #[.int .i64 px, .int .i64 py]] w fun e w' => e = .returned (.bool true) ∧ Below w.heap.size w w' := by
  have hlen : L.length ≤ 12 := by unfold fewL at hf; simp at hf; omega
  have HF := Lib.hid (fun W (h : LinesAt W A L) => few_lines A c L W h (by omega))
  rw [hf] at HF
  have HL := Lib.hid hl
  have HN := Lib.hid (fun W (h : LinesAt W A L) => nearest_any A c L px py W h)
  rw [hr] at HN
  have hn60 : ¬ (60 : Int) < (n : Int) := by omega
  clear hl hf hr hlen
  go_enter Try.func5, Try.ntmps5
  go_wp2_with fail
  (with_reducible refine (head_any _).mono ?_); rintro e w1 ⟨rfl, hb1⟩
  have HB := Lib.hid (((Below.refl w.heap.size w).alloc (Nat.le_refl _) _).trans (hb1.mono (by simp)))
  have K5 := Lib.hid (Reg.Blk.new1 hb1)
  clear hb1
  go_wp2_with fail
  (with_reducible refine (HF.out _ (HL.out.below HB.out)).mono ?_); rintro e w2 ⟨rfl, rfl⟩
  obtain ⟨c5, f5, z5⟩ := K5.out.facts
  go_wp2_with fail
  (with_reducible refine (HN.out _ (HL.out.below HB.out)).mono ?_); rintro e w3 ⟨rfl, hb3⟩
  replace HB := Lib.hid (HB.out.trans (hb3.mono HB.out.size))
  clear hb3 HN c5 f5 z5
  go_wp2_with fail
  go_ret
  exact ⟨rfl, HB.out⟩

def sev4 (base : Nat) (sl : Value) (v : Value) (w : World) : Prop := ∃ g, v = .slice (some ⟨g, 0, none⟩) 1 1 ∧ base ≤ g ∧ Reg.Blk g #[sl] 38 w
def sevR (base : Nat) (sl : Value) (w w' : World) : Prop := Reg.Keep (fun q => base ≤ q) w w' ∧ ∀ v, sev4 base sl v w → sev4 base sl v w'
def sevF (base : Nat) (sl res : Value) (d : Nat) (v : Value) (w : World) : Prop := (d = 4 → sev4 base sl v w) ∧ (d = 7 → v = res)
def sevT (base k : Nat) (xs : List Value) (sl : Value) : List Value → World → Prop
  | [], _ => True
  | [v0], w => ∃ g, v0 = .slice (some ⟨g, 0, none⟩) 0 0 ∧ base ≤ g ∧ w.heap[g]? = some (.cells #[] 38 (0, 0))
  | [_, v1], w => (∃ A c, v1 = .slice A k c) ∧ w.ownsRow base 38 1 v1 k xs
  | _ :: _ :: v2 :: _, w => (∃ A c, v2 = .slice A (k + 1) c) ∧ w.ownsRow base 38 1 v2 (k + 1) (xs ++ [sl])
theorem sevR_t {base : Nat} {sl : Value} : ∀ a b c, sevR base sl a b → sevR base sl b c → sevR base sl a c := fun _ _ _ h k => ⟨keepK h.1 k.1, fun v hv => k.2 v (h.2 v hv)⟩
theorem sevR_b {base : Nat} {sl : Value} : ∀ w w', Below w.heap.size w w' → sevR base sl w w' := fun _ _ hb => ⟨keep_below hb, fun v ⟨g, e, hg, hk⟩ => ⟨g, e, hg, hk.keep hb⟩⟩
theorem sevF_s {base : Nat} {sl res : Value} : ∀ d v w w', sevF base sl res d v w → sevR base sl w w' → sevF base sl res d v w' := fun _ v _ _ h k => ⟨fun e => k.2 v (h.1 e), h.2⟩
theorem sevT_s {base k : Nat} {xs : List Value} {sl : Value} : ∀ vs w w', sevT base k xs sl vs w → Below w.heap.size w w' → sevT base k xs sl vs w' := fun vs w w' h hb => by
  match vs, h with
  | [], _ => trivial
  | [v0], ⟨g, e, hg, hk⟩ => exact ⟨g, e, hg, (hb.block g (Array.getElem?_eq_some_iff.1 hk).1).trans hk⟩
  | [_, v1], ⟨e, h⟩ => exact ⟨e, Ap.own_below h hb⟩
  | _ :: _ :: v2 :: _, ⟨e, h⟩ => exact ⟨e, Ap.own_below h hb⟩

set_option maxHeartbeats 16000000 in
theorem several_ok (A B : Option Addr) (c d : Nat) (L : List Ln) (l : List P2) (px py : Int) (w : World) (hl : LinesAt w A L) (hA : A = none → c = 0) (hl2 : LineAt w B l) (hf : fewL L = true) (h60 : l.length ≤ 60) (j : Nat) (hs : Several L px py j) :
    Calls Try.prog 5 #[.slice A L.length c, .slice B l.length d, .agg #[.int .i64 px, .int .i64 py]] w fun e w' => e = .returned (.bool true) ∧ Below w.heap.size w w' := by
  have hlen : L.length ≤ 12 := by unfold fewL at hf; simp at hf; omega
  have HLen := Lib.hid (And.intro hlen hs.lt)
  have HF := Lib.hid (fun W (h : LinesAt W A L) => few_lines A c L W h (by omega))
  rw [hf] at HF
  have HL := Lib.hid hl
  have HL2 := Lib.hid hl2
  have HN := Lib.hid (fun W (h : LinesAt W A L) => nearest_any A c L px py W h)
  rw [hs.res] at HN
  have HLA0 : Hid (∀ W (h : LinesAt W A L) i, i < L.length → LineAt W (ln L i).A (ln L i).l ∧ (ln L i).l.length ≤ 9223372036854775807) := fun W h i hi => by obtain ⟨_, _, _, _, _, h1, h2⟩ := h i hi; exact ⟨h1, h2⟩
  have HS := Lib.hid hs
  have HSj : Hid ((locS (ln L j).l px py).B ∧ locE (ln L j).l px py = 0) := ⟨locS_B _ _ _, (hs.near j hs.lt).1⟩
  have HAN := Lib.hid hA
  obtain ⟨m, hm⟩ : ∃ m : Int, m = if (compareI (locS l px py).an (locS l px py).ad (locS (ln L j).l px py).an (locS (ln L j).l px py).ad).1 < 0 then (L.length : Int) else (j : Int) := ⟨_, rfl⟩
  have HMore : Hid (validL l = true → nearR (L ++ [⟨B, d, l⟩]) px py = (m, 0)) := fun hv => by rw [hm]; exact hs.more ⟨B, d, l⟩ (by omega) hv
  have HM := Lib.hid hm
  clear hm
  have hn60 : ¬ (60 : Int) < (l.length : Int) := by omega
  have HD60 := Lib.hid (decide_eq_false hn60)
  obtain ⟨n, hn⟩ : ∃ n, n = L.length := ⟨_, rfl⟩
  have HNL := Lib.hid hn
  have hj0 : (0 : Int) ≤ (j : Int) := by omega
  have hjn : (j : Int) < (n : Int) := by have := hs.lt; omega
  have hnb : n ≤ 12 := by omega
  have HDj : Hid (decide ((j : Int) < 0) = false) := decide_eq_false (by omega)
  have HDn : Hid (decide (n ≤ j) = false) := decide_eq_false (by have := hs.lt; omega)
  rw [← hn] at HF HN ⊢
  clear hl hl2 hf hs hlen hA hn h60
  go_enter Try.func5, Try.ntmps5
  go_wp2_with fail
  (with_reducible refine (head_any _).mono ?_); rintro e w1 ⟨rfl, hb1⟩
  have HB := Lib.hid (((Below.refl w.heap.size w).alloc (Nat.le_refl _) _).trans (hb1.mono (by simp)))
  have K5 := Lib.hid (Reg.Blk.new1 hb1)
  clear hb1
  go_wp2_with fail
  (with_reducible refine (HF.out _ (HL.out.below HB.out)).mono ?_); rintro e w2 ⟨rfl, rfl⟩
  obtain ⟨c5, f5, z5⟩ := K5.out.facts
  go_wp2_with fail
  (with_reducible refine (HN.out _ (HL.out.below HB.out)).mono ?_); rintro e w3 ⟨rfl, hb3⟩
  replace HB := Lib.hid (HB.out.trans (hb3.mono HB.out.size))
  replace K5 := Lib.hid (K5.out.keep hb3)
  clear hb3 HN c5 f5 z5
  obtain ⟨c5, f5, z5⟩ := K5.out.facts
  go_wp2_with fail
  simp only [HD60.out, HDj.out, HDn.out, Bool.or_self]
  obtain ⟨b, off, hA, hb, c0, _, _⟩ := (HL.out.below HB.out) j HLen.out.2
  subst hA
  have HLA := Lib.hid (HLA0.out _ (HL.out.below HB.out) j HLen.out.2).1
  have HLC : Hid (∀ W, LineAt W (ln L j).A (ln L j).l → Calls Try.prog 16 #[.slice (ln L j).A (ln L j).l.length (ln L j).c, .agg #[.int .i64 px, .int .i64 py]] W fun e w' => e = .returned (.tuple #[.agg (locS (ln L j).l px py).cells, .int .i64 0]) ∧ Below W.heap.size W w') := fun W h => by
    have hq := locate_any (ln L j).A (ln L j).c (ln L j).l px py W h (HLA0.out _ (HL.out.below HB.out) j HLen.out.2).2
    rw [HSj.out.2] at hq
    exact hq
  generalize (ln L j).A = A1 at *
  generalize (ln L j).c = c1 at *
  generalize hlj : (ln L j).l = l1 at *
  have HLJ := Lib.hid hlj
  generalize hsp : locS l1 px py = sp at *
  have HSP := Lib.hid hsp
  have HSB := Lib.hid HSj.out.1
  clear hlj hsp HSj
  obtain ⟨s1, s2, s3, s4, s5, s6⟩ := sp
  simp only [Spt.cells] at HLC
  refine Reg.wp_region_seq (by kernel_rfl) (by kernel_rfl) ?_
  simp only
  iterate 9
    apply Reg.SeqOK.val
    · intro γ W hW K hK
      obtain ⟨hc, hf, _⟩ := bcell hW
      simp only [Act.put, List.setIfInBounds_toArray, List.set_cons_zero, List.set_cons_succ] at hK
      unfold Reg.Does
      go_simp
      try simp only [IntWalk.i64_left]
      first
        | exact hK _ (Below.refl _ _)
        | (go_at_call 16; (with_reducible refine (HLC.out _ (HLA.out.below hW)).mono ?_); rintro e w' ⟨rfl, hb⟩; exact hK _ hb)
        | (trace_state; fail)
    simp only [Act.put, List.setIfInBounds_toArray, List.set_cons_zero, List.set_cons_succ, List.nil_append, List.cons_append, Nat.reduceAdd, Nat.zero_add]
  iterate 1
    apply Reg.SeqOK.box
    · intro γ W hW K hK
      simp only [Act.put, List.setIfInBounds_toArray, List.set_cons_zero, List.set_cons_succ] at hK
      unfold Reg.Does
      go_simp
      exact hK
    simp only [Act.put, List.setIfInBounds_toArray, List.set_cons_zero, List.set_cons_succ, List.nil_append, List.cons_append, Nat.reduceAdd, Nat.zero_add]
  refine Reg.SeqOK.st 9 _ _ _ rfl (by kernel_rfl) ?_ ?_
  · intro γ W hW hge hat K hK
    obtain ⟨hcl, hfr⟩ := Reg.cells_at hat
    simp only [Act.put, List.setIfInBounds_toArray, List.set_cons_zero, List.set_cons_succ] at hK
    unfold Reg.Does
    go_simp
    exact hK _ (Reg.upd6 hat)
  simp only [Act.put, List.setIfInBounds_toArray, List.set_cons_zero, List.set_cons_succ, List.nil_append, List.cons_append, Nat.reduceAdd, Nat.zero_add]
  iterate 1
    apply Reg.SeqOK.val
    · intro γ W hW K hK
      obtain ⟨hc, hf, _⟩ := bcell hW
      simp only [Act.put, List.setIfInBounds_toArray, List.set_cons_zero, List.set_cons_succ] at hK
      unfold Reg.Does
      go_simp
      try simp only [IntWalk.i64_left]
      first
        | exact hK _ (Below.refl _ _)
        | (trace_state; fail)
    simp only [Act.put, List.setIfInBounds_toArray, List.set_cons_zero, List.set_cons_succ, List.nil_append, List.cons_append, Nat.reduceAdd, Nat.zero_add]
  refine Reg.SeqOK.nil (by kernel_rfl) (fun γ W hW hBx _ _ => ?_)
  simp only [Reg.Boxes, and_true, true_and, Nat.reduceAdd, Nat.zero_add] at hBx
  obtain ⟨_, _, at0⟩ := hBx
  generalize γ 9 = g10 at *
  replace HB := Lib.hid (HB.out.trans (hW.mono HB.out.size))
  replace K5 := Lib.hid (K5.out.keep hW)
  have K10 : Hid (Reg.Blk g10 _ _ W) := at0
  clear hW at0 c5 f5 z5 hb c0 HLC HLA
  go_wp2_with fail
  have H0 := Lib.hid (And.intro HB.out (And.intro K5.out K10.out))
  clear HB K5 K10
  go_loopw [12] (fun i wr => ∃ k : Nat, k ≤ n ∧ i = .int .i64 k ∧ Below w.heap.size w wr ∧ Reg.Blk w.heap.size #[.int .i64 px, .int .i64 py] 24 wr ∧ Reg.Blk g10 #[.int .i64 s1, .int .i64 s2, .int .i64 s3, .int .i64 s4, .int .i64 s5, .int .i64 s6] 34 wr) (fun i _ => n - (intOf i).toNat)
  case atStart => exact ⟨0, Nat.zero_le _, rfl, H0.out.1, H0.out.2.1, H0.out.2.2⟩
  case round =>
    obtain ⟨k, hk, rfl, hbw, hk5, hk10⟩ := hrel
    have HB := Lib.hid hbw
    have K5 := Lib.hid hk5
    have K10 := Lib.hid hk10
    clear hbw hk5 hk10 H0
    by_cases hlt : k < n
    · obtain ⟨b', off', hA, hb, c0, hla, hln⟩ := (HL.out.below HB.out) k (by rw [← HNL.out]; exact hlt)
      obtain ⟨rfl, rfl⟩ : b = b' ∧ off = off' := by injection hA with h; injection h with h1 h2; exact ⟨h1, h2⟩
      have hki : (k : Int) < (n : Int) := by omega
      have hk0 : (0 : Int) ≤ (k : Int) := by omega
      have HLA := Lib.hid hla
      have hnr := HS.out.near k (by rw [← HNL.out]; exact hlt)
      rw [HLJ.out, HSP.out] at hnr
      have HLC : Hid (∀ W, LineAt W (ln L k).A (ln L k).l → Calls Try.prog 16 #[.slice (ln L k).A (ln L k).l.length (ln L k).c, .agg #[.int .i64 px, .int .i64 py]] W fun e w' => e = .returned (.tuple #[.agg (locS (ln L k).l px py).cells, .int .i64 0]) ∧ Below W.heap.size W w') := fun W h => by
        have hq := locate_any (ln L k).A (ln L k).c (ln L k).l px py W h hln
        rw [hnr.1] at hq
        exact hq
      have hB1 := locS_B (ln L k).l px py
      generalize (ln L k).A = A2 at *
      generalize (ln L k).c = c2 at *
      generalize (ln L k).l = l2 at *
      generalize locS l2 px py = tp at *
      obtain ⟨t1, t2, t3, t4, t5, t6⟩ := tp
      simp only [Spt.cells] at HLC
      simp only at hnr
      obtain ⟨_, hcn, hcj⟩ := hnr
      have HC := Lib.hid (fun W => compare_any t5 t6 s5 s6 W hB1.1 hB1.2 HSB.out.1 HSB.out.2)
      generalize compareI t5 t6 s5 s6 = cr at *
      obtain ⟨cr1, cr2⟩ := cr
      simp only at hcn hcj HC
      have HCJ := Lib.hid hcj
      clear hla hln hA hB1 hcj
      obtain ⟨c5, f5, z5⟩ := K5.out.facts
      go_wp2_with fail
      refine Reg.wp_region_seq (by kernel_rfl) (by kernel_rfl) ?_
      simp only
      iterate 9
        apply Reg.SeqOK.val
        · intro γ W hW K hK
          obtain ⟨hc, hf, _⟩ := bcell hW
          simp only [Act.put, List.setIfInBounds_toArray, List.set_cons_zero, List.set_cons_succ] at hK
          unfold Reg.Does
          go_simp
          try simp only [IntWalk.i64_left]
          first
            | exact hK _ (Below.refl _ _)
            | (go_at_call 16; (with_reducible refine (HLC.out _ (HLA.out.below hW)).mono ?_); rintro e w' ⟨rfl, hb⟩; exact hK _ hb)
            | (trace_state; fail)
        simp only [Act.put, List.setIfInBounds_toArray, List.set_cons_zero, List.set_cons_succ, List.nil_append, List.cons_append, Nat.reduceAdd, Nat.zero_add]
      iterate 1
        apply Reg.SeqOK.box
        · intro γ W hW K hK
          simp only [Act.put, List.setIfInBounds_toArray, List.set_cons_zero, List.set_cons_succ] at hK
          unfold Reg.Does
          go_simp
          exact hK
        simp only [Act.put, List.setIfInBounds_toArray, List.set_cons_zero, List.set_cons_succ, List.nil_append, List.cons_append, Nat.reduceAdd, Nat.zero_add]
      refine Reg.SeqOK.st 9 _ _ _ rfl (by kernel_rfl) ?_ ?_
      · intro γ W hW hge hat K hK
        obtain ⟨hcl, hfr⟩ := Reg.cells_at hat
        simp only [Act.put, List.setIfInBounds_toArray, List.set_cons_zero, List.set_cons_succ] at hK
        unfold Reg.Does
        go_simp
        exact hK _ (Reg.upd6 hat)
      simp only [Act.put, List.setIfInBounds_toArray, List.set_cons_zero, List.set_cons_succ, List.nil_append, List.cons_append, Nat.reduceAdd, Nat.zero_add]
      iterate 1
        apply Reg.SeqOK.val
        · intro γ W hW K hK
          obtain ⟨hc, hf, _⟩ := bcell hW
          simp only [Act.put, List.setIfInBounds_toArray, List.set_cons_zero, List.set_cons_succ] at hK
          unfold Reg.Does
          go_simp
          try simp only [IntWalk.i64_left]
          first
            | exact hK _ (Below.refl _ _)
            | (trace_state; fail)
        simp only [Act.put, List.setIfInBounds_toArray, List.set_cons_zero, List.set_cons_succ, List.nil_append, List.cons_append, Nat.reduceAdd, Nat.zero_add]
      refine Reg.SeqOK.nil (by kernel_rfl) (fun γ W hW hBx _ _ => ?_)
      simp only [Reg.Boxes, and_true, true_and, Nat.reduceAdd, Nat.zero_add] at hBx
      obtain ⟨_, _, at0⟩ := hBx
      generalize γ 9 = g13 at *
      replace HB := Lib.hid (HB.out.trans (hW.mono HB.out.size))
      replace K5 := Lib.hid (K5.out.keep hW)
      replace K10 := Lib.hid (K10.out.keep hW)
      have k13 : Reg.Blk g13 _ _ W := at0
      obtain ⟨c13, f13, z13⟩ := k13.facts
      obtain ⟨c10, f10, z10⟩ := K10.out.facts
      clear hW at0 k13 c5 f5 z5 hb c0 HLC HLA
      go_wp2_with fail
      (with_reducible refine (HC.out _).mono ?_); rintro e w6 ⟨rfl, hb6⟩
      replace HB := Lib.hid (HB.out.trans (hb6.mono HB.out.size))
      replace K5 := Lib.hid (K5.out.keep hb6)
      replace K10 := Lib.hid (K10.out.keep hb6)
      clear hb6 HC c13 f13 z13 c10 f10 z10
      have hcneg : decide (cr1 < 0) = false := decide_eq_false (by omega)
      by_cases hkj : k < j
      · have hd1 : decide ((k : Int) < (j : Int)) = true := decide_eq_true (by omega)
        have hd2 : decide (k < j) = true := decide_eq_true hkj
        have hcb : (cr1 == 0) = false := by rw [beq_eq_false_iff_ne]; exact HCJ.out hkj
        clear hkj
        go_wp2_with fail
        refine ⟨⟨k + 1, by omega, by go_num, HB.out, K5.out, K10.out⟩, by simp [intOf]; omega⟩
      · have hd1 : decide ((k : Int) < (j : Int)) = false := decide_eq_false (by omega)
        have hd2 : decide (k < j) = false := decide_eq_false hkj
        clear hkj
        go_wp2_with fail
        refine ⟨⟨k + 1, by omega, by go_num, HB.out, K5.out, K10.out⟩, by simp [intOf]; omega⟩
    · obtain rfl : k = n := by omega
      have HV := Lib.hid (valid_line B d l wr (HL2.out.below HB.out) (by omega))
      cases hv : validL l with
      | false =>
        rw [hv] at HV
        go_wp2_with fail
        (with_reducible refine HV.out.mono ?_); rintro e w7 ⟨rfl, hb7⟩
        replace HB := Lib.hid (HB.out.trans (hb7.mono HB.out.size))
        clear hb7 HV
        go_wp2_with fail
        go_ret
        exact ⟨rfl, HB.out⟩
      | true =>
        rw [hv] at HV
        have HVL := Lib.hid hv
        clear hv
        go_wp2_with fail
        (with_reducible refine HV.out.mono ?_); rintro e w7 ⟨rfl, hb7⟩
        replace HB := Lib.hid (HB.out.trans (hb7.mono HB.out.size))
        replace K5 := Lib.hid (K5.out.keep hb7)
        replace K10 := Lib.hid (K10.out.keep hb7)
        clear hb7 HV
        go_wp2_with fail
        obtain ⟨c5, f5, z5⟩ := K5.out.facts
        obtain ⟨i0, hi0, hz0, hz1, hz2⟩ := info_parts info_line
        have HMem : Hid (∀ W, Reg.Keep (fun q => w7.heap.size ≤ q) w7 W → ∀ x ∈ L ++ [(⟨B, d, l⟩ : Ln)], LineAt W x.A x.l ∧ x.l.length ≤ 9223372036854775807) := fun W hW x hx => by
          have hb := HB.out.trans (hW.below fun q hq => ⟨by have := HB.out.size; omega, by have := HB.out.size; omega⟩)
          rw [List.mem_append] at hx
          rcases hx with hx | hx
          · obtain ⟨i, hi, rfl⟩ := List.getElem_of_mem hx
            have hx : ln L i = L[i] := by unfold ln; rw [List.getElem?_eq_getElem hi]; rfl
            have h := HLA0.out W (HL.out.below hb) i hi
            rw [hx] at h
            exact h
          · obtain rfl := List.mem_singleton.1 hx
            exact ⟨HL2.out.below hb, by simp only; omega⟩
        have HSRC : Hid (∀ W, Reg.Keep (fun q => w7.heap.size ≤ q) w7 W → Ap.SrcAt W (some ⟨b, off, none⟩) 1 k (L.map slv)) := fun W hW => by
          have h := src_lines (HL.out.below (HB.out.trans (hW.below fun q hq => ⟨by have := HB.out.size; omega, by have := HB.out.size; omega⟩)))
          rw [← HNL.out] at h
          exact h
        refine RegR.wp_region_eff (sevR w7.heap.size (.slice B l.length d)) (sevF w7.heap.size (.slice B l.length d) (.tuple #[.int .i64 m, .int .i64 0])) (sevT w7.heap.size k (L.map slv) (.slice B l.length d)) (by kernel_rfl) (by kernel_rfl) sevR_t sevR_b sevF_s sevT_s trivial ?_
        simp only
        refine RegR.SeqE.eff (fun e h => by simp at h) (fun δ W hW hkn hT K hK => ?_) ?_
        · simp only [Act.put, List.setIfInBounds_toArray, List.set_cons_zero, List.set_cons_succ] at hK
          unfold Reg.Does
          go_simp
          exact hK _ _ (sevR_b _ _ ((Below.refl _ _).alloc (Nat.le_refl _) _)) ⟨fun e => absurd e (by decide), fun e => absurd e (by decide)⟩ ⟨W.heap.size, rfl, hW.1.size, Reg.heap_new _ _⟩
        simp only [Act.put, List.setIfInBounds_toArray, List.set_cons_zero, List.set_cons_succ, List.nil_append, List.cons_append, Nat.reduceAdd, Nat.zero_add]
        iterate 1
          apply RegR.SeqE.val
          rotate_left 2
          · intro δ W hW hkn K hK
            obtain ⟨hc, hf, _⟩ := Reg.kcell hW.1
            simp only [Act.put, List.setIfInBounds_toArray, List.set_cons_zero, List.set_cons_succ] at hK
            unfold Reg.Does
            go_simp
            try simp only [IntWalk.i64_left]
            first
              | exact hK _ (Below.refl _ _)
              | (trace_state; fail)
          rotate_left 1
          · intro δ δ' hd; first | rfl | (simp only [hd _ (show Reg.reach _ 12 _ _ = true by kernel_rfl)])
          · intro x w; first | exact trivial | (intro e; exact absurd e (by decide)) | exact ⟨fun e => absurd e (by decide), fun e => absurd e (by decide)⟩
          simp only [Act.put, List.setIfInBounds_toArray, List.set_cons_zero, List.set_cons_succ, List.nil_append, List.cons_append, Nat.reduceAdd, Nat.zero_add]
        refine RegR.SeqE.eff (fun e h => by simp at h; subst h; kernel_rfl) (fun δ W hW hkn hT K hK => ?_) ?_
        · obtain ⟨g, e0, hg, hcg⟩ := hT
          have hown : W.ownsRow w7.heap.size 38 1 (.slice (some ⟨g, 0, none⟩) 0 0) 0 [] := ⟨rfl, .inr ⟨g, 0, #[], rfl, hg, hcg, Nat.le_refl _, Nat.zero_le _, rfl, rfl⟩⟩
          have hsrcW : Ap.SrcAt W (some ⟨b, off, none⟩) 1 k (L.map slv) := HSRC.out W hW.1
          refine Ap.does_appX Try.underlying22 hi0 hz0 hz1 hz2 rfl (by omega) (by omega) (by rfl) _ _ rfl e0 rfl hown hsrcW (fun e => by cases e) (by omega) hW.1.size ?_
          intro A' c' w8 ho8 hg8 hb8
          refine hK _ _ (sevR_b _ _ (hb8 (by omega))) ⟨fun e => absurd e (by decide), fun e => absurd e (by decide)⟩ ⟨⟨A', c', by rw [Nat.zero_add]⟩, ?_⟩
          rw [Nat.zero_add] at ho8 ⊢
          exact ho8
        simp only [Act.put, List.setIfInBounds_toArray, List.set_cons_zero, List.set_cons_succ, List.nil_append, List.cons_append, Nat.reduceAdd, Nat.zero_add]
        iterate 1
          apply RegR.SeqE.val
          rotate_left 2
          · intro δ W hW hkn K hK
            obtain ⟨hc, hf, _⟩ := Reg.kcell hW.1
            simp only [Act.put, List.setIfInBounds_toArray, List.set_cons_zero, List.set_cons_succ] at hK
            unfold Reg.Does
            go_simp
            try simp only [IntWalk.i64_left]
            first
              | exact hK _ (Below.refl _ _)
              | (trace_state; fail)
          rotate_left 1
          · intro δ δ' hd; first | rfl | (simp only [hd _ (show Reg.reach _ 12 _ _ = true by kernel_rfl)])
          · intro x w; first | exact trivial | (intro e; exact absurd e (by decide)) | exact ⟨fun e => absurd e (by decide), fun e => absurd e (by decide)⟩
          simp only [Act.put, List.setIfInBounds_toArray, List.set_cons_zero, List.set_cons_succ, List.nil_append, List.cons_append, Nat.reduceAdd, Nat.zero_add]
        refine RegR.SeqE.new (fun δ W hW hkn K hK => ?_) ?_
        · simp only [Act.put, List.setIfInBounds_toArray, List.set_cons_zero, List.set_cons_succ] at hK
          unfold Reg.Does
          go_simp
          exact hK _ _ ((Below.refl _ _).alloc (Nat.le_refl _) _) ⟨fun _ => ⟨W.heap.size, rfl, hW.1.size, Reg.Blk.new _ _ _⟩, fun e => absurd e (by decide)⟩
        simp only [Act.put, List.setIfInBounds_toArray, List.set_cons_zero, List.set_cons_succ, List.nil_append, List.cons_append, Nat.reduceAdd, Nat.zero_add]
        refine RegR.SeqE.eff (fun e h => by simp at h; subst h; kernel_rfl) (fun δ W hW hkn hT K hK => ?_) ?_
        · obtain ⟨⟨A1', c1', e1⟩, hown⟩ := hT
          obtain ⟨g4, e4, hg4, hk4⟩ := (hkn 4 (by kernel_rfl)).1 rfl
          rw [e1] at hown
          refine Ap.does_appX Try.underlying22 hi0 hz0 hz1 hz2 rfl (by omega) (by omega) (by rfl) _ _ rfl e1 e4 hown (Ap.SrcAt.blk1 hk4 rfl) (fun e => by cases e) (by omega) hW.1.size ?_
          intro A' c' w8 ho8 hg8 hb8
          refine hK _ _ ⟨?_, fun v hv => ?_⟩ ⟨fun e => absurd e (by decide), fun e => absurd e (by decide)⟩ ⟨⟨A', c', rfl⟩, ho8⟩
          · refine keep_grown hg8 fun r e => ?_
            exact (hown.lt r e).1
          · obtain ⟨g, e, hg, hk⟩ := hv
            exact ⟨g, e, hg, Ap.app_beside hown hg8 hb8 hk (by simp; omega)⟩
        simp only [Act.put, List.setIfInBounds_toArray, List.set_cons_zero, List.set_cons_succ, List.nil_append, List.cons_append, Nat.reduceAdd, Nat.zero_add]
        iterate 1
          apply RegR.SeqE.val
          rotate_left 2
          · intro δ W hW hkn K hK
            obtain ⟨hc, hf, _⟩ := Reg.kcell hW.1
            simp only [Act.put, List.setIfInBounds_toArray, List.set_cons_zero, List.set_cons_succ] at hK
            unfold Reg.Does
            go_simp
            try simp only [IntWalk.i64_left]
            first
              | exact hK _ (Below.refl _ _)
              | (trace_state; fail)
          rotate_left 1
          · intro δ δ' hd; first | rfl | (simp only [hd _ (show Reg.reach _ 12 _ _ = true by kernel_rfl)])
          · intro x w; first | exact trivial | (intro e; exact absurd e (by decide)) | exact ⟨fun e => absurd e (by decide), fun e => absurd e (by decide)⟩
          simp only [Act.put, List.setIfInBounds_toArray, List.set_cons_zero, List.set_cons_succ, List.nil_append, List.cons_append, Nat.reduceAdd, Nat.zero_add]
        refine RegR.SeqE.eff (fun e h => by simp at h; subst h; kernel_rfl) (fun δ W hW hkn hT K hK => ?_) ?_
        · obtain ⟨⟨A2', c2', e2⟩, hown⟩ := hT
          simp only [Act.put, List.setIfInBounds_toArray, List.set_cons_zero, List.set_cons_succ] at hK
          rw [e2] at hown hK
          have hlW : LinesAt W A2' (L ++ [⟨B, d, l⟩]) := by
            refine lines_own (B := w7.heap.size) (n := k + 1) (c := c2') ?_ (by rw [List.length_append, HNL.out]; rfl) (HMem.out W hW.1)
            rw [List.map_append]
            exact hown
          have hq := nearest_any A2' c2' (L ++ [⟨B, d, l⟩]) px py W hlW
          rw [HMore.out HVL.out, show (L ++ [(⟨B, d, l⟩ : Ln)]).length = k + 1 by rw [List.length_append, HNL.out]; rfl] at hq
          have HQ := Lib.hid hq
          clear hq hlW
          unfold Reg.Does
          rw [e2]
          go_simp
          (with_reducible refine HQ.out.mono ?_); rintro e w' ⟨rfl, hb⟩
          exact hK _ _ (sevR_b _ _ hb) ⟨fun e => absurd e (by decide), fun _ => rfl⟩ ⟨⟨A2', c2', e2⟩, by rw [e2]; exact Ap.own_below hown hb⟩
        simp only [Act.put, List.setIfInBounds_toArray, List.set_cons_zero, List.set_cons_succ, List.nil_append, List.cons_append, Nat.reduceAdd, Nat.zero_add]
        refine RegR.SeqE.val (fun _ => .tuple #[.int .i64 m, .int .i64 0]) (fun _ _ _ => rfl) (fun _ _ => ⟨fun e => absurd e (by decide), fun e => absurd e (by decide)⟩) (fun δ W hW hkn K hK => ?_) ?_
        · have e7 := (hkn 7 (by kernel_rfl)).2 rfl
          simp only [Act.put, List.setIfInBounds_toArray, List.set_cons_zero, List.set_cons_succ] at hK
          rw [e7] at hK
          unfold Reg.Does
          rw [e7]
          go_simp
          exact hK _ (Below.refl _ _)
        simp only [Act.put, List.setIfInBounds_toArray, List.set_cons_zero, List.set_cons_succ, List.nil_append, List.cons_append, Nat.reduceAdd, Nat.zero_add]
        iterate 4
          apply RegR.SeqE.val
          rotate_left 2
          · intro δ W hW hkn K hK
            obtain ⟨hc, hf, _⟩ := Reg.kcell hW.1
            simp only [Act.put, List.setIfInBounds_toArray, List.set_cons_zero, List.set_cons_succ] at hK
            unfold Reg.Does
            go_simp
            try simp only [IntWalk.i64_left]
            first
              | exact hK _ (Below.refl _ _)
              | (trace_state; fail)
          rotate_left 1
          · intro δ δ' hd; first | rfl | (simp only [hd _ (show Reg.reach _ 12 _ _ = true by kernel_rfl)])
          · intro x w; first | exact trivial | (intro e; exact absurd e (by decide)) | exact ⟨fun e => absurd e (by decide), fun e => absurd e (by decide)⟩
          simp only [Act.put, List.setIfInBounds_toArray, List.set_cons_zero, List.set_cons_succ, List.nil_append, List.cons_append, Nat.reduceAdd, Nat.zero_add]
        refine RegR.SeqE.nil (fun δ W hW _ _ => ?_)
        generalize δ 0 = u112
        generalize δ 2 = u114
        generalize δ 4 = u116
        generalize δ 5 = u117
        generalize δ 7 = u119
        have hb8 : Below w7.heap.size w7 W := hW.1.below fun q hq => ⟨hq, by omega⟩
        replace HB := Lib.hid (HB.out.trans (hb8.mono HB.out.size))
        replace K5 := Lib.hid (K5.out.keep hb8)
        replace K10 := Lib.hid (K10.out.keep hb8)
        clear hW hb8 c5 f5 z5
        obtain ⟨c5, f5, z5⟩ := K5.out.facts
        have HLF := Lib.hid (locate_any B d l px py W (HL2.out.below HB.out) (by omega))
        have hBF := locS_B l px py
        have hmm := HM.out
        generalize locS l px py = fp at *
        generalize locE l px py = fe at *
        obtain ⟨r1, r2, r3, r4, r5, r6⟩ := fp
        simp only [Spt.cells] at HLF
        simp only at hmm
        have HC := Lib.hid (fun W => compare_any r5 r6 s5 s6 W hBF.1 hBF.2 HSB.out.1 HSB.out.2)
        generalize compareI r5 r6 s5 s6 = cr at *
        obtain ⟨cr1, cr2⟩ := cr
        simp only at hmm HC
        have HMM := Lib.hid hmm
        clear hmm hBF
        go_wp2_with fail
        (with_reducible refine HLF.out.mono ?_); rintro e w8 ⟨rfl, hb9⟩
        replace HB := Lib.hid (HB.out.trans (hb9.mono HB.out.size))
        have hal : Below w8.heap.size w8 (w8.alloc (.cells #[.int .i64 r1, .int .i64 r2, .int .i64 r3, .int .i64 r4, .int .i64 r5, .int .i64 r6] 34)) := (Below.refl _ _).alloc (Nat.le_refl _) _
        have k19 := Reg.Blk.new w8 #[.int .i64 r1, .int .i64 r2, .int .i64 r3, .int .i64 r4, .int .i64 r5, .int .i64 r6] 34
        replace HB := Lib.hid (HB.out.trans (hal.mono HB.out.size))
        replace K10 := Lib.hid ((K10.out.keep hb9).keep hal)
        obtain ⟨c19, f19, z19⟩ := k19.facts
        obtain ⟨c10, f10, z10⟩ := K10.out.facts
        clear hb9 hal HLF k19 c5 f5 z5
        go_wp2_with fail
        (with_reducible refine (HC.out _).mono ?_); rintro e w9 ⟨rfl, hb10⟩
        replace HB := Lib.hid (HB.out.trans (hb10.mono HB.out.size))
        clear hb10 HC c19 f19 z19 c10 f10 z10
        by_cases hc : cr1 < 0
        · have hmk : m = (k : Int) := by rw [HMM.out, if_pos hc, ← HNL.out]
          subst hmk
          go_wp2_with fail
          go_ret
          exact ⟨ret_bool (by simp), HB.out⟩
        · have hmk : m = (j : Int) := by rw [HMM.out, if_neg hc]
          have hc0 : 0 ≤ cr1 := by omega
          subst hmk
          go_wp2_with fail
          go_ret
          exact ⟨ret_bool (by simp), HB.out⟩

theorem several_walk (A : Option Addr) (c : Nat) (L : List Ln) (B : Option Addr) (d : Nat) (l : List P2) (px py : Int) (w : World) (hl : LinesAt w A L) (hn : (L.length ≤ c ∧ c ≤ maxLen) ∧ (A = none → c = 0)) (hl2 : LineAt w B l) (_hn2 : (l.length ≤ d ∧ d ≤ maxLen) ∧ (B = none → d = 0))
    (_hx : -9223372036854775808 ≤ px ∧ px ≤ 9223372036854775807) (_hy : -9223372036854775808 ≤ py ∧ py ≤ 9223372036854775807) :
    Calls Try.prog 5 #[.slice A L.length c, .slice B l.length d, .agg #[.int .i64 px, .int .i64 py]] w fun e w' => e = .returned (.bool true) ∧ Below w.heap.size w w' := by
  unfold maxLen at hn
  cases hf : fewL L with
  | false => exact several_out A B c d l.length L px py w hl (by omega) (.inl hf)
  | true =>
    by_cases h60 : 60 < l.length
    · exact several_out A B c d l.length L px py w hl (by omega) (.inr h60)
    · have hlen : L.length ≤ 12 := by unfold fewL at hf; simp at hf; omega
      rcases nearR_cases L px py (by omega) with ⟨h, _⟩ | ⟨_, h0, hon, hg⟩
      · exact several_no A B c d l.length L px py w hl hf (by omega) h
      · obtain ⟨j, hs⟩ := several (by omega) h0 hon hg
        exact several_ok A B c d L l px py w hl hn.2 hl2 hf (by omega) j hs

end G
end Go.Proofs.Ytjeapimjgojpoaa
