/- Trees: the reference's 'Texts'. -/
import Derived.Test.YtejhefmcinohhaaDoorTo
import Derived.Test.YtejhefmcinohhaaDoorReu
set_option linter.unusedSimpArgs false
set_option linter.unusedVariables false
set_option maxRecDepth 100000
namespace Go.Proofs.YtejhefmcinohhaaDoor
open Go.RowKit
namespace S

/-- An append of strings: a block of one cell stays, unless the row owns it and is empty. -/
theorem run_appS (ty : TypeId) {w : World} {B cap c : Nat} {A0 A : Option Addr} {l m : List Tx} (hown : Own B w (.slice A0 l.length cap) l) (hy : StrsAt w A m) (hA : A = none → c = 0) (hn : l.length + m.length ≤ 1000000) (hB : B ≤ w.heap.size) (h0 : l = [] → A0 = none) :
    ∃ A' c' w', (Builtin.append_ #[22, 22] ty #[.slice A0 l.length cap, .slice A m.length c]).run Tryd.prog w = .ok (.slice A' (l.length + m.length) c') w' ∧ Own B w' (.slice A' (l ++ m).length c') (l ++ m) ∧
      Reg.Keep (fun q => B ≤ q) w w' ∧ (∀ g x T, Reg.Blk g #[x] T w → Reg.Blk g #[x] T w') ∧ (l ++ m = [] → A' = none) := by
  obtain ⟨i0, hi0, hz⟩ := Option.map_eq_some_iff.1 info_str
  simp only [Prod.mk.injEq] at hz
  obtain ⟨hz0, hz1, hz2⟩ := hz
  by_cases hm : m = []
  · subst hm
    have hs : Src Tryd.prog i0.size 22 (.slice A 0 c) 0 [] w := by
      cases A with
      | none => exact Src.ofNil w Tryd.underlying22 c
      | some a => exact Src.ofSlice w Tryd.underlying22 a 0 c [] (by simp) (fun j u h => by simp at h) (fun u h => by simp at h)
    obtain ⟨A1, c1, e, _, hle, _, hA1, _⟩ := hown.parts
    injection e with e1 _ e3
    subst e1 e3
    have hr := run_append_nothing (P := Tryd.prog) w 22 22 ty _ i0 Tryd.underlying22 hi0 A0 l.length cap hle (.slice A 0 c) hs
    refine ⟨A0, cap, w, hr, by rw [List.append_nil]; exact hown, keep_refl _ _, fun _ _ _ h => h, by rw [List.append_nil]; exact h0⟩
  · have hpos : 0 < m.length := List.length_pos_iff.2 hm
    obtain ⟨A', c', w', hrun, ho, hgr, hbl⟩ := Ap.run_appX (c := c) Tryd.underlying22 hi0 hz0 hz1 hz2 rfl (by omega) (by omega) ty hown (src_of hy) hA hn hB
    have h0' : w.ownsRow B 9 1 (.slice A0 l.length cap) l.length (sv l) := hown
    refine ⟨A', c', w', hrun, ?_, ?_, fun g x T hk => ?_, fun e => absurd (List.append_eq_nil_iff.1 e).2 hm⟩
    · show World.ownsRow _ _ _ _ _ _ _
      rw [List.length_append, show sv (l ++ m) = sv l ++ sv m by simp [sv]]
      exact ho
    · refine ⟨hgr.os, hgr.tape, hgr.output, hgr.size, fun k hk hn => hgr.block k hk (fun e => hn ?_)⟩
      exact (h0'.lt k e.symm).1
    · by_cases hl : l = []
      · have hA0 := h0 hl
        subst hA0
        exact (hgr.block g hk.lt (fun e => by simp [Value.ownBlock] at e)).trans hk
      · have := List.length_pos_iff.2 hl
        exact Ap.app_beside h0' hgr hbl hk (by simp; omega)
theorem does_appS {ops : Array Oper} {o : Oper} {a : Act} {K : Act → World → Prop} {w : World} (hw : Region.wanted o (yielded ops a.tmps) = true) (s x : Operand) (ho : o.op = .call { callee := .builtin .append, args := #[s, x], argTypes := #[22, 22] })
    {B cap c : Nat} {A0 A : Option Addr} {l m : List Tx} (hs : a.eval s = .slice A0 l.length cap) (hx : a.eval x = .slice A m.length c) (hown : Own B w (.slice A0 l.length cap) l) (hy : StrsAt w A m) (hA : A = none → c = 0) (hn : l.length + m.length ≤ 1000000) (hB : B ≤ w.heap.size) (h0 : l = [] → A0 = none)
    (h : ∀ A' c' w', Own B w' (.slice A' (l ++ m).length c') (l ++ m) → Reg.Keep (fun q => B ≤ q) w w' → (∀ g x T, Reg.Blk g #[x] T w → Reg.Blk g #[x] T w') → (l ++ m = [] → A' = none) → K (a.put o.dst (.slice A' (l ++ m).length c')) w') :
    Reg.Does Tryd.prog ops o a w K := by
  obtain ⟨A', c', w', hr, h2, h3, h4, h5⟩ := run_appS o.type hown hy hA hn hB h0
  unfold Reg.Does
  rw [if_pos hw]
  unfold Oper.wp execOp
  simp only [ho, resolve, invoke, builtin, Sem.run_bind, Sem.run_pure, Result.andThen_ok, List.map_toArray, List.map_cons, List.map_nil, hs, hx, hr]
  have := h A' c' w' h2 h3 h4 h5
  rw [List.length_append] at this
  exact this

theorem keepN {w w' : World} (h : Reg.Keep (fun _ => False) w w') : Below w.heap.size w w' := h.below fun _ hk => ⟨hk, fun h => h⟩
def jF (a b : Tx) (d : Nat) (v : Value) (w : World) : Prop := (d = 8 → ∃ g, v = .slice (some ⟨g, 0, none⟩) 3 3 ∧ Reg.Blk g #[.string { data := #[110, 111, 100, 101] }, .string (str a), .string (str b)] 9 w) ∧ (d = 9 → v = .string (str (jn a b)))
theorem jF_s {a b : Tx} : ∀ d v w w', jF a b d v w → Reg.Keep (fun _ => False) w w' → jF a b d v w' := fun _ _ _ _ h k => ⟨fun e => by
  obtain ⟨g, e1, hg⟩ := h.1 e
  exact ⟨g, e1, hg.keep (keepN k)⟩, h.2⟩
def OwnN (B : Nat) (w : World) (v : Value) (l : List Tx) : Prop := ∃ A c, v = .slice A l.length c ∧ Own B w v l ∧ (l = [] → A = none)
theorem OwnN.below {B : Nat} {w w' : World} {v : Value} {l : List Tx} (h : OwnN B w v l) (hb : Below w.heap.size w w') : OwnN B w' v l := by
  obtain ⟨A, c, e, ho, h0⟩ := h
  exact ⟨A, c, e, ho.below hb, h0⟩
theorem OwnN.base {B B' : Nat} {w : World} {v : Value} {l : List Tx} (h : OwnN B w v l) (hb : B' ≤ B) : OwnN B' w v l := by
  obtain ⟨A, c, e, ho, h0⟩ := h
  exact ⟨A, c, e, Ap.own_base ho hb, h0⟩
def txR (B : Nat) (w w' : World) : Prop := Reg.Keep (fun q => B ≤ q) w w' ∧ ∀ g x T, Reg.Blk g #[x] T w → Reg.Blk g #[x] T w'
def txF (s : Tx) (d : Nat) (v : Value) (w : World) : Prop := d = 10 → ∃ g, v = .slice (some ⟨g, 0, none⟩) 1 1 ∧ Reg.Blk g #[.string (str s)] 9 w
def txT (B : Nat) (l m : List Tx) (s : Tx) : List Value → World → Prop
  | [], _ => True
  | [v0], w => OwnN B w v0 l
  | [v0, v1], w => OwnN B w v0 l ∧ OwnN B w v1 m
  | [_, _, v2], w => OwnN B w v2 (l ++ m)
  | _ :: _ :: _ :: v3 :: _, w => OwnN B w v3 (l ++ m ++ [s])
theorem txR_t {B : Nat} : ∀ a b c, txR B a b → txR B b c → txR B a c := fun _ _ _ h k => ⟨keep_trans h.1 k.1, fun g x T hk => k.2 g x T (h.2 g x T hk)⟩
theorem txR_b {B : Nat} : ∀ w w', Below w.heap.size w w' → txR B w w' := fun _ _ hb => ⟨keep_below hb, fun _ _ _ hk => hk.keep hb⟩
theorem txF_s {B : Nat} {s : Tx} : ∀ d v w w', txF s d v w → txR B w w' → txF s d v w' := fun _ _ _ _ h k e => by
  obtain ⟨g, e1, hk⟩ := h e
  exact ⟨g, e1, k.2 _ _ _ hk⟩
theorem txT_s {B : Nat} {l m : List Tx} {s : Tx} : ∀ vs w w', txT B l m s vs w → Below w.heap.size w w' → txT B l m s vs w' := fun vs w w' h hb => by
  match vs, h with
  | [], _ => trivial
  | [v0], h => exact OwnN.below h hb
  | [v0, v1], ⟨h1, h2⟩ => exact ⟨h1.below hb, h2.below hb⟩
  | [_, _, v2], h => exact OwnN.below h hb
  | _ :: _ :: _ :: v3 :: _, h => exact OwnN.below h hb

theorem texts_len : ∀ n (l : List Tx), l.length = n → (textsT l).length ≤ n + 1 ∧ (1 ≤ n → (textsT l).length + 1 = n) := by
  intro n
  induction n using Nat.strongRecOn with
  | ind n ih =>
    intro l hl
    by_cases h2 : 2 ≤ n
    · obtain ⟨k0, k1, k2, _⟩ := hf_spec h2
      have h1 := (ih (hf n) k1 (l.take (hf n)) (by simp; omega)).2 (by omega)
      have h3 := (ih (n - hf n) (by omega) (l.drop (hf n)) (by simp; omega)).2 (by omega)
      rw [texts_step (by omega), hl]
      simp only [List.length_append, List.length_cons, List.length_nil]
      omega
    · rw [textsT, if_pos (by omega)]
      by_cases h0 : n = 0
      · rw [if_pos (by omega)]; simp; omega
      · rw [if_neg (by omega)]; simp; omega
theorem texts_one {l : List Tx} (h : l.length = 1) : textsT l = [] := by rw [textsT, if_pos (by omega), if_neg (by omega)]
theorem texts_nil : textsT [] = [joinT [emptyT]] := by rw [textsT]; simp

set_option maxHeartbeats 4000000 in
theorem rtexts_any : ∀ (n : Nat) (l : List Tx) (A : Option Addr) (c : Nat) (w : World), l.length = n → n ≤ 1000 → StrsAt w A l → n ≤ c → c ≤ 9223372036854775807 → (A = none → c = 0) → (∀ t ∈ l, Sh t) →
    Calls Tryd.prog 15 #[.slice A n c] w fun e w' => (∃ v, e = .returned v ∧ OwnN w.heap.size w' v (textsT l)) ∧ Below w.heap.size w w' := by
  intro n
  induction n using Nat.strongRecOn with
  | ind n ih =>
  intro l A c w hln hn hl hcap hc2 hA hs
  have HL := Lib.hid hl
  have HS := Lib.hid hs
  have HN := Lib.hid hln
  have IH := Lib.hid ih
  have HC := Lib.hid (And.intro hcap hA)
  clear hs ih
  by_cases h0 : n = 0
  · subst h0
    obtain rfl := List.eq_nil_of_length_eq_zero hln
    have HE : Hid (Calls Tryd.prog 36 #[.slice (some ⟨w.heap.size, 0, none⟩) 1 1] (w.alloc (.cells #[.string { data := #[101, 109, 112, 116, 121] }] 9)) fun e w' => e = .returned (.string (str (joinT [emptyT]))) ∧ Below w.heap.size w w') := Lib.hid (joined_lit [emptyT] w (by decide))
    clear hl HL HN hln IH HS HC
    go_enter Tryd.func15, Tryd.ntmps15
    go_wp2_with fail
    (with_reducible refine HE.out.mono ?_); rintro e w1 ⟨rfl, hb1⟩
    have HB := Lib.hid hb1
    clear hb1
    go_wp2_with fail
    refine bodyPost_ret (v := .slice (some ⟨w1.heap.size, 0, none⟩) 1 1) (by simp [results, Tryd.results15, go_sem]) rfl ⟨⟨_, rfl, ?_⟩, HB.out.alloc HB.out.size _⟩
    rw [texts_nil]
    exact ⟨_, 1, rfl, ⟨rfl, .inr ⟨w1.heap.size, 1, _, rfl, HB.out.size, Reg.heap_new _ _, Nat.le_refl _, by simp [maxLen], rfl, rfl⟩⟩, fun e => by simp at e⟩
  by_cases he : n = 1
  · subst he
    clear hl HL IH HS HC
    go_enter Tryd.func15, Tryd.ntmps15
    go_wp2_with fail
    refine bodyPost_ret (v := .slice none 0 0) (by simp [results, Tryd.results15, go_sem]) rfl ⟨⟨_, rfl, ?_⟩, Below.refl _ _⟩
    rw [texts_one HN.out]
    exact ⟨none, 0, rfl, Own.nil _ _, fun _ => rfl⟩
  have h2 : 2 ≤ n := by omega
  obtain ⟨q1, q2, q3, _⟩ := hf_spec h2
  have HH := Lib.hid (rhalf_any n w h2 (by omega))
  obtain ⟨k, hk⟩ : ∃ k, k = hf n := ⟨_, rfl⟩
  obtain ⟨A1, a1, E1, s1⟩ := strs_to (l := l) (A := A) (c := c) (k := k) hA (by omega) (by omega)
  obtain ⟨A2, a2, E2, s2⟩ := strs_from (l := l) (A := A) (c := c) (k := k) hA (by omega) (by omega)
  rw [hln] at E1 E2
  have HA := Lib.hid (And.intro a1 a2)
  have S1 := Lib.hid (s1 _ hl)
  have S2 := Lib.hid (s2 _ hl)
  rw [← hk] at HH
  have HK := Lib.hid hk
  rw [← hk] at q1 q2 q3
  have hn0 : ((n : Int) == 0) = false := by simp; omega
  have hn1 : ((n : Int) == 1) = false := by simp; omega
  have lt1 : Hid ((l.take k).length = k) := by unfold Hid; rw [List.length_take, HN.out]; omega
  have lt2 : Hid ((l.drop k).length = n - k) := by unfold Hid; rw [List.length_drop, HN.out]
  have T1 := texts_len k _ lt1.out
  have T2 := texts_len (n - k) _ lt2.out
  have TL : Hid ((textsT (l.take k)).length + (textsT (l.drop k)).length + 2 ≤ n) := by unfold Hid; omega
  clear hk s1 s2 a1 a2 hl hln he h0 T1 T2
  have C1 := Lib.hid (fun (W : World) (hb : Reg.Keep (fun _ => False) w W) => rroot_any k (l.take k) A1 c W lt1.out (by omega) (S1.out.below (keepN hb)) (by omega) hc2 HA.out.1 (sh_take HS.out k))
  have C2 := Lib.hid (fun (W : World) (hb : Reg.Keep (fun _ => False) w W) => rroot_any (n - k) (l.drop k) A2 (c - k) W lt2.out (by omega) (S2.out.below (keepN hb)) (by omega) (by omega) HA.out.2 (sh_drop HS.out k))
  have D1 := Lib.hid (fun (W : World) (hb : Below w.heap.size w W) => IH.out k (by omega) (l.take k) A1 c W lt1.out (by omega) (S1.out.below hb) (by omega) hc2 HA.out.1 (sh_take HS.out k))
  have D2 := Lib.hid (fun (W : World) (hb : Below w.heap.size w W) => IH.out (n - k) (by omega) (l.drop k) A2 (c - k) W lt2.out (by omega) (S2.out.below hb) (by omega) (by omega) HA.out.2 (sh_drop HS.out k))
  have sa := root_sh _ (sh_take HS.out k)
  have sb := root_sh _ (sh_drop HS.out k)
  have hstep : Hid (textsT l = textsT (l.take k) ++ textsT (l.drop k) ++ [jn (rootT (l.take k)) (rootT (l.drop k))]) := by
    unfold Hid
    rw [texts_step (by rw [HN.out]; exact h2), HN.out, ← HK.out]
  generalize rootT (l.take k) = a at *
  generalize rootT (l.drop k) = b at *
  have CJ : Hid (∀ (W : World) (g : Nat), Reg.Blk g #[.string { data := #[110, 111, 100, 101] }, .string (str a), .string (str b)] 9 W → Calls Tryd.prog 36 #[.slice (some ⟨g, 0, none⟩) 3 3] W fun e w' => e = .returned (.string (str (jn a b))) ∧ Below W.heap.size W w') := fun W g hg => joined_any (some ⟨g, 0, none⟩) 3 [nodeT, a, b] W (strs_lit [nodeT, a, b] hg) (few_node sa sb)
  clear sa sb
  go_enter Tryd.func15, Tryd.ntmps15
  go_wp2_with fail
  (with_reducible refine HH.out.mono ?_); rintro e w ⟨rfl, rfl⟩
  go_wp2_with fail
  refine Reg.wp_region_eff (fun _ => False) (jF a b) (fun _ _ => True) (by kernel_rfl) (by kernel_rfl) jF_s (fun _ _ _ _ _ => trivial) trivial ?_
  simp only
  iterate 8
    apply Reg.SeqE.val
    rotate_left 2
    · intro δ W hW hkn K hK
      obtain ⟨hc, hf, _⟩ := Reg.kcell hW
      simp only [Act.put, List.setIfInBounds_toArray, List.set_cons_zero, List.set_cons_succ] at hK
      unfold Reg.Does
      go_simp
      try simp only [IntWalk.i64_left]
      first
        | exact hK _ (Below.refl _ _)
        | (go_at_call 38; (with_reducible refine (C1.out _ hW).mono ?_); rintro e w' ⟨rfl, hb⟩; exact hK _ hb)
        | (go_at_call 38; (with_reducible refine (C2.out _ hW).mono ?_); rintro e w' ⟨rfl, hb⟩; exact hK _ hb)
        | (trace_state; fail)
    rotate_left 1
    · intro δ δ' hd; first | rfl | (simp only [hd _ (show Reg.reach _ 12 _ _ = true by kernel_rfl)])
    · intro x w; first | exact trivial | (intro e; exact absurd e (by decide)) | exact ⟨fun e => absurd e (by decide), fun e => absurd e (by decide)⟩
    simp only [Act.put, List.setIfInBounds_toArray, List.set_cons_zero, List.set_cons_succ, List.nil_append, List.cons_append, Nat.reduceAdd, Nat.zero_add]
  refine Reg.SeqE.new (fun δ W hW hkn K hK => ?_) ?_
  · simp only [Act.put, List.setIfInBounds_toArray, List.set_cons_zero, List.set_cons_succ] at hK
    unfold Reg.Does
    go_simp
    exact hK _ _ ((Below.refl _ _).alloc (Nat.le_refl _) _) ⟨fun _ => ⟨W.heap.size, rfl, Reg.Blk.new _ _ _⟩, fun e => absurd e (by decide)⟩
  simp only [Act.put, List.setIfInBounds_toArray, List.set_cons_zero, List.set_cons_succ, List.nil_append, List.cons_append, Nat.reduceAdd, Nat.zero_add]
  refine Reg.SeqE.new (fun δ W hW hkn K hK => ?_) ?_
  · obtain ⟨g, e8, hg⟩ := (hkn 8 (by kernel_rfl)).1 rfl
    simp only [Act.put, List.setIfInBounds_toArray, List.set_cons_zero, List.set_cons_succ] at hK
    rw [e8] at hK
    unfold Reg.Does
    rw [e8]
    go_simp
    (with_reducible refine (CJ.out W g hg).mono ?_); rintro e w' ⟨rfl, hb⟩
    exact hK _ _ hb ⟨fun e => absurd e (by decide), fun _ => rfl⟩
  simp only [Act.put, List.setIfInBounds_toArray, List.set_cons_zero, List.set_cons_succ, List.nil_append, List.cons_append, Nat.reduceAdd, Nat.zero_add]
  refine Reg.SeqE.val (fun _ => .string (str (jn a b))) (fun _ _ _ => rfl) (fun _ _ => ⟨fun e => absurd e (by decide), fun e => absurd e (by decide)⟩) (fun δ W hW hkn K hK => ?_) ?_
  · have e9 := (hkn 9 (by kernel_rfl)).2 rfl
    simp only [Act.put, List.setIfInBounds_toArray, List.set_cons_zero, List.set_cons_succ] at hK
    rw [e9] at hK
    unfold Reg.Does
    rw [e9]
    go_simp
    exact hK _ (Below.refl _ _)
  simp only [Act.put, List.setIfInBounds_toArray, List.set_cons_zero, List.set_cons_succ, List.nil_append, List.cons_append, Nat.reduceAdd, Nat.zero_add]
  refine Reg.SeqE.nil (fun δ W hW _ _ => ?_)
  generalize δ 8 = u25
  generalize δ 9 = u26
  have HB := Lib.hid (keepN hW)
  clear hW
  generalize hjn : jn a b = x at *
  go_wp2_with fail
  have KB : Hid (∀ W2, txR W.heap.size W W2 → Below w.heap.size w W2) := fun W2 h => HB.out.trans ((h.1.below fun q hq => ⟨hq, by omega⟩).mono HB.out.size)
  refine RegR.wp_region_eff (txR W.heap.size) (txF x) (txT W.heap.size (textsT (l.take k)) (textsT (l.drop k)) x) (by kernel_rfl) (by kernel_rfl) txR_t txR_b txF_s txT_s trivial ?_
  simp only
  iterate 3
    apply RegR.SeqE.val
    rotate_left 2
    · intro δ W hW hkn K hK
      obtain ⟨hc, hf, _⟩ := Reg.kcell hW.1
      simp only [Act.put, List.setIfInBounds_toArray, List.set_cons_zero, List.set_cons_succ] at hK
      unfold Reg.Does
      go_simp
      try simp only [IntWalk.i64_left]
      first
        | exact hK _ (Below.refl _ _)
        | (trace_state; fail)
    rotate_left 1
    · intro δ δ' hd; first | rfl | (simp only [hd _ (show Reg.reach _ 12 _ _ = true by kernel_rfl)])
    · intro x w; first | exact trivial | (intro e; exact absurd e (by decide)) | exact ⟨fun e => absurd e (by decide), fun e => absurd e (by decide)⟩
    simp only [Act.put, List.setIfInBounds_toArray, List.set_cons_zero, List.set_cons_succ, List.nil_append, List.cons_append, Nat.reduceAdd, Nat.zero_add]
  refine RegR.SeqE.eff (fun e h => by simp at h) (fun δ W2 hW hkn hT K hK => ?_) ?_
  · simp only [Act.put, List.setIfInBounds_toArray, List.set_cons_zero, List.set_cons_succ] at hK
    unfold Reg.Does
    go_simp
    (with_reducible refine (D1.out W2 (KB.out W2 hW)).mono ?_); rintro e w' ⟨⟨v, rfl, ho⟩, hb⟩
    exact hK _ _ (txR_b _ _ hb) (fun e => absurd e (by decide)) (ho.base hW.1.size)
  simp only [Act.put, List.setIfInBounds_toArray, List.set_cons_zero, List.set_cons_succ, List.nil_append, List.cons_append, Nat.reduceAdd, Nat.zero_add]
  iterate 3
    apply RegR.SeqE.val
    rotate_left 2
    · intro δ W hW hkn K hK
      obtain ⟨hc, hf, _⟩ := Reg.kcell hW.1
      simp only [Act.put, List.setIfInBounds_toArray, List.set_cons_zero, List.set_cons_succ] at hK
      unfold Reg.Does
      go_simp
      try simp only [IntWalk.i64_left]
      first
        | exact hK _ (Below.refl _ _)
        | (trace_state; fail)
    rotate_left 1
    · intro δ δ' hd; first | rfl | (simp only [hd _ (show Reg.reach _ 12 _ _ = true by kernel_rfl)])
    · intro x w; first | exact trivial | (intro e; exact absurd e (by decide)) | exact ⟨fun e => absurd e (by decide), fun e => absurd e (by decide)⟩
    simp only [Act.put, List.setIfInBounds_toArray, List.set_cons_zero, List.set_cons_succ, List.nil_append, List.cons_append, Nat.reduceAdd, Nat.zero_add]
  refine RegR.SeqE.eff (fun e h => by simp at h; subst h; kernel_rfl) (fun δ W2 hW hkn hT K hK => ?_) ?_
  · simp only [Act.put, List.setIfInBounds_toArray, List.set_cons_zero, List.set_cons_succ] at hK
    unfold Reg.Does
    go_simp
    (with_reducible refine (D2.out W2 (KB.out W2 hW)).mono ?_); rintro e w' ⟨⟨v, rfl, ho⟩, hb⟩
    exact hK _ _ (txR_b _ _ hb) (fun e => absurd e (by decide)) ⟨OwnN.below hT hb, ho.base hW.1.size⟩
  simp only [Act.put, List.setIfInBounds_toArray, List.set_cons_zero, List.set_cons_succ, List.nil_append, List.cons_append, Nat.reduceAdd, Nat.zero_add]
  refine RegR.SeqE.eff (fun e h => by simp at h; subst h; kernel_rfl) (fun δ W2 hW hkn hT K hK => ?_) ?_
  · obtain ⟨⟨Aa, ca, e1, ho1, hn1'⟩, ⟨Ab, cb, e2, ho2, hn2'⟩⟩ := hT
    have hp2 := ho2.parts
    rw [e1] at ho1
    obtain ⟨A2', c2', e2', hs2, _, _, hA2', _⟩ := hp2
    rw [e2] at e2'
    injection e2' with e3 _ e5
    subst e3 e5
    refine does_appS (by rfl) _ _ rfl e1 e2 ho1 hs2 hA2' (by have := TL.out; omega) hW.1.size hn1' ?_
    intro A' c' w' ho hk hone hnil
    exact hK _ _ ⟨hk, hone⟩ (fun e => absurd e (by decide)) ⟨A', c', rfl, ho, hnil⟩
  simp only [Act.put, List.setIfInBounds_toArray, List.set_cons_zero, List.set_cons_succ, List.nil_append, List.cons_append, Nat.reduceAdd, Nat.zero_add]
  iterate 1
    apply RegR.SeqE.val
    rotate_left 2
    · intro δ W hW hkn K hK
      obtain ⟨hc, hf, _⟩ := Reg.kcell hW.1
      simp only [Act.put, List.setIfInBounds_toArray, List.set_cons_zero, List.set_cons_succ] at hK
      unfold Reg.Does
      go_simp
      try simp only [IntWalk.i64_left]
      first
        | exact hK _ (Below.refl _ _)
        | (trace_state; fail)
    rotate_left 1
    · intro δ δ' hd; first | rfl | (simp only [hd _ (show Reg.reach _ 12 _ _ = true by kernel_rfl)])
    · intro x w; first | exact trivial | (intro e; exact absurd e (by decide)) | exact ⟨fun e => absurd e (by decide), fun e => absurd e (by decide)⟩
    simp only [Act.put, List.setIfInBounds_toArray, List.set_cons_zero, List.set_cons_succ, List.nil_append, List.cons_append, Nat.reduceAdd, Nat.zero_add]
  refine RegR.SeqE.new (fun δ W2 hW hkn K hK => ?_) ?_
  · simp only [Act.put, List.setIfInBounds_toArray, List.set_cons_zero, List.set_cons_succ] at hK
    unfold Reg.Does
    go_simp
    exact hK _ _ ((Below.refl _ _).alloc (Nat.le_refl _) _) (fun _ => ⟨W2.heap.size, rfl, Reg.Blk.new _ _ _⟩)
  simp only [Act.put, List.setIfInBounds_toArray, List.set_cons_zero, List.set_cons_succ, List.nil_append, List.cons_append, Nat.reduceAdd, Nat.zero_add]
  refine RegR.SeqE.eff (fun e h => by simp at h; subst h; kernel_rfl) (fun δ W2 hW hkn hT K hK => ?_) ?_
  · obtain ⟨Aa, ca, e1, ho1, hn1'⟩ := hT
    obtain ⟨g, e2, hg⟩ := hkn 10 (by kernel_rfl) rfl
    rw [e1] at ho1
    refine does_appS (m := [x]) (by rfl) _ _ rfl e1 e2 ho1 (strs_lit [x] hg) (fun e => by cases e) (by have := TL.out; simp; omega) hW.1.size hn1' ?_
    intro A' c' w' ho hk hone hnil
    exact hK _ _ ⟨hk, hone⟩ (fun e => absurd e (by decide)) ⟨A', c', rfl, ho, hnil⟩
  simp only [Act.put, List.setIfInBounds_toArray, List.set_cons_zero, List.set_cons_succ, List.nil_append, List.cons_append, Nat.reduceAdd, Nat.zero_add]
  refine RegR.SeqE.val (fun δ => δ 11) (fun δ δ' hd => hd 11 (by kernel_rfl)) (fun _ _ => fun e => absurd e (by decide)) (fun δ W hW hkn K hK => ?_) ?_
  · simp only [Act.put, List.setIfInBounds_toArray, List.set_cons_zero, List.set_cons_succ] at hK
    unfold Reg.Does
    go_simp
    exact hK _ (Below.refl _ _)
  simp only [Act.put, List.setIfInBounds_toArray, List.set_cons_zero, List.set_cons_succ, List.nil_append, List.cons_append, Nat.reduceAdd, Nat.zero_add]
  refine RegR.SeqE.nil (fun δ W2 hW _ hT => ?_)
  have hB2 := KB.out W2 hW
  have hT' : OwnN W.heap.size W2 (δ 11) (textsT (l.take k) ++ textsT (l.drop k) ++ [x]) := hT
  generalize δ 3 = u30
  generalize δ 7 = u34
  generalize δ 8 = u35
  generalize δ 10 = u37
  generalize δ 11 = u38 at hT' ⊢
  have HO := Lib.hid (hT'.base HB.out.size)
  have HB2 := Lib.hid hB2
  clear hT hT' hB2 hW
  go_wp2_with fail
  refine bodyPost_ret (v := u38) (by simp [results, Tryd.results15, go_sem]) rfl ⟨⟨_, rfl, ?_⟩, HB2.out⟩
  rw [hstep.out]
  exact HO.out

end S
end Go.Proofs.YtejhefmcinohhaaDoor

/- Trees: the reference's 'PathTexts', 'LinkTexts'. -/
namespace Go.Proofs.YtejhefmcinohhaaDoor
open Go.RowKit
namespace S

theorem pt_len : ∀ n i d (q : List Tx), (pathTexts n i d q).length = lenT n i := by
  intro n
  induction n using Nat.strongRecOn with
  | ind n ih =>
    intro i d q
    by_cases h2 : 2 ≤ n
    · obtain ⟨k0, k1, k2, _⟩ := hf_spec h2
      by_cases hk : i < hf n
      · rw [pt_left _ _ h2 hk, len_left h2 hk, List.length_append, ih (hf n) k1]; simp; omega
      · rw [pt_right _ _ h2 hk, len_right h2 hk, List.length_append, ih (n - hf n) (by omega)]; simp; omega
    · rw [pt_one _ _ _ (by omega), len_one _ (by omega)]; rfl
theorem lt_len : ∀ n m whole d (q : List Tx), (linkTexts n m whole d q).length ≤ 2 * n := by
  intro n
  induction n using Nat.strongRecOn with
  | ind n ih =>
    intro m whole d q
    by_cases hlt : m < n
    · by_cases h2 : 2 ≤ n
      · obtain ⟨k0, k1, k2, _⟩ := hf_spec h2
        by_cases hk : m ≤ hf n
        · rw [lt_left _ _ _ hlt h2 hk, List.length_append]; have := ih (hf n) k1 m whole d q.tail; simp; omega
        · rw [lt_right _ _ _ hlt h2 hk, List.length_append, List.length_append]; have := ih (n - hf n) (by omega) (m - hf n) false d q.tail; simp; omega
      · rw [linkTexts, if_neg (by omega), if_pos (by omega)]; simp
    · rw [lt_end _ _ _ (by omega)]; simp
theorem joinedN (a b : Tx) (ha : Sh a) (hb : Sh b) (w : World) : Calls Tryd.prog 36 #[.slice (some ⟨w.heap.size, 0, none⟩) 3 3] (w.alloc (.cells #[.string { data := #[110, 111, 100, 101] }, .string (str a), .string (str b)] 9)) fun e w' => e = .returned (.string (str (jn a b))) ∧ Below w.heap.size w w' :=
  joined_lit [nodeT, a, b] w (few_node ha hb)

attribute [local go_sem ↓ high] Ap.builtin_appA in
set_option maxHeartbeats 1000000 in
theorem rptexts_any (d : Tx) (hd : Sh d) : ∀ (n i : Nat) (p : List Tx) (A : Option Addr) (c m : Nat) (w : World), i < n → n ≤ 1000000 → p.length = m → m = lenT n i → m ≤ 1000 → StrsAt w A p → m ≤ c → c ≤ 9223372036854775807 → (∀ t ∈ p, Sh t) →
    Calls Tryd.prog 16 #[.int .i64 n, .int .i64 i, .string (str d), .slice A m c] w fun e w' => (∃ v, e = .returned v ∧ Own w.heap.size w' v (pathTexts n i d p.reverse)) ∧ Below w.heap.size w w' := by
  intro n
  induction n using Nat.strongRecOn with
  | ind n ih =>
  intro i p A c m w hi hn hpl hml hm1 hl hcap hc2 hs
  have IH := Lib.hid ih
  have HL := Lib.hid (And.intro hl hs)
  clear ih hs
  by_cases h1 : n = 1
  · subst h1
    have HU := Lib.hid (pt_one i d p.reverse (Nat.le_refl 1))
    clear hl HL hpl hml
    go_enter Tryd.func16, Tryd.ntmps16
    go_wp2_with fail
    refine bodyPost_ret (v := .slice none 0 0) (by simp [results, Tryd.results16, go_sem]) rfl ⟨⟨_, rfl, ?_⟩, Below.refl _ _⟩
    rw [HU.out]; exact Own.nil _ _
  have h2 : 2 ≤ n := by omega
  obtain ⟨q1, q2, q3, _⟩ := hf_spec h2
  have HH := Lib.hid (rhalf_any n w h2 hn)
  obtain ⟨k, hk⟩ : ∃ k, k = hf n := ⟨_, rfl⟩
  rw [← hk] at HH q1 q2 q3
  have HK := Lib.hid hk
  have hn1 : ((n : Int) == 1) = false := by simp; omega
  have hpos : ∃ j, m = j + 1 ∧ j = if i < k then lenT k i else lenT (n - k) (i - k) := by
    rw [hk]
    by_cases h : i < hf n
    · rw [if_pos h]; exact ⟨_, by rw [hml, len_left h2 h, Nat.add_comm], rfl⟩
    · rw [if_neg h]; exact ⟨_, by rw [hml, len_right h2 h, Nat.add_comm], rfl⟩
  clear hk hml
  obtain ⟨j, rfl, hj⟩ := hpos
  obtain ⟨r, x, rfl, hr⟩ := last_of hpl
  obtain ⟨b, off, rfl, zb, cx⟩ := last_at hl
  rw [hr] at cx
  obtain ⟨A1, a1, E1, s1⟩ := init_to (b := b) (off := off) (x := x) hr hcap
  have S1 := Lib.hid (s1 _ HL.out.1)
  have HS1 : Hid (∀ t ∈ r, Sh t) := fun t ht => HL.out.2 t (List.mem_append_left _ ht)
  have HSX : Hid (Sh x) := HL.out.2 x (by simp)
  have hj6 : (j : Int) < (j : Int) + 1 := by omega
  have hsub := sub1 (n := j) (by omega)
  have hw64 : IntKind.i64.wrap (j : Int) = (j : Int) := by rw [IntWalk.i64_left]; exact IntWalk.wrap64_in _ (by omega)
  have hj0 : (0 : Int) ≤ (j : Int) := by omega
  have hrv : Hid ((r ++ [x]).reverse = x :: r.reverse) := by unfold Hid; simp
  clear hl s1 hpl h1
  by_cases hik : i < k
  · have hik' : (i : Int) < (k : Int) := by omega
    rw [if_pos hik] at hj
    have HR := Lib.hid (fun (W : World) (hb : Below w.heap.size w W) => IH.out k q2 i r A1 c j W hik (by omega) hr hj (by omega) (S1.out.below hb) (by omega) hc2 HS1.out)
    have HU := Lib.hid (fun (W : World) (hb : Below w.heap.size w W) => rup_any d hd k i r A1 c j W hik (by omega) hr hj (by omega) (S1.out.below hb) (by omega) hc2 HS1.out)
    have HUS := Lib.hid (up_sh k i d r.reverse hd)
    have HLn : Hid ((pathTexts k i d r.reverse).length ≤ 1000) := by unfold Hid; rw [pt_len, ← hj]; omega
    have HFin : Hid (pathTexts n i d (x :: r.reverse) = pathTexts k i d r.reverse ++ [jn (upT k i d r.reverse) x]) := by
      unfold Hid
      rw [pt_left d _ h2 (by rw [← HK.out]; exact hik), ← HK.out]; rfl
    generalize upT k i d r.reverse = u at *
    generalize pathTexts k i d r.reverse = ps at *
    have HJ := Lib.hid (fun W => joinedN u x HUS.out HSX.out W)
    clear hj hr
    go_enter Tryd.func16, Tryd.ntmps16
    go_wp2_with fail
    (with_reducible refine HH.out.mono ?_); rintro e w ⟨rfl, rfl⟩
    go_wp2_with fail
    (with_reducible refine (HR.out _ (Below.refl _ _)).mono ?_); rintro e w2 ⟨⟨v, rfl, ho2⟩, hb2⟩
    have HO2 := Lib.hid ho2
    have HB2 := Lib.hid hb2
    clear hb2 ho2
    go_wp2_with fail
    (with_reducible refine (HU.out _ HB2.out).mono ?_); rintro e w3 ⟨rfl, hb3⟩
    have HO3 := Lib.hid (HO2.out.below hb3)
    have HB3 := Lib.hid (HB2.out.trans (hb3.mono HB2.out.size))
    clear hb3
    go_wp2_with fail
    (with_reducible refine (HJ.out _).mono ?_); rintro e w4 ⟨rfl, hb4⟩
    have hO4 := HO3.out.below hb4
    have hB4 := HB3.out.trans (hb4.mono HB3.out.size)
    obtain ⟨A', c', e', _, _, _, _, _⟩ := hO4.parts
    subst e'
    obtain ⟨A5, c5, w5, hrun, ho5, hL5⟩ := app1 (jn u x) hO4 (by have := HLn.out; omega) hB4 hB4.size
    have HO5 := Lib.hid ho5
    have HL5 := Lib.hid hL5
    clear hb4 hO4 hB4 ho5 hL5 HO2 HO3
    go_wp2_with fail
    refine bodyPost_ret (v := .slice A5 (ps ++ [jn u x]).length c5) (by simp [results, Tryd.results16, go_sem]) rfl ⟨⟨_, rfl, ?_⟩, HL5.out⟩
    rw [hrv.out, HFin.out]
    exact HO5.out
  · have hik' : ¬ (i : Int) < (k : Int) := by omega
    rw [if_neg hik] at hj
    have hs1 := sub2 (n := n) (k := k) hn (by omega)
    have hs2 := sub2 (n := i) (k := k) (by omega) (by omega)
    have HR := Lib.hid (fun (W : World) (hb : Below w.heap.size w W) => IH.out (n - k) (by omega) (i - k) r A1 c j W (by omega) (by omega) hr hj (by omega) (S1.out.below hb) (by omega) hc2 HS1.out)
    have HU := Lib.hid (fun (W : World) (hb : Below w.heap.size w W) => rup_any d hd (n - k) (i - k) r A1 c j W (by omega) (by omega) hr hj (by omega) (S1.out.below hb) (by omega) hc2 HS1.out)
    have HUS := Lib.hid (up_sh (n - k) (i - k) d r.reverse hd)
    have HLn : Hid ((pathTexts (n - k) (i - k) d r.reverse).length ≤ 1000) := by unfold Hid; rw [pt_len, ← hj]; omega
    have HFin : Hid (pathTexts n i d (x :: r.reverse) = pathTexts (n - k) (i - k) d r.reverse ++ [jn x (upT (n - k) (i - k) d r.reverse)]) := by
      unfold Hid
      rw [pt_right d _ h2 (by rw [← HK.out]; exact hik), ← HK.out]; rfl
    generalize upT (n - k) (i - k) d r.reverse = u at *
    generalize pathTexts (n - k) (i - k) d r.reverse = ps at *
    have HJ := Lib.hid (fun W => joinedN x u HSX.out HUS.out W)
    clear hj hr
    go_enter Tryd.func16, Tryd.ntmps16
    go_wp2_with fail
    (with_reducible refine HH.out.mono ?_); rintro e w ⟨rfl, rfl⟩
    go_wp2_with fail
    (with_reducible refine (HR.out _ (Below.refl _ _)).mono ?_); rintro e w2 ⟨⟨v, rfl, ho2⟩, hb2⟩
    have HO2 := Lib.hid ho2
    have HB2 := Lib.hid hb2
    clear hb2 ho2
    go_wp2_with fail
    (with_reducible refine (HU.out _ HB2.out).mono ?_); rintro e w3 ⟨rfl, hb3⟩
    have HO3 := Lib.hid (HO2.out.below hb3)
    have HB3 := Lib.hid (HB2.out.trans (hb3.mono HB2.out.size))
    clear hb3
    go_wp2_with fail
    (with_reducible refine (HJ.out _).mono ?_); rintro e w4 ⟨rfl, hb4⟩
    have hO4 := HO3.out.below hb4
    have hB4 := HB3.out.trans (hb4.mono HB3.out.size)
    obtain ⟨A', c', e', _, _, _, _, _⟩ := hO4.parts
    subst e'
    obtain ⟨A5, c5, w5, hrun, ho5, hL5⟩ := app1 (jn x u) hO4 (by have := HLn.out; omega) hB4 hB4.size
    have HO5 := Lib.hid ho5
    have HL5 := Lib.hid hL5
    clear hb4 hO4 hB4 ho5 hL5 HO2 HO3
    go_wp2_with fail
    refine bodyPost_ret (v := .slice A5 (ps ++ [jn x u]).length c5) (by simp [results, Tryd.results16, go_sem]) rfl ⟨⟨_, rfl, ?_⟩, HL5.out⟩
    rw [hrv.out, HFin.out]
    exact HO5.out

attribute [local go_sem ↓ high] Ap.builtin_appA in
set_option maxHeartbeats 2000000 in
theorem rltexts_any (d : Tx) (hd : Sh d) : ∀ (n i : Nat) (whole : Bool) (p : List Tx) (A : Option Addr) (c m : Nat) (w : World), 1 ≤ i → i ≤ n → n ≤ 1000 → p.length = m → m = longT n i whole → m ≤ 1000 → StrsAt w A p → m ≤ c → c ≤ 9223372036854775807 → (∀ t ∈ p, Sh t) →
    Calls Tryd.prog 21 #[.int .i64 n, .int .i64 i, .bool whole, .string (str d), .slice A m c] w fun e w' => (∃ v, e = .returned v ∧ Own w.heap.size w' v (linkTexts n i whole d p.reverse)) ∧ Below w.heap.size w w' := by
  intro n
  induction n using Nat.strongRecOn with
  | ind n ih =>
  intro i whole p A c m w hi1 hi hn hpl hml hm1 hl hcap hc2 hs
  have IH := Lib.hid ih
  have HL := Lib.hid (And.intro hl hs)
  clear ih hs
  by_cases h1 : i = n
  · subst h1
    have HU := Lib.hid (lt_end whole d p.reverse (Nat.le_refl i))
    clear hl HL hpl hml
    go_enter Tryd.func21, Tryd.ntmps21
    go_wp2_with fail
    refine bodyPost_ret (v := .slice none 0 0) (by simp [results, Tryd.results21, go_sem]) rfl ⟨⟨_, rfl, ?_⟩, Below.refl _ _⟩
    rw [HU.out]; exact Own.nil _ _
  have hlt : i < n := by omega
  have h2 : 2 ≤ n := by omega
  obtain ⟨q1, q2, q3, _⟩ := hf_spec h2
  have HH := Lib.hid (rhalf_any n w h2 (by omega))
  obtain ⟨k, hk⟩ : ∃ k, k = hf n := ⟨_, rfl⟩
  rw [← hk] at HH q1 q2 q3
  have HK := Lib.hid hk
  have hn1 : ((i : Int) == (n : Int)) = false := by simp; omega
  have hn2 : ¬ (i : Int) = (n : Int) := by omega
  have hpos : ∃ j, m = j + 1 ∧ j = if i ≤ k then longT k i whole else longT (n - k) (i - k) false := by
    rw [hk]
    by_cases h : i ≤ hf n
    · rw [if_pos h]; exact ⟨_, by rw [hml, long_left whole hlt h2 h, Nat.add_comm], rfl⟩
    · rw [if_neg h]; exact ⟨_, by rw [hml, long_right whole hlt h2 h, Nat.add_comm], rfl⟩
  clear hk hml
  obtain ⟨j, rfl, hj⟩ := hpos
  obtain ⟨r, x, rfl, hr⟩ := last_of hpl
  obtain ⟨b, off, rfl, zb, cx⟩ := last_at hl
  rw [hr] at cx
  obtain ⟨A1, a1, E1, s1⟩ := init_to (b := b) (off := off) (x := x) hr hcap
  have S1 := Lib.hid (s1 _ HL.out.1)
  have HS1 : Hid (∀ t ∈ r, Sh t) := fun t ht => HL.out.2 t (List.mem_append_left _ ht)
  have HS1r : Hid (∀ t ∈ r.reverse, Sh t) := fun t ht => HS1.out t (List.mem_reverse.1 ht)
  have HSX : Hid (Sh x) := HL.out.2 x (by simp)
  have hj6 : (j : Int) < (j : Int) + 1 := by omega
  have hsub := sub1 (n := j) (by omega)
  have hw64 : IntKind.i64.wrap (j : Int) = (j : Int) := by rw [IntWalk.i64_left]; exact IntWalk.wrap64_in _ (by omega)
  have hj0 : (0 : Int) ≤ (j : Int) := by omega
  have hrv : Hid ((r ++ [x]).reverse = x :: r.reverse) := by unfold Hid; simp
  clear hl s1 hpl h1
  by_cases hik : i ≤ k
  · have hik' : (i : Int) ≤ (k : Int) := by omega
    rw [if_pos hik] at hj
    have HR := Lib.hid (fun (W : World) (hb : Below w.heap.size w W) => IH.out k q2 i whole r A1 c j W hi1 hik (by omega) hr hj (by omega) (S1.out.below hb) (by omega) hc2 HS1.out)
    have HU := Lib.hid (fun (W : World) (hb : Below w.heap.size w W) => rboth_any d hd k i whole r A1 c j W hi1 hik (by omega) hr hj (by omega) (S1.out.below hb) (by omega) hc2 HS1.out)
    have HUS := Lib.hid (both_sh k i whole d r.reverse hd HS1r.out)
    have HLn : Hid ((linkTexts k i whole d r.reverse).length ≤ 2000) := by unfold Hid; have := lt_len k i whole d r.reverse; omega
    have HFin : Hid (linkTexts n i whole d (x :: r.reverse) = linkTexts k i whole d r.reverse ++ [jn (bothT k i whole d r.reverse).2 x]) := by
      unfold Hid
      rw [lt_left _ _ _ hlt h2 (by rw [← HK.out]; exact hik), ← HK.out]; rfl
    generalize bothT k i whole d r.reverse = u at *
    generalize linkTexts k i whole d r.reverse = ps at *
    have HJ := Lib.hid (fun W => joinedN u.2 x HUS.out.2 HSX.out W)
    clear hj hr
    go_enter Tryd.func21, Tryd.ntmps21
    go_wp2_with fail
    (with_reducible refine HH.out.mono ?_); rintro e w ⟨rfl, rfl⟩
    go_wp2_with fail
    (with_reducible refine (HU.out _ (Below.refl _ _)).mono ?_); rintro e w2 ⟨rfl, hb2⟩
    have HB2 := Lib.hid hb2
    clear hb2
    go_wp2_with fail
    (with_reducible refine (HR.out _ HB2.out).mono ?_); rintro e w3 ⟨⟨v, rfl, ho3⟩, hb3⟩
    have HO3 : Hid (Own w.heap.size w3 v ps) := Ap.own_base ho3 HB2.out.size
    have HB3 := Lib.hid (HB2.out.trans (hb3.mono HB2.out.size))
    clear hb3 ho3
    go_wp2_with fail
    (with_reducible refine (HJ.out _).mono ?_); rintro e w4 ⟨rfl, hb4⟩
    have hO4 := HO3.out.below hb4
    have hB4 := HB3.out.trans (hb4.mono HB3.out.size)
    obtain ⟨A', c', e', _, _, _, _, _⟩ := hO4.parts
    subst e'
    obtain ⟨A5, c5, w5, hrun, ho5, hL5⟩ := app1 (jn u.2 x) hO4 (by have := HLn.out; omega) hB4 hB4.size
    have HO5 := Lib.hid ho5
    have HL5 := Lib.hid hL5
    clear hb4 hO4 hB4 ho5 hL5 HO3
    go_wp2_with fail
    refine bodyPost_ret (v := .slice A5 (ps ++ [jn u.2 x]).length c5) (by simp [results, Tryd.results21, go_sem]) rfl ⟨⟨_, rfl, ?_⟩, HL5.out⟩
    rw [hrv.out, HFin.out]
    exact HO5.out
  · have hik' : ¬ (i : Int) ≤ (k : Int) := by omega
    rw [if_neg hik] at hj
    have hs1 := sub2 (n := n) (k := k) (by omega) (by omega)
    have hs2 := sub2 (n := i) (k := k) (by omega) (by omega)
    have HR := Lib.hid (fun (W : World) (hb : Below w.heap.size w W) => IH.out (n - k) (by omega) (i - k) false r A1 c j W (by omega) (by omega) (by omega) hr hj (by omega) (S1.out.below hb) (by omega) hc2 HS1.out)
    have HU := Lib.hid (fun (W : World) (hb : Below w.heap.size w W) => rboth_any d hd (n - k) (i - k) false r A1 c j W (by omega) (by omega) (by omega) hr hj (by omega) (S1.out.below hb) (by omega) hc2 HS1.out)
    have HUS := Lib.hid (both_sh (n - k) (i - k) false d r.reverse hd HS1r.out)
    have HLn : Hid ((linkTexts (n - k) (i - k) false d r.reverse).length ≤ 2000) := by unfold Hid; have := lt_len (n - k) (i - k) false d r.reverse; omega
    have HFin : Hid (linkTexts n i whole d (x :: r.reverse) = linkTexts (n - k) (i - k) false d r.reverse ++ [jn x (bothT (n - k) (i - k) false d r.reverse).1] ++ [jn x (bothT (n - k) (i - k) false d r.reverse).2]) := by
      unfold Hid
      rw [lt_right _ _ _ hlt h2 (by rw [← HK.out]; exact hik), ← HK.out]; rfl
    generalize bothT (n - k) (i - k) false d r.reverse = u at *
    generalize linkTexts (n - k) (i - k) false d r.reverse = ps at *
    have HJ := Lib.hid (fun W => joinedN x u.1 HSX.out HUS.out.1 W)
    have HJ2 := Lib.hid (fun W => joinedN x u.2 HSX.out HUS.out.2 W)
    clear hj hr
    go_enter Tryd.func21, Tryd.ntmps21
    go_wp2_with fail
    (with_reducible refine HH.out.mono ?_); rintro e w ⟨rfl, rfl⟩
    go_wp2_with fail
    (with_reducible refine (HU.out _ (Below.refl _ _)).mono ?_); rintro e w2 ⟨rfl, hb2⟩
    have HB2 := Lib.hid hb2
    clear hb2
    go_wp2_with fail
    (with_reducible refine (HR.out _ HB2.out).mono ?_); rintro e w3 ⟨⟨v, rfl, ho3⟩, hb3⟩
    have HO3 : Hid (Own w.heap.size w3 v ps) := Ap.own_base ho3 HB2.out.size
    have HB3 := Lib.hid (HB2.out.trans (hb3.mono HB2.out.size))
    clear hb3 ho3
    go_wp2_with fail
    (with_reducible refine (HJ.out _).mono ?_); rintro e w4 ⟨rfl, hb4⟩
    have hO4 := HO3.out.below hb4
    have hB4 := HB3.out.trans (hb4.mono HB3.out.size)
    obtain ⟨A', c', e', _, _, _, _, _⟩ := hO4.parts
    subst e'
    obtain ⟨A5, c5, w5, hrun, ho5, hL5⟩ := app1 (jn x u.1) hO4 (by have := HLn.out; omega) hB4 hB4.size
    have HO5 := Lib.hid ho5
    have HL5 := Lib.hid hL5
    clear hb4 hO4 hB4 ho5 hL5 HO3
    go_wp2_with fail
    (with_reducible refine (HJ2.out _).mono ?_); rintro e w6 ⟨rfl, hb6⟩
    have hO6 := HO5.out.below hb6
    have hB6 := HL5.out.trans (hb6.mono HL5.out.size)
    obtain ⟨A7, c7, w7, hrun7, ho7, hL7⟩ := app1 (jn x u.2) hO6 (by have := HLn.out; simp; omega) hB6 hB6.size
    have HO7 := Lib.hid ho7
    have HL7 := Lib.hid hL7
    have elen : (ps ++ [jn x u.1]).length = ps.length + 1 := by simp
    rw [elen] at hrun7
    clear hb6 hO6 hB6 ho7 hL7 HO5 hrun elen
    go_wp2_with fail
    refine bodyPost_ret (v := .slice A7 (ps ++ [jn x u.1] ++ [jn x u.2]).length c7) (by simp [results, Tryd.results21, go_sem]) rfl ⟨⟨_, rfl, ?_⟩, HL7.out⟩
    rw [hrv.out, HFin.out]
    exact HO7.out

end S
end Go.Proofs.YtejhefmcinohhaaDoor
