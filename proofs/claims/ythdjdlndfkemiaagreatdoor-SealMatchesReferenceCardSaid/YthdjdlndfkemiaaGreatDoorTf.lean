/- Trees: a proof in memory: 'pop', 'next', 'done'. -/
import Derived.Test.YthdjdlndfkemiaaGreatDoorTc
import Derived.Test.YthdjdlndfkemiaaGreatDoorReh
set_option linter.unusedSimpArgs false
set_option linter.unusedVariables false
set_option maxRecDepth 100000
namespace Go.Proofs.YthdjdlndfkemiaaGreatDoor
open Go.RowKit
namespace S

/-- A row of digests in a block of its own: 'q' in the order of 'pop'. -/
structure DigsAt (w : World) (X : Nat → Prop) (gd : Nat) (q : List Tx) : Prop where
  own : X gd
  blk : ∃ A c, Reg.Blk gd #[.slice A q.length c] 66 w ∧ StrsAt w A q.reverse ∧ q.length ≤ c ∧ c ≤ 9223372036854775807 ∧ (A = none → c = 0) ∧ ∀ b off, A = some ⟨b, off, none⟩ → ¬ X b
theorem digs_elem : Tryz.prog.underlying 66 = some (.slice (Tryz.prog.elem 66)) := by kernel_rfl
theorem digs_size : ∀ w, (sizeOf (Tryz.prog.elem 66)).run Tryz.prog w = .ok 1 w := fun w => by
  rw [show Tryz.prog.elem 66 = 9 by kernel_rfl]; exact Tryz.sizeOf9 w
theorem digs_cut {b off n c k : Nat} (hk : k ≤ n) (hc : n ≤ c) (h0 : 0 < c) (w : World) :
    (Instr.slice 66 (.slice (some ⟨b, off, none⟩) n c) none (some (.int .i64 (k : Int))) none).run Tryz.prog w = .ok (.slice (some ⟨b, off, none⟩) k c) w := by
  obtain ⟨A', h1, h2, h3⟩ := Ap.slicedG (sz := 1) (some ⟨b, off, none⟩) c 0 k (fun e => by cases e)
  have e := h3 h0 b off rfl
  rw [Nat.zero_mul, Nat.add_zero] at e
  subst e
  rw [run_slice_h w 66 (some ⟨b, off, none⟩) n c digs_elem .i64 (k : Int) (by omega) (by omega), digs_size]
  simp only [Result.andThen_ok, Int.toNat_natCast]
  rw [h1]; rfl

theorem pop_nil (X : Nat → Prop) (gd : Nat) (w : World) (h : DigsAt w X gd []) :
    Calls Tryz.prog 93 #[.pointer (some ⟨gd, 0, none⟩)] w fun e w' => e = .returned (.string (str [])) ∧ w' = w := by
  obtain ⟨A, c, hb, _⟩ := h.blk
  obtain ⟨c0, f0, z0⟩ := hb.facts
  simp only [List.length_nil] at c0
  clear hb h
  go_enter Tryz.func93, Tryz.ntmps93
  go_wp2_with fail
  go_ret
  exact ⟨rfl, rfl⟩
theorem pop_cons (X : Nat → Prop) (gd : Nat) (t : Tx) (q : List Tx) (w : World) (h : DigsAt w X gd (t :: q)) (hn : q.length ≤ 1000000) :
    Calls Tryz.prog 93 #[.pointer (some ⟨gd, 0, none⟩)] w fun e w' => e = .returned (.string (str t)) ∧ DigsAt w' X gd q ∧ Reg.Keep (fun k => k = gd) w w' := by
  obtain ⟨A, c, hb, hs, hc1, hc2, hA, hne⟩ := h.blk
  have HB := Lib.hid hb
  have HS := Lib.hid hs
  obtain ⟨c0, f0, z0⟩ := hb.facts
  obtain ⟨b, off, rfl, zb, ct⟩ := hs q.length (by simp)
  have e0 : (t :: q).reverse[q.length]'(by simp) = t := by simp
  rw [e0] at ct
  have hcap : q.length + 1 ≤ c := by simpa using hc1
  have hlen : ((t :: q).reverse).length = q.length + 1 := by simp
  have hlen2 : (t :: q).length = q.length + 1 := rfl
  rw [hlen2] at c0
  have HN : Hid ((∀ b' off', some (⟨b, off, none⟩ : Addr) = some ⟨b', off', none⟩ → b' ≠ gd) ∧ c ≤ 9223372036854775807) := ⟨fun b' off' e h' => hne b' off' e (h' ▸ h.own), hc2⟩
  have HX := Lib.hid (And.intro h.own hne)
  obtain ⟨n, hn0⟩ : ∃ n, n = q.length := ⟨_, rfl⟩
  rw [← hn0] at c0 ct hcap hn
  have E1 := digs_cut (b := b) (off := off) (n := n + 1) (c := c) (k := n) (by omega) hcap (by omega)
  have HN0 := Lib.hid hn0
  have hn1 : ((n : Int) + 1 == 0) = false := by simp; omega
  have hsub : IntKind.i64.wrap (((n + 1 : Nat) : Int) - 1) = (n : Int) := by
    simp only [IntKind.wrap, IntKind.signed, IntKind.bits]; simp; omega
  have hn2 : (n : Int) < (n : Int) + 1 := by omega
  have hw64 : IntKind.i64.wrap (n : Int) = (n : Int) := by rw [IntWalk.i64_left]; exact IntWalk.wrap64_in _ (by omega)
  have hn3 : (0 : Int) ≤ (n : Int) := by omega
  have HC0 := Lib.hid c0
  clear hb hs h hne hc1 hlen hlen2 hA e0 hn0
  go_enter Tryz.func93, Tryz.ntmps93
  go_wp2_with fail
  refine Reg.wp_region_seq (by kernel_rfl) (by kernel_rfl) ?_
  simp only
  iterate 11
    apply Reg.SeqOK.val
    · intro γ W hW K hK
      obtain ⟨hc, hf, _⟩ := bcell hW
      simp only [Act.put, List.setIfInBounds_toArray, List.set_cons_zero, List.set_cons_succ] at hK
      unfold Reg.Does
      go_simp
      try simp only [IntWalk.i64_left]
      first
        | exact hK _ (Below.refl _ _)
        | (trace_state; fail)
    simp only [Act.put, List.setIfInBounds_toArray, List.set_cons_zero, List.set_cons_succ, List.nil_append, List.cons_append, Nat.reduceAdd, Nat.zero_add]
  refine Reg.SeqOK.nil (by kernel_rfl) (fun γ W hW _ _ _ => ?_)
  have HW := Lib.hid hW
  have HB2 := Lib.hid (HB.out.keep hW)
  clear hW
  clear c0
  clear f0
  obtain ⟨c0, f0, z1⟩ := HB2.out.facts
  clear z0
  simp only [List.length_cons, ← HN0.out] at c0
  go_wp2_with fail
  refine Reg.wp_region_seq (by kernel_rfl) (by kernel_rfl) ?_
  simp only
  iterate 11
    apply Reg.SeqOK.val
    · intro γ W hW K hK
      obtain ⟨hc, hf, _⟩ := bcell hW
      simp only [Act.put, List.setIfInBounds_toArray, List.set_cons_zero, List.set_cons_succ] at hK
      unfold Reg.Does
      go_simp
      try simp only [IntWalk.i64_left]
      first
        | exact hK _ (Below.refl _ _)
        | (trace_state; fail)
    simp only [Act.put, List.setIfInBounds_toArray, List.set_cons_zero, List.set_cons_succ, List.nil_append, List.cons_append, Nat.reduceAdd, Nat.zero_add]
  refine Reg.SeqOK.last (by kernel_rfl) (by kernel_rfl) (fun γ W2 hW2 _ _ _ => ?_)
  have HB3 := Lib.hid (HB2.out.keep hW2)
  have H2 := Lib.hid hW2
  obtain ⟨hc, hf, _⟩ := bcell hW2
  clear hW2
  unfold Reg.Does
  go_simp
  go_wp2_with fail
  go_ret
  have hup := Reg.upd1 (x := .slice (some ⟨b, off, none⟩) n c) HB3.out
  have hbw : Below w.heap.size w W2 := HW.out.trans (H2.out.mono HW.out.size)
  have hS := HS.out.below hbw
  refine ⟨rfl, ⟨HX.out.1, some ⟨b, off, none⟩, c, ?_, ?_, by have := HN0.out; omega, HN.out.2, (fun e => by cases e), HX.out.2⟩, ?_⟩
  · rw [← HN0.out]; exact hup.at_
  · intro i hi
    simp only [List.length_reverse] at hi
    obtain ⟨b1, o1, e1, z2, c2⟩ := hS i (by simp; omega)
    refine ⟨b1, o1, e1, by rw [hup.size]; exact z2, ?_⟩
    rw [World.cell?_of_block (w := W2) (hup.far b1 (HN.out.1 b1 o1 e1)), c2]
    congr 3
    simp only [List.reverse_cons]
    rw [List.getElem_append_left (by simpa using hi)]
  · exact Reg.updK (M := fun k => k = gd) (g := gd) rfl _ _ _ _ ⟨hbw.os, hbw.tape, hbw.output, hbw.size, fun k hk _ => hbw.block k hk⟩ hup

theorem DigsAt.keep {w w' : World} {X : Nat → Prop} {gd : Nat} {q : List Tx} (h : DigsAt w X gd q) (hsz : w.heap.size ≤ w'.heap.size) (hb : ∀ k, k < w.heap.size → k = gd ∨ ¬ X k → w'.heap[k]? = w.heap[k]?) : DigsAt w' X gd q := by
  obtain ⟨A, c, h1, h2, h3, h4, h5, h6⟩ := h.blk
  refine ⟨h.own, A, c, (hb gd h1.lt (.inl rfl)).trans h1, fun i hi => ?_, h3, h4, h5, h6⟩
  obtain ⟨b, off, e1, z, hc⟩ := h2 i hi
  exact ⟨b, off, e1, Nat.lt_of_lt_of_le z hsz, by rw [World.cell?_of_block (w := w) (hb b z (.inr (h6 b off e1)))]; exact hc⟩
/-- A proof that is read: its struct 'gp', the row 'gd' of its digests. -/
structure PrfAt (w : World) (gp gd : Nat) (q : List Tx) (sh : Bool) : Prop where
  blk : Reg.Blk gp #[.pointer (some ⟨gd, 0, none⟩), .bool sh] 75 w
  digs : DigsAt w (fun b => b = gp ∨ b = gd) gd q
  ne : gp ≠ gd
theorem pop_any (X : Nat → Prop) (gd : Nat) (q : List Tx) (w : World) (h : DigsAt w X gd q) (hn : q.length ≤ 1000001) :
    Calls Tryz.prog 93 #[.pointer (some ⟨gd, 0, none⟩)] w fun e w' => e = .returned (.string (str (q.headD []))) ∧ DigsAt w' X gd q.tail ∧ Reg.Keep (fun k => k = gd) w w' := by
  match q, h, hn with
  | [], h, _ =>
    refine (pop_nil X gd w h).mono ?_
    rintro e w' ⟨rfl, rfl⟩
    exact ⟨rfl, h, ⟨rfl, rfl, rfl, Nat.le_refl _, fun _ _ _ => rfl⟩⟩
  | t :: q, h, hn =>
    refine (pop_cons X gd t q w h (by simp at hn; omega)).mono ?_
    rintro e w' ⟨rfl, h1, h2⟩
    exact ⟨rfl, h1, h2⟩

theorem next_any (gp gd : Nat) (q : List Tx) (sh : Bool) (w : World) (h : PrfAt w gp gd q sh) (hn : q.length ≤ 1000001) :
    Calls Tryz.prog 65 #[.pointer (some ⟨gp, 0, none⟩)] w fun e w' => e = .returned (.string (str (q.headD []))) ∧ PrfAt w' gp gd q.tail (sh || (q.headD []).isEmpty) ∧ Reg.Keep (fun k => k = gp ∨ k = gd) w w' := by
  have HP := Lib.hid (pop_any _ gd q w h.digs hn)
  obtain ⟨c0, f0, z0⟩ := h.blk.facts
  have HB := Lib.hid h.blk
  have HN := Lib.hid h.ne
  clear h
  go_enter Tryz.func65, Tryz.ntmps65
  go_wp2_with fail
  (with_reducible refine HP.out.mono ?_); rintro e w1 ⟨rfl, hd, hk⟩
  have HB1 : Hid (Reg.Blk gp #[.pointer (some ⟨gd, 0, none⟩), .bool sh] 75 w1) := (hk.block gp HB.out.lt HN.out).trans HB.out
  have HD := Lib.hid hd
  have HK := Lib.hid hk
  clear hd hk c0 f0 z0
  obtain ⟨c0, f0, z0⟩ := HB1.out.facts
  have FIN : Hid (∀ s' : Bool, PrfAt (w1.setCell ⟨gp, 1, none⟩ (.bool s')) gp gd q.tail s' ∧ Reg.Keep (fun k => k = gp ∨ k = gd) w (w1.setCell ⟨gp, 1, none⟩ (.bool s'))) := fun s' => by
    have hup : Reg.Upd gp #[.pointer (some ⟨gd, 0, none⟩), .bool s'] 75 w1 (w1.setCell ⟨gp, 1, none⟩ (.bool s')) := (Reg.Upd.refl HB1.out).set 1 (.bool s')
    refine ⟨⟨hup.at_, HD.out.keep (by rw [hup.size]; exact Nat.le_refl _) (fun k _ hk => hup.far k (fun e => ?_)), HN.out⟩, Reg.updK (M := fun k => k = gp ∨ k = gd) (g := gp) (.inl rfl) _ _ _ _ ⟨HK.out.os, HK.out.tape, HK.out.output, HK.out.size, fun k hk hm => HK.out.block k hk (fun e => hm (.inr e))⟩ hup⟩
    rcases hk with hk | hk
    · exact HN.out (e.symm.trans hk)
    · exact hk (.inl e)
  cases sh with
  | true =>
    go_wp2_with fail
    go_ret
    exact ⟨by simp [go_sem], FIN.out true⟩
  | false =>
    go_wp2_with fail
    go_ret
    have h := FIN.out (q.headD []).isEmpty
    refine ⟨by simp [go_sem], ?_⟩
    simpa [str_toList] using h

theorem done_any (gp gd : Nat) (q : List Tx) (sh : Bool) (w : World) (h : PrfAt w gp gd q sh) (hn : q.length ≤ 1000001) :
    Calls Tryz.prog 67 #[.pointer (some ⟨gp, 0, none⟩)] w fun e w' => e = .returned (.bool (!sh && q.isEmpty)) ∧ w' = w := by
  obtain ⟨c0, f0, z0⟩ := h.blk.facts
  obtain ⟨A, c, h1, _⟩ := h.digs.blk
  obtain ⟨c1, f1, z1⟩ := h1.facts
  obtain ⟨n, hq⟩ : ∃ n, n = q.length := ⟨_, rfl⟩
  rw [← hq] at c1 hn
  have HQ := Lib.hid hq
  clear h h1 hq
  have HN : Hid (((n : Int) == 0) = q.isEmpty) := by
    unfold Hid; rw [HQ.out]; cases q <;> simp; omega
  go_enter Tryz.func67, Tryz.ntmps67
  cases sh with
  | true =>
    go_wp2_with fail
    go_ret
    exact ⟨by simp [go_sem], rfl⟩
  | false =>
    go_wp2_with fail
    go_ret
    refine ⟨?_, rfl⟩
    rw [← HN.out]
    simp [go_sem]

end S
end Go.Proofs.YthdjdlndfkemiaaGreatDoor

/- Trees: 'Check$1'. -/
namespace Go.Proofs.YthdjdlndfkemiaaGreatDoor
open Go.RowKit
namespace S

theorem keep_refl (M : Nat → Prop) (w : World) : Reg.Keep M w w := ⟨rfl, rfl, rfl, Nat.le_refl _, fun _ _ _ => rfl⟩
theorem keep_trans {M : Nat → Prop} {w w1 w2 : World} (h : Reg.Keep M w w1) (k : Reg.Keep M w1 w2) : Reg.Keep M w w2 :=
  ⟨k.os.trans h.os, k.tape.trans h.tape, k.output.trans h.output, Nat.le_trans h.size k.size, fun j hj hm => (k.block j (Nat.lt_of_lt_of_le hj h.size) hm).trans (h.block j hj hm)⟩
theorem keep_below {M : Nat → Prop} {w w1 : World} (h : Below w.heap.size w w1) : Reg.Keep M w w1 := ⟨h.os, h.tape, h.output, h.size, fun j hj _ => h.block j hj⟩
theorem keep_blk {M : Nat → Prop} {w w' : World} (h : Reg.Keep M w w') {g : Nat} {C : Array Value} {T : TypeId} (hb : Reg.Blk g C T w) (hm : ¬ M g) : Reg.Blk g C T w' := (h.block g hb.lt hm).trans hb
theorem PrfAt.below {w w' : World} {gp gd : Nat} {q : List Tx} {sh : Bool} (h : PrfAt w gp gd q sh) (hb : Below w.heap.size w w') : PrfAt w' gp gd q sh :=
  ⟨h.blk.keep hb, h.digs.keep hb.size (fun k hk _ => hb.block k hk), h.ne⟩
/-- The flag after 'k' pops. -/
def popsS : Nat → List Tx → Bool → Bool
  | 0, _, sh => sh
  | k + 1, q, sh => popsS k q.tail (sh || (q.headD []).isEmpty)
theorem pops_spec : ∀ k (q : List Tx) sh, (∀ t ∈ q, t ≠ []) → popsS k q sh = (sh || decide (q.length < k))
  | 0, q, sh, _ => by simp [popsS]
  | k + 1, [], sh, h => by rw [popsS, pops_spec k _ _ (by simp)]; simp
  | k + 1, t :: q, sh, h => by
    have ht : t.isEmpty = false := by
      have := h t List.mem_cons_self
      cases t with
      | nil => exact absurd rfl this
      | cons => rfl
    show popsS k q (sh || t.isEmpty) = _
    rw [pops_spec k q _ (fun x hx => h x (List.mem_cons_of_mem _ hx)), ht]
    simp

abbrev prM (gp gd : Nat) : Nat → Prop := fun b => b = gp ∨ b = gd
def nxF (v0 : Value) : Nat → Value → World → Prop
  | 3, v, _ => v = v0
  | _, _, _ => True
theorem nxF_s (v0 : Value) (M : Nat → Prop) (d : Nat) (v : Value) (w w' : World) (h : nxF v0 d v w) (_ : Reg.Keep M w w') : nxF v0 d v w' := by
  unfold nxF at h ⊢
  split <;> simp_all
def nxT (gp gd : Nat) (q : List Tx) (sh : Bool) : List Value → World → Prop
  | [], w => PrfAt w gp gd q sh
  | _, w => PrfAt w gp gd q.tail (sh || (q.headD []).isEmpty)
theorem nxT_s (gp gd : Nat) (q : List Tx) (sh : Bool) (vs : List Value) (w w' : World) (h : nxT gp gd q sh vs w) (hb : Below w.heap.size w w') : nxT gp gd q sh vs w' := by
  match vs, h with
  | [], h => exact PrfAt.below h hb
  | _ :: _, h => exact PrfAt.below h hb

abbrev upF (gl gv gc : Nat) : Value := .func (.func 64) #[] #[.pointer (some ⟨gl, 0, none⟩), .pointer (some ⟨gv, 0, none⟩), .pointer (some ⟨gc, 0, none⟩)]
structure UpEnv (w : World) (gl gv gc gp gd : Nat) (d : Tx) (TL TV TC : TypeId) : Prop where
  l : Reg.Blk gl #[.string (str d)] TL w
  v : Reg.Blk gv #[.pointer (some ⟨gp, 0, none⟩)] TV w
  c : Reg.Blk gc #[upF gl gv gc] TC w
  nl : ¬ prM gp gd gl
  nv : ¬ prM gp gd gv
  nc : ¬ prM gp gd gc
theorem UpEnv.keep {w w' : World} {gl gv gc gp gd : Nat} {d : Tx} {TL TV TC : TypeId} (h : UpEnv w gl gv gc gp gd d TL TV TC) (hk : Reg.Keep (prM gp gd) w w') : UpEnv w' gl gv gc gp gd d TL TV TC :=
  ⟨keep_blk hk h.l h.nl, keep_blk hk h.v h.nv, keep_blk hk h.c h.nc, h.nl, h.nv, h.nc⟩

theorem half_b (n : Nat) (w : World) (h2 : 2 ≤ n) (hn : n ≤ 1000000) : Calls Tryz.prog 59 #[.int .i64 n] w fun e w' => e = .returned (.int .i64 (hf n : Nat)) ∧ Below w.heap.size w w' :=
  (half_any n w h2 hn).mono (by rintro e w' ⟨rfl, rfl⟩; exact ⟨rfl, Below.refl _ _⟩)
set_option maxHeartbeats 1000000 in
theorem chk_any (gl gv gc gp gd : Nat) (d : Tx) (TL TV TC : TypeId) (hd : Sm d) : ∀ (n i : Nat) (q : List Tx) (sh : Bool) (w : World), i < n → n ≤ 1000000 → Tabs w → PrfAt w gp gd q sh → q.length ≤ 1000001 → (∀ t ∈ q, Sm t) → UpEnv w gl gv gc gp gd d TL TV TC → (∀ W, Reg.Keep (prM gp gd) w W → Tabs W) →
    Calls Tryz.prog 64 #[.int .i64 n, .int .i64 i, .pointer (some ⟨gl, 0, none⟩), .pointer (some ⟨gv, 0, none⟩), .pointer (some ⟨gc, 0, none⟩)] w fun e w' =>
      e = .returned (.string (str (upT n i d q))) ∧ PrfAt w' gp gd (q.drop (lenT n i)) (popsS (lenT n i) q sh) ∧ Reg.Keep (prM gp gd) w w' := by
  intro n
  induction n using Nat.strongRecOn with
  | ind n ih =>
  intro i q sh w hi hn ht hp hql hqs he htk
  have HP := Lib.hid hp
  have HE := Lib.hid he
  have HQ := Lib.hid (And.intro hql hqs)
  have HTK := Lib.hid htk
  have IH := Lib.hid ih
  obtain ⟨cl, fl, zl⟩ := he.l.facts
  obtain ⟨cv, fv, zv⟩ := he.v.facts
  obtain ⟨cc, fc, zc⟩ := he.c.facts
  clear ih ht hp hql hqs he htk
  by_cases h1 : n = 1
  · subst h1
    go_enter Tryz.func64, Tryz.ntmps64
    go_wp2_with fail
    go_ret
    rw [up_one _ _ _ (by omega), len_one _ (by omega)]
    exact ⟨rfl, HP.out, keep_refl _ _⟩
  · have h2 : 2 ≤ n := by omega
    obtain ⟨q1, q2, q3, _⟩ := hf_spec h2
    have HH := Lib.hid (fun W => half_b n W h2 hn)
    obtain ⟨k, hk⟩ : ∃ k, k = hf n := ⟨_, rfl⟩
    rw [← hk] at HH q1 q2 q3
    have HK := Lib.hid hk
    have hn1 : ((n : Int) == 1) = false := by simp; omega
    clear hk h1
    go_enter Tryz.func64, Tryz.ntmps64
    go_wp2_with fail
    refine Reg.wp_region_eff (prM gp gd) (nxF (.string (str (q.headD [])))) (nxT gp gd q sh) (by kernel_rfl) (by kernel_rfl) (fun _ _ _ _ h k => nxF_s _ _ _ _ _ _ h k) (fun _ _ _ h k => nxT_s _ _ _ _ _ _ _ h k) (HP.out.below (Below.refl _ _).drew) ?_
    simp only
    have nv := HE.out.nv
    iterate 3
      apply Reg.SeqE.val
      rotate_left 2
      · intro δ W hW hkn K hK
        obtain ⟨hc, hf, _⟩ := Reg.kcell hW
        simp only [Act.put, List.setIfInBounds_toArray, List.set_cons_zero, List.set_cons_succ] at hK
        unfold Reg.Does
        go_simp
        try simp only [IntWalk.i64_left]
        first
          | exact hK _ (Below.refl _ _)
          | (go_at_call 59; (with_reducible refine (HH.out W).mono ?_); rintro e w' ⟨rfl, hb⟩; exact hK _ hb)
          | (trace_state; fail)
      rotate_left 1
      · intro δ δ' hd; first | rfl | (simp only [hd _ (show Reg.reach _ 12 _ _ = true by kernel_rfl)])
      · intro x w; first | exact trivial | (intro e; exact absurd e (by decide)) | exact ⟨fun e => absurd e (by decide), fun e => absurd e (by decide)⟩
      simp only [Act.put, List.setIfInBounds_toArray, List.set_cons_zero, List.set_cons_succ, List.nil_append, List.cons_append, Nat.reduceAdd, Nat.zero_add]
    refine Reg.SeqE.eff (fun e h => by simp at h) (fun δ W5 hW5 hkn hT5 K hK => ?_) ?_
    · have HX := Lib.hid (next_any gp gd q sh W5 hT5 HQ.out.1)
      simp only [Act.put, List.setIfInBounds_toArray, List.set_cons_zero, List.set_cons_succ] at hK
      unfold Reg.Does
      go_simp
      refine HX.out.mono ?_
      rintro e w6 ⟨rfl, hp6, hk6⟩
      exact hK _ _ hk6 rfl hp6
    simp only [Act.put, List.setIfInBounds_toArray, List.set_cons_zero, List.set_cons_succ, List.nil_append, List.cons_append, Nat.reduceAdd, Nat.zero_add]
    iterate 1
      apply Reg.SeqE.val
      rotate_left 2
      · intro δ W hW hkn K hK
        obtain ⟨hc, hf, _⟩ := Reg.kcell hW
        simp only [Act.put, List.setIfInBounds_toArray, List.set_cons_zero, List.set_cons_succ] at hK
        unfold Reg.Does
        go_simp
        try simp only [IntWalk.i64_left]
        first
          | exact hK _ (Below.refl _ _)
          | (trace_state; fail)
      rotate_left 1
      · intro δ δ' hd; first | rfl | (simp only [hd _ (show Reg.reach _ 12 _ _ = true by kernel_rfl)])
      · intro x w; first | exact trivial | (intro e; exact absurd e (by decide)) | exact ⟨fun e => absurd e (by decide), fun e => absurd e (by decide)⟩
      simp only [Act.put, List.setIfInBounds_toArray, List.set_cons_zero, List.set_cons_succ, List.nil_append, List.cons_append, Nat.reduceAdd, Nat.zero_add]
    refine Reg.SeqE.val (fun δ => δ 3) (fun δ δ' hd => hd 3 (by kernel_rfl)) (fun _ _ => trivial) (fun δ W hW hkn K hK => ?_) ?_
    · simp only [Act.put, List.setIfInBounds_toArray, List.set_cons_zero, List.set_cons_succ] at hK
      unfold Reg.Does
      go_simp
      exact hK _ (Below.refl _ _)
    simp only [Act.put, List.setIfInBounds_toArray, List.set_cons_zero, List.set_cons_succ, List.nil_append, List.cons_append, Nat.reduceAdd, Nat.zero_add]
    refine Reg.SeqE.nil (fun δ W hW hkn hT => ?_)
    have e3 : δ 3 = .string (str (q.headD [])) := hkn 3 (by omega)
    have HP1 : Hid (PrfAt W gp gd q.tail (sh || (q.headD []).isEmpty)) := hT
    have HW := Lib.hid hW
    have HE1 := Lib.hid (HE.out.keep hW)
    have HSM := Lib.hid (sm_headD HQ.out.2)
    rw [e3]
    obtain ⟨x, hx⟩ : ∃ x, x = q.headD [] := ⟨_, rfl⟩
    rw [← hx] at HP1 HSM ⊢
    have HX := Lib.hid hx
    clear hx
    clear e3 hT hkn hW cl cv cc fl fv fc zl zv zc δ
    obtain ⟨cc, fc, zc⟩ := HE1.out.c.facts
    have HTW : Hid (∀ W', Reg.Keep (prM gp gd) W W' → Tabs W') := fun W' h => HTK.out W' (keep_trans HW.out h)
    have HQ1 : Hid (q.tail.length ≤ 1000001 ∧ ∀ t ∈ q.tail, Sm t) := ⟨by have := HQ.out.1; simp; omega, sm_tail HQ.out.2⟩
    by_cases hik : i < k
    · have hik' : (i : Int) < (k : Int) := by omega
      have HR := Lib.hid (IH.out k q2 i q.tail _ W hik (by omega) (HTW.out W (keep_refl _ _)) HP1.out HQ1.out.1 HQ1.out.2 HE1.out HTW.out)
      go_wp2_with fail
      (with_reducible refine HR.out.mono ?_); rintro e w7 ⟨rfl, hp7, hk7⟩
      have HP7 := Lib.hid hp7
      have HK7 := Lib.hid hk7
      have HN := Lib.hid (node_any (upT k i d q.tail) x w7 (HTW.out _ hk7) (up_sm _ _ _ _ hd) HSM.out)
      clear hp7 hk7
      go_wp2_with fail
      (with_reducible refine HN.out.mono ?_); rintro e w8 ⟨rfl, hb8⟩
      have HB8 := Lib.hid hb8
      clear hb8
      go_wp2_with fail
      go_ret
      refine ⟨?_, ?_, keep_trans HW.out (keep_trans HK7.out (keep_below HB8.out))⟩
      · rw [up_left d q h2 (by rw [← HK.out]; exact hik), ← HK.out, ← HX.out]; rfl
      · have h := HP7.out.below HB8.out
        rw [len_left h2 (by rw [← HK.out]; exact hik), ← HK.out, Nat.add_comm, popsS, ← HX.out, show q.drop (lenT k i + 1) = q.tail.drop (lenT k i) by cases q <;> simp]
        exact h
    · have hik' : ¬ (i : Int) < (k : Int) := by omega
      have hs1 : IntKind.i64.wrap ((n : Int) - (k : Int)) = ((n - k : Nat) : Int) := by rw [IntWalk.i64_left, IntWalk.wrap64_in _ (by omega)]; omega
      have hs2 : IntKind.i64.wrap ((i : Int) - (k : Int)) = ((i - k : Nat) : Int) := by rw [IntWalk.i64_left, IntWalk.wrap64_in _ (by omega)]; omega
      have HR := Lib.hid (IH.out (n - k) (by omega) (i - k) q.tail _ W (by omega) (by omega) (HTW.out W (keep_refl _ _)) HP1.out HQ1.out.1 HQ1.out.2 HE1.out HTW.out)
      obtain ⟨a, ha⟩ : ∃ a, a = n - k := ⟨_, rfl⟩
      obtain ⟨b, hb⟩ : ∃ b, b = i - k := ⟨_, rfl⟩
      rw [← ha, ← hb] at HR
      rw [← ha] at hs1
      rw [← hb] at hs2
      have HAB := Lib.hid (And.intro ha hb)
      clear ha hb
      go_wp2_with fail
      (with_reducible refine HR.out.mono ?_); rintro e w7 ⟨rfl, hp7, hk7⟩
      have HP7 := Lib.hid hp7
      have HK7 := Lib.hid hk7
      have HN := Lib.hid (node_any x (upT a b d q.tail) w7 (HTW.out _ hk7) HSM.out (up_sm _ _ _ _ hd))
      clear hp7 hk7
      go_wp2_with fail
      (with_reducible refine HN.out.mono ?_); rintro e w8 ⟨rfl, hb8⟩
      have HB8 := Lib.hid hb8
      clear hb8
      go_wp2_with fail
      go_ret
      have hnk : ¬ i < hf n := by rw [← HK.out]; exact hik
      refine ⟨?_, ?_, keep_trans HW.out (keep_trans HK7.out (keep_below HB8.out))⟩
      · rw [up_right d q h2 hnk, ← HK.out, ← HX.out, ← HAB.out.1, ← HAB.out.2]; rfl
      · have h := HP7.out.below HB8.out
        rw [len_right h2 hnk, ← HK.out, ← HAB.out.1, ← HAB.out.2, Nat.add_comm, popsS, ← HX.out, show q.drop (lenT a b + 1) = q.tail.drop (lenT a b) by cases q <;> simp]
        exact h

end S
end Go.Proofs.YthdjdlndfkemiaaGreatDoor

/- Trees: 'Root'. -/
namespace Go.Proofs.YthdjdlndfkemiaaGreatDoor
open Go.RowKit
namespace S

theorem root_any (l : List Tx) (A : Option Addr) (c : Nat) (w : World) (hn : l.length ≤ 1000000) (ht : Tabs w) (hl : StrsAt w A l) (hc : l.length ≤ c) (hc2 : c ≤ 9223372036854775807) (hA : A = none → c = 0) (hs : ∀ t ∈ l, t.length ≤ 9223372036854775807) :
    Calls Tryz.prog 22 #[.slice A l.length c] w fun e w' => e = .returned (if l.all isD then .tuple #[.string (str (rootT l)), .int .i64 0] else .tuple #[.string (str []), .int .i64 1]) ∧ Below w.heap.size w w' := by
  have HP := Lib.hid (proper_any A c l w hl (by omega) hs)
  have HT := Lib.hid (fun (W : World) (hb : Below w.heap.size w W) (h : l.all isD = true) => total_any l A c W hn (ht.below hb) (hl.below hb) hc hc2 hA (fun t htm => isD_sm (List.all_eq_true.1 h t htm)))
  generalize hq : l.all isD = q at *
  clear ht hl hs hA
  go_enter Tryz.func22, Tryz.ntmps22
  go_wp2_with fail
  (with_reducible refine HP.out.mono ?_); rintro e w1 ⟨rfl, hb1⟩
  have HB := Lib.hid hb1
  clear hb1 HP
  cases q with
  | true =>
    go_wp2_with fail
    (with_reducible refine (HT.out w1 HB.out trivial).mono ?_); rintro e w2 ⟨rfl, hb2⟩
    have HB2 := Lib.hid (HB.out.trans (hb2.mono HB.out.size))
    clear hb2
    go_wp2_with fail
    refine bodyPost_ret (v := .tuple #[.string (str (rootT l)), .int .i64 0]) (by simp [results, Tryz.results22, go_sem]) rfl ⟨rfl, HB2.out⟩
  | false =>
    go_wp2_with fail
    refine bodyPost_ret (v := .tuple #[.string (str []), .int .i64 1]) (by simp [results, Tryz.results22, go_sem]; rfl) rfl ⟨rfl, HB.out⟩

end S
end Go.Proofs.YthdjdlndfkemiaaGreatDoor
