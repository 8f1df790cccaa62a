/- Net: a queue replaced; 'Send' where the text is sent. -/
import Derived.Test.YtklcpopnggiepaaNd
set_option linter.unusedSimpArgs false
set_option linter.unusedVariables false
set_option maxRecDepth 100000
namespace Go.Proofs.Ytklcpopnggiepaa
open Go.RowKit
namespace N

theorem upd_same (f : Int → Int → Option Value) (a b : Int) (v : Value) : qv (upd f a b v) a b = v := by simp [qv, upd]
theorem upd_other (f : Int → Int → Option Value) {a b x y : Int} (v : Value) (h : ¬ (x = a ∧ y = b)) : qv (upd f a b v) x y = qv f x y := by simp [qv, upd, h]
theorem upd_twice (f : Int → Int → Option Value) (a b : Int) (u v : Value) : upd (upd f a b u) a b v = upd f a b v := by
  funext x y; unfold upd; split <;> rfl
theorem own_is_cells {w : World} {B n sz : Nat} {e : TypeId} {v : Value} {xs : List Value} (h : w.ownsRow B e sz v n xs) {k : Nat} (hk : v.ownBlock = some k) : ∃ cur, w.heap[k]? = some (.cells cur e (0, 0)) := by
  rcases h.2 with ⟨e1, _⟩ | ⟨g', cap, cur, e1, _, hh, _⟩
  · rw [e1] at hk; simp [Value.ownBlock] at hk
  · rw [e1] at hk
    simp only [Value.ownBlock, Option.some.injEq] at hk
    subst hk
    exact ⟨cur, hh⟩

section
variable {w : World} {B : Nat} {M M1 : Nat → Prop} {g : Nat} {d : Nt} {bq bc : Nat} {fq fc : Int → Int → Option Value}
theorem IsN.g_ne (h : IsN w B M g d bq bc fq fc) : g ≠ bq ∧ g ≠ bc ∧ ∀ a b, (qv fq a b).ownBlock ≠ some g :=
  ⟨h.mpq.not_cells h.blk, h.mpc.not_cells h.blk, fun a b => own_type (h.row a b) h.blk (by decide)⟩
theorem IsN.bq_ne (h : IsN w B M g d bq bc fq fc) (a b : Int) : (qv fq a b).ownBlock ≠ some bq := fun e => by
  obtain ⟨cur, hc⟩ := own_is_cells (h.row a b) e
  exact h.mpq.not_cells hc rfl
theorem IsN.bc_ne (h : IsN w B M g d bq bc fq fc) (a b : Int) : (qv fq a b).ownBlock ≠ some bc := fun e => by
  obtain ⟨cur, hc⟩ := own_is_cells (h.row a b) e
  exact h.mpc.not_cells hc rfl

/-- A queue is replaced. -/
theorem IsN.put (h : IsN w B M g d bq bc fq fc) {W : World} {a b : Int} {v : Value} {l : List Tx} {n : Nat} (hk : Reg.Keep M1 w W) (hM1 : ∀ k, M1 k → k = bq ∨ (qv fq a b).ownBlock = some k ∨ w.heap.size ≤ k)
    (hm : MapIs Try.prog 59 W bq (upd fq a b v)) (ho : W.ownsRow B 9 1 v n (sv l)) (hn : l.length = n) (hat : ∀ k, v.ownBlock = some k → (qv fq a b).ownBlock = some k ∨ w.heap.size ≤ k) :
    IsN W B (fun k => M k ∨ v.ownBlock = some k) g { d with q := at2 d.q a b l } bq bc (upd fq a b v) fc ∧ Moved M (fun k => M k ∨ v.ownBlock = some k) w W := by
  have stay : ∀ k, k < w.heap.size → k ≠ bq → (qv fq a b).ownBlock ≠ some k → W.heap[k]? = w.heap[k]? := fun k hl h1 h2 => hk.block k hl fun m => by
    rcases hM1 k m with e | e | e
    · exact h1 e
    · exact h2 e
    · omega
  obtain ⟨g1, g2, g3⟩ := h.g_ne
  refine ⟨⟨(stay g h.blk.lt g1 (g3 a b)).trans h.blk, hm, h.mpc.same (stay bc h.mpc.lt h.ne.symm (h.bc_ne a b)), h.cut, fun x y => ?_, fun x y x' y' k k1 k2 => ?_, .inl h.mg, .inl h.mq, .inl h.mc, fun x y k hk => ?_, fun k m => ?_, h.ne⟩, ⟨⟨hk.os, hk.tape, hk.output, hk.size, fun k hl hm => ?_⟩, fun k m => ?_⟩⟩
  · by_cases e : x = a ∧ y = b
    · obtain ⟨rfl, rfl⟩ := e
      rw [upd_same]; simp only [at2_same]; rw [hn]; exact ho
    · rw [upd_other _ _ e]; simp only [at2_other d.q a b l e]
      exact own_of (h.row x y) fun k hk => stay k (h.bb k (h.mr x y k hk)).2 (fun e2 => h.bq_ne x y (by rw [← e2]; exact hk)) (fun h2 => e (h.sep x y a b k hk h2))
  · by_cases e : x = a ∧ y = b
    · by_cases e' : x' = a ∧ y' = b
      · exact ⟨e.1.trans e'.1.symm, e.2.trans e'.2.symm⟩
      · exfalso
        obtain ⟨rfl, rfl⟩ := e
        rw [upd_same] at k1; rw [upd_other _ _ e'] at k2
        rcases hat k k1 with h1 | h1
        · obtain ⟨e1, e2⟩ := h.sep _ _ _ _ k k2 h1; exact e' ⟨e1, e2⟩
        · have := (h.bb k (h.mr x' y' k k2)).2; omega
    · by_cases e' : x' = a ∧ y' = b
      · exfalso
        obtain ⟨rfl, rfl⟩ := e'
        rw [upd_same] at k2; rw [upd_other _ _ e] at k1
        rcases hat k k2 with h1 | h1
        · obtain ⟨e1, e2⟩ := h.sep _ _ _ _ k k1 h1; exact e ⟨e1, e2⟩
        · have := (h.bb k (h.mr x y k k1)).2; omega
      · rw [upd_other _ _ e] at k1; rw [upd_other _ _ e'] at k2
        exact h.sep _ _ _ _ k k1 k2
  · by_cases e : x = a ∧ y = b
    · obtain ⟨rfl, rfl⟩ := e; rw [upd_same] at hk; exact .inr hk
    · rw [upd_other _ _ e] at hk; exact .inl (h.mr x y k hk)
  · rcases m with m | m
    · exact ⟨(h.bb k m).1, Nat.lt_of_lt_of_le (h.bb k m).2 hk.size⟩
    · exact ho.lt k m
  · exact stay k hl (fun e => hm (e ▸ h.mq)) (fun e => hm (h.mr a b k e))
  · rcases m with m | m
    · exact .inl m
    · rcases hat k m with e | e
      · exact .inl (h.mr a b k e)
      · exact .inr e

/-- The line's state is replaced. -/
theorem IsN.putC (h : IsN w B M g d bq bc fq fc) {W : World} {a b : Int} {x : Bool} (hk : Turned bc w W) (hm : MapIs Try.prog 59 W bc (upd fc a b (.bool x))) :
    IsN W B M g { d with c := at2 d.c a b x } bq bc fq (upd fc a b (.bool x)) ∧ Moved M M w W := by
  obtain ⟨g1, g2, g3⟩ := h.g_ne
  refine ⟨⟨(hk.far g g2).trans h.blk, h.mpq.same (hk.far _ h.ne), hm, fun x' y' => ?_, fun x y => own_of (h.row x y) fun k hk' => hk.far k (fun e => h.bc_ne x y (by rw [← e]; exact hk')), h.sep, h.mg, h.mq, h.mc, h.mr, fun k m => ?_, h.ne⟩, Moved.turned hk h.mc⟩
  · by_cases e : x' = a ∧ y' = b
    · obtain ⟨rfl, rfl⟩ := e; simp [upd, at2]
    · simp only [upd, at2, if_neg e]; exact h.cut x' y'
  · rw [hk.size]; exact h.bb k m
end

/-! ### The text is sent -/
def rowM (bq : Nat) (v : Value) (k : Nat) : Prop := k = bq ∨ v.ownBlock = some k
def SendF (N0 : Nat) (v : Value) (t : Tx) : Nat → Value → World → Prop
  | 6, x, W => ∃ gn, x = .slice (some ⟨gn, 0, none⟩) 1 1 ∧ W.heap[gn]? = some (.cells #[.string (str t)] 9 (0, 0)) ∧ N0 ≤ gn
  | 7, x, _ => ∃ s : Int, x = .tuple #[v, .int .i64 s]
  | _, _, _ => True
def SendT (N0 B bq : Nat) (fq : Int → Int → Option Value) (a b : Int) (n : Nat) (xs : List Value) (t : Tx) : List Value → World → Prop
  | [], W => MapIs Try.prog 59 W bq fq ∧ W.ownsRow B 9 1 (qv fq a b) n xs
  | [x], W => ∃ s, x = .tuple #[qv fq a b, .int .i64 s] ∧ EntryAt Try.prog 59 W bq (upd fq a b (qv fq a b)) a b s ∧ W.ownsRow B 9 1 (qv fq a b) n xs
  | [x, y], W => ∃ s gg cap, x = .tuple #[qv fq a b, .int .i64 s] ∧ y = .slice (some ⟨gg, 0, none⟩) (n + 1) cap ∧ EntryAt Try.prog 59 W bq (upd fq a b (qv fq a b)) a b s ∧
      W.ownsRow B 9 1 y (n + 1) (xs ++ [.string (str t)]) ∧ ((qv fq a b).ownBlock = some gg ∨ N0 ≤ gg)
  | [_, y, _], W => ∃ gg cap, y = .slice (some ⟨gg, 0, none⟩) (n + 1) cap ∧ MapIs Try.prog 59 W bq (upd fq a b y) ∧ W.ownsRow B 9 1 y (n + 1) (xs ++ [.string (str t)]) ∧ ((qv fq a b).ownBlock = some gg ∨ N0 ≤ gg)
  | _, _ => False
theorem sendF_stays {N0 bq : Nat} {v : Value} {t : Tx} (hM : ∀ k, rowM bq v k → k < N0) : ∀ (d : Nat) (u : Value) (w w' : World), SendF N0 v t d u w → Reg.Keep (rowM bq v) w w' → SendF N0 v t d u w' := by
  intro d u w w' h hk
  unfold SendF at h ⊢
  split at h
  · obtain ⟨gn, e, hb, hg⟩ := h
    exact ⟨gn, e, (hk.block gn (Array.getElem?_eq_some_iff.1 hb).1 fun m => by have := hM gn m; omega).trans hb, hg⟩
  · exact h
  · trivial
theorem sendT_stays {N0 B bq : Nat} {fq : Int → Int → Option Value} {a b : Int} {n : Nat} {xs : List Value} {t : Tx} : ∀ vs w w', SendT N0 B bq fq a b n xs t vs w → Below w.heap.size w w' → SendT N0 B bq fq a b n xs t vs w' := by
  intro vs w w' h hb
  match vs, h with
  | [], ⟨h1, h2⟩ => exact ⟨h1.same (hb.block _ h1.lt), own_below h2 hb⟩
  | [x], ⟨s, e, h1, h2⟩ => exact ⟨s, e, h1.same (hb.block _ h1.lt), own_below h2 hb⟩
  | [x, y], ⟨s, gg, cap, e, e2, h1, h2, h3⟩ => exact ⟨s, gg, cap, e, e2, h1.same (hb.block _ h1.lt), own_below h2 hb, h3⟩
  | [x, y, z], ⟨gg, cap, e, h1, h2, h3⟩ => exact ⟨gg, cap, e, h1.same (hb.block _ h1.lt), own_below h2 hb, h3⟩

theorem info_text : (Try.prog.info? 9).map (fun i => (i.zero, i.size, i.bytes)) = some (some (.string ByteArray.empty), 1, 16) := by kernel_rfl
def snd : Value → Value
  | .tuple xs => xs.getD 1 undef
  | _ => undef

set_option maxHeartbeats 4000000 in
theorem send_yes (a b : Int) (t : Tx) (w : World) {B g : Nat} {M : Nat → Prop} {d : Nt} (hB : B ≤ w.heap.size) (ha : B64 a) (hb : B64 b) (hd : NetAt w B M g d) (hk : okP d.n a b = true) (ht : t.length ≤ 20000) (hc : d.c a b = false) (hq : (d.q a b).length < 100) :
    Calls Try.prog 12 #[.pointer (some ⟨g, 0, none⟩), .int .i64 a, .int .i64 b, .string (str t)] w fun e w' => e = .returned (.int .i64 0) ∧ Post w B M g { d with q := at2 d.q a b (d.q a b ++ [t]) } w' := by
  have HK := Lib.hid (fun (W : World) (hW : NetAt W B M g d) => knows_at a b W hW)
  have h1 : ¬ 20000 < (str t).size := by rw [str_size]; omega
  have h2 : ¬ (20000 : Int) < ((str t).size : Int) := by omega
  obtain ⟨i0, hi0, hz0, hz1, hz2⟩ := info_parts info_text
  go_enter Try.func12, Try.ntmps12
  go_wp2_with fail
  (with_reducible refine (HK.out _ (hd.below ?_)).mono ?_)
  · exact (Below.refl _ _).alloc (Nat.le_refl _) _
  rw [hk]; rintro e w1 ⟨rfl, hb1⟩
  have kw := Reg.Blk.new1 hb1
  have hT : Below w.heap.size w w1 := ((Below.refl _ _).alloc (Nat.le_refl _) _).trans (hb1.mono (by simp))
  have hd1 := hd.below hT
  obtain ⟨bq, bc, fq, fc, h1'⟩ := hd1
  obtain ⟨ckw, fkw, zkw⟩ := kw.facts
  obtain ⟨ckd, fkd, zkd⟩ := h1'.blk.facts
  have hl := fun (W : World) (hW : Below w1.heap.size w1 W) => (h1'.below hW).look_cut ha hb
  rw [hc] at hl
  have HT := Lib.hid hT
  have H1 := Lib.hid h1'
  clear hb1 hd hT h1'
  go_wp2_with fail
  refine Reg.wp_region_seq (by kernel_rfl) (by kernel_rfl) ?_
  simp only
  iterate 7
    apply Reg.SeqOK.val
    · intro γ W hW K hK
      obtain ⟨hc, hf, _⟩ := bcell hW
      simp only [Act.put, List.setIfInBounds_toArray, List.set_cons_zero, List.set_cons_succ] at hK
      unfold Reg.Does
      go_simp
      try simp only [IntWalk.i64_left]
      first
        | exact hK _ (Below.refl _ _)
    simp only [Act.put, List.setIfInBounds_toArray, List.set_cons_zero, List.set_cons_succ, List.nil_append, List.cons_append, Nat.reduceAdd, Nat.zero_add]
  refine Reg.SeqOK.nil (by kernel_rfl) (fun γ W hW _ _ _ => ?_)
  have HW := Lib.hid hW
  have kw2 := kw.keep hW
  have h3 := H1.out.below hW
  clear hW hl ckw fkw zkw ckd fkd zkd
  obtain ⟨ckw, fkw, zkw⟩ := kw2.facts
  obtain ⟨ckd, fkd, zkd⟩ := h3.blk.facts
  obtain ⟨A, c, hv, _, _⟩ := h3.form a b
  have hl := fun (W' : World) (hW' : Below W.heap.size W W') => (h3.below hW').look_row ha hb
  rw [hv] at hl
  have hq1 : ¬ (100 : Int) ≤ ((d.q a b).length : Int) := by omega
  have H3 := Lib.hid h3
  clear h3
  have HV := Lib.hid hv
  clear hv
  go_wp2_with fail
  refine Reg.wp_region_seq (by kernel_rfl) (by kernel_rfl) ?_
  simp only
  iterate 9
    apply Reg.SeqOK.val
    · intro γ W hW K hK
      obtain ⟨hc, hf, _⟩ := bcell hW
      simp only [Act.put, List.setIfInBounds_toArray, List.set_cons_zero, List.set_cons_succ] at hK
      unfold Reg.Does
      go_simp
      try simp only [IntWalk.i64_left]
      first
        | exact hK _ (Below.refl _ _)
    simp only [Act.put, List.setIfInBounds_toArray, List.set_cons_zero, List.set_cons_succ, List.nil_append, List.cons_append, Nat.reduceAdd, Nat.zero_add]
  refine Reg.SeqOK.nil (by kernel_rfl) (fun γ2 W2 hW2 _ _ _ => ?_)
  have HW2 := Lib.hid hW2
  have kw3 := kw2.keep hW2
  have H4 := Lib.hid (H3.out.below hW2)
  have hBW : B ≤ W2.heap.size := Nat.le_trans hB (Nat.le_trans HT.out.size (Nat.le_trans HW.out.size hW2.size))
  have HB := Lib.hid hBW
  clear hBW
  clear hW2 hl ckw fkw zkw ckd fkd zkd
  obtain ⟨ckw, fkw, zkw⟩ := kw3.facts
  obtain ⟨ckd, fkd, zkd⟩ := H4.out.blk.facts
  have hwl : w.heap.size ≠ bq := H4.out.mpq.not_cells kw3
  have hgl : g ≠ bq := H4.out.g_ne.1
  have n1 : ¬ rowM bq (qv fq a b) w.heap.size := by
    rintro (h | h)
    · exact hwl h
    · exact own_type (H4.out.row a b) kw3 (by decide) h
  have n2 : ¬ rowM bq (qv fq a b) g := by
    rintro (h | h)
    · exact hgl h
    · exact H4.out.g_ne.2.2 a b h
  go_wp2_with fail
  refine Reg.wp_region_eff (rowM bq (qv fq a b)) (SendF W2.heap.size (qv fq a b) t) (SendT W2.heap.size B bq fq a b (d.q a b).length (sv (d.q a b)) t) (by kernel_rfl) (by kernel_rfl) (sendF_stays ?_) sendT_stays ⟨H4.out.mpq, H4.out.row a b⟩ ?_
  · rintro k (h | h)
    · rw [h]; exact H4.out.mpq.lt
    · exact (H4.out.bb _ (H4.out.mr a b _ h)).2
  simp only
  iterate 6
    apply Reg.SeqE.val
    rotate_left 2
    · intro δ W hW hkn K hK
      obtain ⟨hc, hf, _⟩ := Reg.kcell hW
      simp only [Act.put, List.setIfInBounds_toArray, List.set_cons_zero, List.set_cons_succ] at hK
      unfold Reg.Does
      go_simp
      try simp only [IntWalk.i64_left]
      first
        | exact hK _ (Below.refl _ _)
        | (trace_state; fail)
    rotate_left 1
    · intro δ δ' hd; first | rfl | (simp only [hd _ (show Reg.reach _ 12 _ _ = true by kernel_rfl)])
    · intro x w; exact trivial
    simp only [Act.put, List.setIfInBounds_toArray, List.set_cons_zero, List.set_cons_succ, List.nil_append, List.cons_append, Nat.reduceAdd, Nat.zero_add]
  refine Reg.SeqE.new (fun δ W3 hW3 hkn K hK => ?_) ?_
  · simp only [Act.put, List.setIfInBounds_toArray, List.set_cons_zero, List.set_cons_succ] at hK
    unfold Reg.Does
    go_simp
    exact hK _ _ ((Below.refl _ _).alloc (Nat.le_refl _) _) ⟨W3.heap.size, rfl, Reg.heap_new _ _, hW3.size⟩
  simp only [Act.put, List.setIfInBounds_toArray, List.set_cons_zero, List.set_cons_succ, List.nil_append, List.cons_append, Nat.reduceAdd, Nat.zero_add]
  obtain ⟨kl, hkl⟩ := key_of ha hb
  refine Reg.SeqE.eff (fun e h => by simp at h) (fun δ W3 hW3 hkn hT3 K hK => ?_) ?_
  · simp only [Act.put, List.setIfInBounds_toArray, List.set_cons_zero, List.set_cons_succ] at hK
    obtain ⟨t1, t2⟩ := hT3
    obtain ⟨w4, s, hrun, he, htn⟩ := t1.entry key_law Try.underlying54 (zero_row W3) hkl
    have hrun' : (Instr.mapEntry 54 (.map (some bq)) (.agg #[.int .i64 a, .int .i64 b])).run Try.prog W3 = .ok (.tuple #[qv fq a b, .int .i64 s]) w4 := hrun
    have hKeep : Reg.Keep (rowM bq (qv fq a b)) W3 w4 := ⟨htn.os, htn.tape, htn.output, by rw [htn.size]; exact Nat.le_refl _, fun k _ hn => htn.far k (fun e => hn (.inl e))⟩
    have ho : w4.ownsRow B 9 1 (qv fq a b) (d.q a b).length (sv (d.q a b)) := own_of t2 fun k hk => htn.far k (fun e => H4.out.bq_ne a b (by rw [← e]; exact hk))
    have HE := Lib.hid he
    have HO := Lib.hid ho
    clear he ho t1 t2 htn
    unfold Reg.Does
    go_simp
    exact hK _ _ hKeep ⟨s, rfl⟩ ⟨s, rfl, HE.out, HO.out⟩
  simp only [Act.put, List.setIfInBounds_toArray, List.set_cons_zero, List.set_cons_succ, List.nil_append, List.cons_append, Nat.reduceAdd, Nat.zero_add]
  refine Reg.SeqE.val (fun _ => .slice A (d.q a b).length c) (fun _ _ _ => rfl) (fun _ _ => trivial) (fun δ W3 hW3 hkn K hK => ?_) ?_
  · simp only [Act.put, List.setIfInBounds_toArray, List.set_cons_zero, List.set_cons_succ] at hK
    obtain ⟨s, e7⟩ := hkn 7 (by kernel_rfl)
    unfold Reg.Does
    rw [HV.out] at e7
    rw [e7] at hK
    go_simp
    exact hK _ (Below.refl _ _)
  simp only [Act.put, List.setIfInBounds_toArray, List.set_cons_zero, List.set_cons_succ, List.nil_append, List.cons_append, Nat.reduceAdd, Nat.zero_add]
  refine Reg.SeqE.eff (fun e h => ?_) (fun δ W3 hW3 hkn hT3 K hK => ?_) ?_
  · simp only [List.getLast?_singleton, Option.some.injEq] at h
    subst h
    kernel_rfl
  · obtain ⟨s, t1, t2, t3⟩ := hT3
    obtain ⟨gn, e6, hgn, hge⟩ := hkn 6 (by kernel_rfl)
    rw [HV.out] at t3
    unfold Reg.Does
    refine step_append_lies _ rfl _ _ _ rfl B 9 i0 _ 1 16 Try.underlying22 hi0 hz0 hz1 hz2 rfl (by omega) (.slice A (d.q a b).length c) (d.q a b).length (sv (d.q a b)) rfl t3
      ⟨gn, 0, none⟩ 1 1 [.string (str t)] (by simpa [Act.eval] using e6) rfl (World.news_of_block (cs := #[.string (str t)]) (t := 9) (fr := (0, 0)) hgn) (by simp [Value.oneCell'])
      (by omega) (by unfold maxLen; omega) (by omega) (Nat.le_trans HB.out hW3.size) W3.heap.size rfl ?_
    intro gg cap w4 hown hgrow hat hlt
    refine hK _ _ ⟨hgrow.os, hgrow.tape, hgrow.output, hgrow.size, fun k hk hn => hgrow.block k hk fun e => hn (.inr (by rw [HV.out]; exact e.symm))⟩ trivial ⟨s, gg, cap, t1, rfl, t2.same (hgrow.block _ t2.lt ?_), hown, ?_⟩
    · intro e; exact H4.out.bq_ne a b (by rw [HV.out]; exact e.symm)
    · rcases hat with e | e
      · left; rw [HV.out]; exact e
      · right; rw [e]; exact hW3.size
  simp only [Act.put, List.setIfInBounds_toArray, List.set_cons_zero, List.set_cons_succ, List.nil_append, List.cons_append, Nat.reduceAdd, Nat.zero_add]
  refine Reg.SeqE.val (fun δ => snd (δ 7)) (fun δ δ' hd => congrArg snd (hd 7 (by kernel_rfl))) (fun _ _ => trivial) (fun δ W3 hW3 hkn K hK => ?_) ?_
  · simp only [Act.put, List.setIfInBounds_toArray, List.set_cons_zero, List.set_cons_succ] at hK
    obtain ⟨s, e7⟩ := hkn 7 (by kernel_rfl)
    have e8 : snd (δ 7) = .int .i64 s := by rw [e7]; rfl
    rw [e8, e7] at hK
    clear e8
    unfold Reg.Does
    go_simp
    exact hK _ (Below.refl _ _)
  simp only [Act.put, List.setIfInBounds_toArray, List.set_cons_zero, List.set_cons_succ, List.nil_append, List.cons_append, Nat.reduceAdd, Nat.zero_add]
  refine Reg.SeqE.eff (fun e h => ?_) (fun δ W3 hW3 hkn hT3 K hK => ?_) ?_
  · simp only [List.getLast?_cons_cons, List.getLast?_singleton, Option.some.injEq] at h
    subst h
    kernel_rfl
  · simp only [Act.put, List.setIfInBounds_toArray, List.set_cons_zero, List.set_cons_succ] at hK
    obtain ⟨s, gg, cap, e7, e9, t2, t3, t4⟩ := hT3
    have e8 : snd (δ 7) = .int .i64 s := by rw [e7]; rfl
    rw [e8] at hK
    obtain ⟨w4, hrun, hm, htn⟩ := t2.store (T := 54) hkl (δ 9)
    have hKeep : Reg.Keep (rowM bq (qv fq a b)) W3 w4 := ⟨htn.os, htn.tape, htn.output, by rw [htn.size]; exact Nat.le_refl _, fun k _ hn => htn.far k (fun e => hn (.inl e))⟩
    have ho : w4.ownsRow B 9 1 (δ 9) ((d.q a b).length + 1) (sv (d.q a b) ++ [.string (str t)]) := own_of t3 fun k hk => htn.far k (fun e => by
      obtain ⟨cur, hcur⟩ := own_is_cells t3 hk
      rw [e] at hcur
      obtain ⟨es, ck, hb', _⟩ := t2
      rw [hb'] at hcur; cases hcur)
    have hTn := Lib.hid (show SendT W2.heap.size B bq fq a b (d.q a b).length (sv (d.q a b)) t ([δ 7, δ 9] ++ [undef]) w4 from ⟨gg, cap, e9, by rw [upd_twice] at hm; exact hm, ho, t4⟩)
    clear t2 t3 t4 hm htn ho e7 e9
    unfold Reg.Does
    go_simp
    exact hK undef _ hKeep trivial hTn.out
  simp only [Act.put, List.setIfInBounds_toArray, List.set_cons_zero, List.set_cons_succ, List.nil_append, List.cons_append, Nat.reduceAdd, Nat.zero_add]
  refine Reg.SeqE.nil (fun δ W5 hW5 hF hT5 => ?_)
  obtain ⟨gg, cap, e9, hm, ho, hat⟩ := hT5
  rw [← sv_snoc] at ho
  have hp := H4.out.put hW5 (fun k m => by rcases m with m | m; exact .inl m; exact .inr (.inl m)) hm ho (by simp) (fun k hk => by
    have hk2 : Value.ownBlock (.slice (some ⟨gg, 0, none⟩) ((d.q a b).length + 1) cap) = some k := by rw [← e9]; exact hk
    simp only [Value.ownBlock, Option.some.injEq] at hk2
    subst hk2
    exact hat)
  have HP := Lib.hid hp
  clear hW5 hF hm ho hat hp e9
  go_wp2_with fail
  go_ret
  exact ⟨rfl, _, ⟨bq, bc, _, fc, HP.out.1⟩, (Moved.below ((HT.out.trans (HW.out.mono HT.out.size)).trans (HW2.out.mono (Nat.le_trans HT.out.size HW.out.size)))).trans HP.out.2⟩

theorem send_any (a b : Int) (t : Tx) (w : World) {B g : Nat} {M : Nat → Prop} {d : Nt} (hB : B ≤ w.heap.size) (ha : B64 a) (hb : B64 b) (hd : NetAt w B M g d) :
    Calls Try.prog 12 #[.pointer (some ⟨g, 0, none⟩), .int .i64 a, .int .i64 b, .string (str t)] w fun e w' => e = .returned (.int .i64 (send d a b t).1) ∧ Post w B M g (send d a b t).2 w' := by
  unfold send
  cases hk : okP d.n a b
  · rw [if_pos rfl]
    exact (send_no a b t w hd hk).mono fun e w' ⟨he, hb⟩ => ⟨he, Post.quiet hd hb⟩
  · rw [if_neg (by simp)]
    by_cases ht : 20000 < t.length
    · rw [if_pos ht]
      exact (send_long a b t w hd hk ht).mono fun e w' ⟨he, hb⟩ => ⟨he, Post.quiet hd hb⟩
    · rw [if_neg ht]
      cases hc : d.c a b
      · rw [if_neg (by simp)]
        by_cases hq : 100 ≤ (d.q a b).length
        · rw [if_pos hq]
          exact (send_full a b t w ha hb hd hk (by omega) hc hq).mono fun e w' ⟨he, hb⟩ => ⟨he, Post.quiet hd hb⟩
        · rw [if_neg hq]
          exact send_yes a b t w hB ha hb hd hk (by omega) hc (by omega)
      · rw [if_pos rfl]
        exact (send_cut a b t w ha hb hd hk (by omega) hc).mono fun e w' ⟨he, hb⟩ => ⟨he, Post.quiet hd hb⟩

end N
end Go.Proofs.Ytklcpopnggiepaa
