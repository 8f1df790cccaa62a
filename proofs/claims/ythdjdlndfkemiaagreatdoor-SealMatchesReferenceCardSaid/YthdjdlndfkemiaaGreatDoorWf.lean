/- Seals: 'Sign'. -/
import Derived.Test.YthdjdlndfkemiaaGreatDoorWd
import Derived.Test.YthdjdlndfkemiaaGreatDoorRer
import Derived.Laws.EntriesVeiled
set_option linter.unusedSimpArgs false
set_option linter.unusedVariables false
set_option maxRecDepth 100000
namespace Go.Proofs.YthdjdlndfkemiaaGreatDoor
open Go.RowKit Go.Shelf
namespace S
attribute [local go_sem] Oper.semAt_some

theorem sdigits_any (m : Tx) (w : World) :
    Calls Tryz.prog 24 #[.string (str m)] w fun e w' => e = .returned (.func (.func 55) #[] #[.pointer (some ⟨w.heap.size, 0, none⟩)]) ∧ w' = w.alloc (.cells #[.string (str m)] 9) := by
  go_enter Tryz.func24, Tryz.ntmps24
  go_wp2
  go_ret
  exact ⟨rfl, rfl⟩
theorem keepK {M : Nat → Prop} {a b c : World} (h : Reg.Keep M a b) (k : Reg.Keep M b c) : Reg.Keep M a c := keep_trans h k
theorem blkK {M : Nat → Prop} {g : Nat} {C : Array Value} {T : TypeId} {w w' : World} (h : Reg.Blk g C T w) (k : Reg.Keep M w w') (hm : ¬ M g) : Reg.Blk g C T w' := keep_blk k h hm
theorem below_grown {w w' : World} (h : Below w.heap.size w w') : w.grownBy w' none := ⟨h.os, h.tape, h.output, h.size, fun k hk _ => h.block k hk⟩
theorem keep_grown {M : Nat → Prop} {W W' : World} {row : Option Nat} (h : W.grownBy W' row) (hr : ∀ r, row = some r → M r) : Reg.Keep M W W' := by
  obtain ⟨h1, h2, h3, h4, h5⟩ := h
  exact ⟨h1, h2, h3, h4, fun k hk hm => h5 k hk (fun e => hm (hr k e.symm))⟩
theorem keep_weak {M M' : Nat → Prop} {w w' : World} (h : Reg.Keep M w w') (hm : ∀ k, M k → M' k) : Reg.Keep M' w w' := ⟨h.os, h.tape, h.output, h.size, fun k hk hn => h.block k hk (fun e => hn (hm k e))⟩
theorem keep_of {B : Nat} {w w' : World} (h : Below B w w') : Reg.Keep (fun k => B ≤ k) w w' := ⟨h.os, h.tape, h.output, h.size, fun k _ hm => h.block k (by omega)⟩
theorem keepsFrom_of {M : Nat → Prop} {B : Nat} {W W' : World} (h : Reg.Keep M W W') (hc : ∀ k, M k → ∀ o, W.heap[k]? = some o → o.isCells = true) : KeepsFrom B W W' :=
  ⟨h.size, fun k o _ ho hn => (h.block k (Array.getElem?_eq_some_iff.1 ho).1 (fun e => by rw [hc k e o ho] at hn; cases hn)).trans ho⟩
def sigP (s : Tx) (i : Nat) (pre : List SD) : List Tx := pre.map fun x => chn (startT s i x.1.1) x.1.2
theorem sigP_snoc (s : Tx) (i : Nat) (pre : List SD) (x : SD) : sigP s i (pre ++ [x]) = sigP s i pre ++ [chn (startT s i x.1.1) x.1.2] := by simp [sigP]
theorem sigP_all (s : Tx) (i : Nat) (m : Tx) : sigP s i (upT' (fD m) 18) = sigT s i m := by
  unfold sigP upT' sigT
  rw [List.map_map]
  apply List.map_congr_left
  intro k hk
  have hk := List.mem_range.1 hk
  simp only [Function.comp_apply]
  rw [fD_at m k hk]

def ownM (v : Value) : Nat → Prop := fun q => v.ownBlock = some q
theorem own_cells {B : Nat} {W : World} {v : Value} {l : List Tx} (h : Own B W v l) : ∀ k, ownM v k → ∀ o, W.heap[k]? = some o → o.isCells = true := by
  intro k hk o ho
  rcases h.2 with ⟨rfl, _⟩ | ⟨g, cap, cur, rfl, _, hg, _⟩
  · simp [ownM, Value.ownBlock] at hk
  · have e : g = k := by simpa [ownM, Value.ownBlock] using hk
    subst e
    rw [hg] at ho
    injection ho with ho
    subst ho
    rfl
theorem own_ge {B : Nat} {W : World} {v : Value} {l : List Tx} (h : Own B W v l) : ∀ k, ownM v k → B ≤ k ∧ k < W.heap.size := by
  have h0 : W.ownsRow B 9 1 v l.length (sv l) := h
  exact fun k hk => h0.lt k hk
theorem own_grown {B : Nat} {W W' : World} {v : Value} {l : List Tx} {row : Option Nat} (h : Own B W v l) (hg : W.grownBy W' row) (hr : ∀ r, row = some r → ∃ o : Obj, W.heap[r]? = some o ∧ o.isCells = false) : Own B W' v l := by
  have h0 : W.ownsRow B 9 1 v l.length (sv l) := h
  refine h0.kept hg ?_
  cases hv : v.ownBlock with
  | none => exact .inl rfl
  | some k =>
    right
    intro e
    obtain ⟨o, ho, hn⟩ := hr k e.symm
    rw [own_cells h k hv o ho] at hn
    cases hn
theorem own_set {B : Nat} {W : World} {v : Value} {l : List Tx} (h : Own B W v l) {a : Addr} (ha : a.block < B) (u : Value) : Own B (W.setCell a u) v l := by
  have h0 : W.ownsRow B 9 1 v l.length (sv l) := h
  exact ownsRow_setCell_below h0 ha u
/-- 'append(l, t)' in a region that draws: only the row's own block is written. -/
theorem does_app1 {ops : Array Oper} {o : Oper} {a : Act} {K : Act → World → Prop} {w : World} (hw : Region.wanted o (yielded ops a.tmps) = true) (s x : Operand) (ho : o.op = .call { callee := .builtin .append, args := #[s, x], argTypes := #[27, 27] })
    {B cap gx : Nat} {A0 : Option Addr} {l : List Tx} (t : Tx) (hs : a.eval s = .slice A0 l.length cap) (hx : a.eval x = .slice (some ⟨gx, 0, none⟩) 1 1) (hown : Own B w (.slice A0 l.length cap) l) (hg : Reg.Blk gx #[.string (str t)] 9 w) (hn : l.length + 1 ≤ 1000000) (hB : B ≤ w.heap.size)
    (h : ∀ A' c' w', Own B w' (.slice A' (l ++ [t]).length c') (l ++ [t]) → Reg.Keep (ownM (.slice A0 l.length cap)) w w' → K (a.put o.dst (.slice A' (l ++ [t]).length c')) w') :
    Reg.Does Tryz.prog ops o a w K := by
  obtain ⟨i0, hi, hz0, hz1, hz2⟩ := info_parts info_str
  have h0 : w.ownsRow B 9 1 (.slice A0 l.length cap) l.length (sv l) := hown
  have e1 : (l ++ [t]).length = l.length + 1 := by simp
  refine Ap.does_appX Tryz.underlying27 hi hz0 hz1 hz2 rfl (by omega) (by omega) hw s x ho hs hx h0 (Ap.SrcAt.blk1 hg rfl) (fun e => by cases e) hn hB ?_
  intro A' c' w' h2 h3 _
  have h4 := h A' c' w' (by
    show World.ownsRow _ _ _ _ _ _ _
    rw [e1, show sv (l ++ [t]) = sv l ++ [.string (str t)] by simp [sv]]
    exact h2) (keep_grown h3 fun r e => e)
  rw [e1] at h4
  exact h4
/-- A new block of one string in a slot; a row in a slot. -/
def oneF (M : Nat → Prop) (t : Tx) (D : Nat) (d : Nat) (v : Value) (w : World) : Prop := d = D → ∃ gx, v = .slice (some ⟨gx, 0, none⟩) 1 1 ∧ Reg.Blk gx #[.string (str t)] 9 w ∧ ¬ M gx
theorem oneF_s {M : Nat → Prop} {t : Tx} {D : Nat} : ∀ d v w w', oneF M t D d v w → Reg.Keep M w w' → oneF M t D d v w' := fun _ _ _ _ h k e => by
  obtain ⟨gx, e1, hb, hm⟩ := h e
  exact ⟨gx, e1, keep_blk k hb hm, hm⟩
def appT (B : Nat) (v0 : Value) (l : List Tx) (t : Tx) : List Value → World → Prop
  | [], w => Own B w v0 l
  | v1 :: _, w => ∃ A c, v1 = .slice A (l ++ [t]).length c ∧ Own B w v1 (l ++ [t])
theorem appT_s {B : Nat} {v0 : Value} {l : List Tx} {t : Tx} : ∀ vs w w', appT B v0 l t vs w → Below w.heap.size w w' → appT B v0 l t vs w' := fun vs w w' h hb => by
  match vs, h with
  | [], h => exact Own.below h hb
  | v1 :: _, ⟨A, c, e, h⟩ => exact ⟨A, c, e, h.below hb⟩
theorem lst_put {W : World} {A : Option Addr} {n c D : Nat} {l : List Tx} {o : Obj} (h : Lst W A n c l) (hD : W.heap[D]? = some (.deferred (some []))) : Lst (W.putObj D o) A n c l := by
  refine ⟨fun i hi => ?_, h.len, h.cap, h.max, h.nil⟩
  obtain ⟨b, off, e, hb, hc⟩ := h.at_ i hi
  have hne : b ≠ D := by
    intro e
    subst e
    simp only [World.cell?, hD] at hc
    cases hc
  refine ⟨b, off, e, by simpa using hb, ?_⟩
  rw [← hc]
  exact World.cell?_of_block (World.putObj_heap_other (fun e => hne e))
theorem Lst.keep {M : Nat → Prop} {W W' : World} {A : Option Addr} {n c : Nat} {l : List Tx} (h : Lst W A n c l) (k : Reg.Keep M W W') (hm : ∀ b off, A = some ⟨b, off, none⟩ → ¬ M b) : Lst W' A n c l := by
  refine ⟨fun i hi => ?_, h.len, h.cap, h.max, h.nil⟩
  obtain ⟨b, off, e, hb, hc⟩ := h.at_ i hi
  exact ⟨b, off, e, Nat.lt_of_lt_of_le hb k.size, ((Reg.kcell k).1 b _ hb (hm b off e)).trans hc⟩

/-- What is known in the region of a seal's path. -/
structure LstA (G : Nat) (w : World) (A : Option Addr) (n c : Nat) (l : List Tx) : Prop where
  lst : Lst w A n c l
  hi : ∀ b off, A = some ⟨b, off, none⟩ → G < b
theorem LstA.keep {G : Nat} {w w' : World} {A : Option Addr} {n c : Nat} {l : List Tx} (h : LstA G w A n c l) (k : Reg.Keep (fun q => q = G) w w') : LstA G w' A n c l :=
  ⟨h.lst.keep k fun b off e => by have := h.hi b off e; omega, h.hi⟩
def pathF (G N h : Nat) (L P : List Tx) (d : Nat) (v : Value) (w : World) : Prop :=
  (d = 2 → ∃ A c, v = .slice A N c ∧ LstA G w A N c L) ∧ (d = 4 ∨ d = 5 → ∃ B e, v = .tuple #[.slice B h e, .int .i64 0] ∧ LstA G w B h e P) ∧ (d = 6 → ∃ B e, v = .slice B h e ∧ LstA G w B h e P)
theorem pathF_s {G N h : Nat} {L P : List Tx} : ∀ d v w w', pathF G N h L P d v w → Reg.Keep (fun q => q = G) w w' → pathF G N h L P d v w' := fun _ _ _ _ ⟨h1, h2, h3⟩ k =>
  ⟨fun e => let ⟨A, c, e1, hl⟩ := h1 e; ⟨A, c, e1, hl.keep k⟩, fun e => let ⟨A, c, e1, hl⟩ := h2 e; ⟨A, c, e1, hl.keep k⟩, fun e => let ⟨A, c, e1, hl⟩ := h3 e; ⟨A, c, e1, hl.keep k⟩⟩
theorem pathF_no {G N h : Nat} {L P : List Tx} {d : Nat} (h1 : d ≠ 2 ∧ d ≠ 4 ∧ d ≠ 5 ∧ d ≠ 6) (v : Value) (w : World) : pathF G N h L P d v w := ⟨fun e => absurd e h1.1, fun e => by rcases e with e | e; exact absurd e h1.2.1; exact absurd e h1.2.2.1, fun e => absurd e h1.2.2.2⟩

def setT (G : Nat) (i : Int) (h : Nat) (v1 : Value) (P : List Tx) : List Value → World → Prop
  | [], w => Reg.Blk G #[.int .i64 i, v1, .slice none 0 0] 29 w
  | _ :: _, w => ∃ B e, Reg.Blk G #[.int .i64 i, v1, .slice B h e] 29 w ∧ LstA G w B h e P
theorem setT_s {G : Nat} {i : Int} {h : Nat} {v1 : Value} {P : List Tx} : ∀ vs w w', setT G i h v1 P vs w → Below w.heap.size w w' → setT G i h v1 P vs w' := fun vs w w' hh hb => by
  match vs, hh with
  | [], hh => exact Reg.Blk.keep hh hb
  | _ :: _, ⟨B, e, h1, h2⟩ => exact ⟨B, e, h1.keep hb, h2.lst.below hb, h2.hi⟩

theorem own_keepM {B : Nat} {M : Nat → Prop} {W W' : World} {v : Value} {l : List Tx} (h : Own B W v l) (k : Reg.Keep M W W') (hm : ∀ q, M q → q < B) : Own B W' v l := by
  refine ⟨h.1, ?_⟩
  rcases h.2 with h2 | ⟨g, cap, cur, hv, hg, hh, r⟩
  · exact .inl h2
  · exact .inr ⟨g, cap, cur, hv, hg, (k.block g (Array.getElem?_eq_some_iff.1 hh).1 (fun e => by have := hm g e; omega)).trans hh, r⟩

set_option maxHeartbeats 8000000 in
theorem sign_ok (s m : Tx) (h i : Nat) (w : World) (hs : s.length ≤ 1000000) (hm : m.length ≤ 140737488351232) (hh : h ≤ 8) (hi : i < 2 ^ h) (ht : Tabs w) :
    Calls Tryz.prog 11 #[.string (str s), .int .i64 h, .int .i64 i, .string (str m)] w fun e w' =>
      (∃ A c B d, e = .returned (.tuple #[.agg #[.int .i64 i, .slice A 18 c, .slice B h d], .int .i64 0]) ∧ Lst w' A 18 c (sigT s i m) ∧ Lst w' B h d (pathT (leavesT s h) i)) ∧ Below w.heap.size w w' := by
  have HT := Lib.hid ht
  have hshl := wrap_pow h hh
  have hp8 := pow_le hh
  have HD := Lib.hid (fun W => sdigits_any m W)
  have h8 : decide ((8 : Int) < (h : Int)) = false := decide_eq_false (by omega)
  have h0 : decide ((h : Int) < 0) = false := decide_eq_false (by omega)
  have hi0 : decide ((i : Int) < 0) = false := decide_eq_false (by omega)
  have hin : decide (2 ^ h ≤ i) = false := decide_eq_false (by omega)
  have HHi := Lib.hid (And.intro hh hi)
  have HM := Lib.hid hm
  have HSL : Hid (s.length ≤ 1000000 ∧ i ≤ 1000000) := ⟨hs, by omega⟩
  have HNN0 : Hid (∃ N, N = 2 ^ h) := ⟨_, rfl⟩
  generalize hNN : 2 ^ h = N at *
  have HNN := Lib.hid hNN
  clear hNN HNN0
  refine (callsIn_wide (n := 5)).1 ?_
  refine callsIn_of_wp_marks Tryz.func11 rfl trivial ?_ rfl
  simp only [Tryz.ntmps11, List.size_toArray, List.length_cons, List.length_nil, Nat.reduceAdd, Nat.reduceSub, Array.replicate_succ, Array.replicate_zero, List.push_toArray, List.append_toArray, List.nil_append, List.cons_append]
  gi_wp2_with fail
  obtain ⟨n4, n6, n8⟩ := Reg.Blk.new3 (w := w) (C := #[.string (str s)]) (T := 9) (C' := #[.int .i64 i]) (T' := 3) (C'' := #[.int .i64 0, .slice none 0 0, .slice none 0 0]) (T'' := 29) (Below.refl _ _)
  have hal : Below w.heap.size w (((w.alloc (.cells #[.string (str s)] 9)).alloc (.cells #[.int .i64 i] 3)).alloc (.cells #[.int .i64 0, .slice none 0 0, .slice none 0 0] 29)) := (((Below.refl _ _).alloc (Nat.le_refl _) _).alloc (by simp) _).alloc (by simp; omega) _
  have hsz : (((w.alloc (.cells #[.string (str s)] 9)).alloc (.cells #[.int .i64 i] 3)).alloc (.cells #[.int .i64 0, .slice none 0 0, .slice none 0 0] 29)).heap.size = w.heap.size + 3 := by simp
  generalize (((w.alloc (.cells #[.string (str s)] 9)).alloc (.cells #[.int .i64 i] 3)).alloc (.cells #[.int .i64 0, .slice none 0 0, .slice none 0 0] 29)) = W0 at *
  have HAL := Lib.hid (And.intro hal hsz)
  have N4 := Lib.hid n4
  have N6 := Lib.hid n6
  have N8 := Lib.hid n8
  clear hal hsz n4 n6 n8 ht hs hm hi
  generalize hg0 : w.heap.size = g at *
  have HG0 := Lib.hid hg0
  clear hg0
  obtain ⟨c6, f6, z6⟩ := N6.out.facts
  refine wpIn_wide.2 ?_
  refine Reg.wp_region_seq (by kernel_rfl) (by kernel_rfl) ?_
  simp only
  iterate 13
    apply Reg.SeqOK.val
    · intro γ W hW K hK
      obtain ⟨hc, hf, _⟩ := bcell hW
      simp only [Act.put, List.setIfInBounds_toArray, List.set_cons_zero, List.set_cons_succ] at hK
      unfold Reg.Does
      go_simp
      try simp only [IntWalk.i64_left]
      first
        | exact hK _ (Below.refl _ _)
        | (trace_state; fail)
    simp only [Act.put, List.setIfInBounds_toArray, List.set_cons_zero, List.set_cons_succ, List.nil_append, List.cons_append, Nat.reduceAdd, Nat.zero_add]
  refine Reg.SeqOK.val (.int .i64 (N : Int)) (fun γ W hW K hK => ?_) ?_
  · simp only [Act.put, List.setIfInBounds_toArray, List.set_cons_zero, List.set_cons_succ] at hK
    unfold Reg.Does
    go_simp
    try simp only [IntWalk.i64_left]
    try simp only [hshl]
    exact hK _ (Below.refl _ _)
  simp only [Act.put, List.setIfInBounds_toArray, List.set_cons_zero, List.set_cons_succ, List.nil_append, List.cons_append, Nat.reduceAdd, Nat.zero_add]
  iterate 2
    apply Reg.SeqOK.val
    · intro γ W hW K hK
      obtain ⟨hc, hf, _⟩ := bcell hW
      simp only [Act.put, List.setIfInBounds_toArray, List.set_cons_zero, List.set_cons_succ] at hK
      unfold Reg.Does
      go_simp
      try simp only [IntWalk.i64_left]
      first
        | exact hK _ (Below.refl _ _)
        | (trace_state; fail)
    simp only [Act.put, List.setIfInBounds_toArray, List.set_cons_zero, List.set_cons_succ, List.nil_append, List.cons_append, Nat.reduceAdd, Nat.zero_add]
  refine Reg.SeqOK.nil (by kernel_rfl) (fun γ W1 hW _ _ _ => ?_)
  have HW1 := Lib.hid hW
  clear c6 f6 z6 hW h8 h0 hi0 hin hshl hh
  obtain ⟨c6, f6, z6⟩ := (N6.out.keep HW1.out).facts
  gi_wp2_with fail
  refine ⟨trivial, ?_⟩
  refine (callsIn_wide.2 (HD.out _)).mono ?_
  rintro e w3 ⟨rfl, hw3⟩
  obtain ⟨n10, nm⟩ := Reg.Blk.new2 (w := W1) (C := #[.int .i64 i, .slice none 0 0, .slice none 0 0]) (T := 29) (C' := #[.string (str m)]) (T' := 9) (Below.refl _ _)
  rw [← hw3] at n10 nm
  have hal : Below W1.heap.size W1 w3 := by rw [hw3]; exact ((Below.refl _ _).alloc (Nat.le_refl _) _).alloc (by simp) _
  have hsz : w3.heap.size = W1.heap.size + 2 := by rw [hw3]; simp
  have HW3 := Lib.hid (HW1.out.trans (hal.mono HW1.out.size))
  have hlo : g + 3 ≤ W1.heap.size := by have := HW1.out.size; have := HAL.out.2; omega
  have hgs : g + 1 + 1 < W1.heap.size := by omega
  replace N4 := Lib.hid ((N4.out.keep HW1.out).keep hal)
  replace N6 := Lib.hid ((N6.out.keep HW1.out).keep hal)
  replace N8 := Lib.hid ((N8.out.keep HW1.out).keep hal)
  simp only [World.size_alloc]
  clear hal hw3 c6 f6 z6
  have HZ := Lib.hid (And.intro hsz hlo)
  generalize W1.heap.size = g10 at *
  gi_wp2_with fail
  refine wpIn_rangeFunc_ownH (α := SD) rfl (by decide) (gf := 55) (lb := #[.pointer (some ⟨g10 + 1, 0, none⟩)]) rfl trivial (enters_of Tryz.func55 (by kernel_rfl) rfl)
    (encs := encD) (Kp := Reg.Keep (fun k => k = g10 ∨ w3.heap.size ≤ k)) (S := fun xs => xs = upT' (fD m) 18) (Sp := fun _ => True) (N := 18) (w0 := w3) ?seq (fun h k => keepK h k) ?kb (Below.refl _ _) (fun _ => rfl)
    (fun pre W => Reg.Keep (fun k => k = g10 ∨ w3.heap.size ≤ k) w3 W ∧ ∃ A c, Reg.Blk g10 #[.int .i64 i, .slice A (sigP s i pre).length c, .slice none 0 0] 29 W ∧ Own w3.heap.size W (.slice A (sigP s i pre).length c) (sigP s i pre)) (fun _ _ _ => False) ?hI (fun _ _ _ _ _ hs _ _ => hs) ?h0
    (fun x a' W => a' = { tmps := #[.string (str s), .int .i64 h, .int .i64 i, .string (str m), .pointer (some ⟨g, 0, none⟩), undef, .pointer (some ⟨g + 1, 0, none⟩), undef, .pointer (some ⟨g + 1 + 1, 0, none⟩), .int .i64 0, .pointer (some ⟨g10, 0, none⟩), .int .i64 (x.1.1 : Int), .int .i64 (x.1.2 : Int), .int .i64 h, .bool false,
        .bool false, .int .i64 h, .bool false, .bool false, .bool false, .int .i64 i, .bool false, .bool false, .bool false, .int .i64 i, .int .i64 h, .int .i64 N, .bool false, .bool false, undef, .int .i64 i, .agg #[.int .i64 i, .slice none 0 0, .slice none 0 0], .string (str m),
        .func (Fn.func 55) #[] #[.pointer (some ⟨g10 + 1, 0, none⟩)], .int .i64 (x.1.1 : Int), .int .i64 (x.1.2 : Int), undef, undef, undef, undef, undef, undef, undef, undef, undef, undef, undef, undef, undef, undef, undef, undef, undef, undef, undef, undef, undef], defers := [] }) ?hAx ?assign ?body ?done ?stop
  case seq =>
    intro l₀ J Jx W hW hJ hJx hY h0
    have hb : Below w.heap.size w W := by
      have h1 := HAL.out.2
      have h2 := HW3.out.size
      have h3 := HG0.out
      rw [h3]
      exact (HAL.out.1.trans (HW3.out.mono (by omega))).trans (hW.mono (by omega))
    exact digits1_in 3 l₀ (fun k => k = g10 ∨ w3.heap.size ≤ k) (g10 + 1) m J Jx W HM.out (HT.out.below hb) (nm.keep hW) (fun s v v' h hb => hJ s v v' none h (below_grown hb) (fun r e => by cases e)) hY h0
  case kb => exact fun W k o o' hk ho _ _ => ⟨rfl, rfl, rfl, by simp, fun j hj hm => World.putObj_heap_other (fun e => hm (.inr (by omega)))⟩
  case hI =>
    rintro pre W W' row ⟨hk, A, c, hb, ho⟩ hgr hr
    refine ⟨keepK hk (keep_grown hgr fun r e => .inr (hr r e).1), A, c, ?_, own_grown ho hgr fun r e => (hr r e).2⟩
    exact (hgr.block g10 hb.lt (fun e => by have := (hr g10 e.symm).1; have := HZ.out.1; omega)).trans hb
  case h0 => exact ⟨keep_refl _ _, none, 0, n10, Own.nil _ _⟩
  case hAx => exact fun _ _ _ _ _ _ h _ _ => h
  case assign =>
    intro l₀ pre x W K hi hK
    have HG := Lib.hid (hK _ _ (KeepsFrom.refl _ _) (keep_refl _ _) hi rfl)
    clear hK
    gi_wp2_with fail
    exact HG.out
  case body =>
    rintro l₀ pre x a' W hl _ ⟨hkp, A, c, hb, ho⟩ rfl hlt
    have b4 := blkK N4.out hkp (by have := HZ.out; omega)
    have b6 := blkK N6.out hkp (by have := HZ.out; omega)
    obtain ⟨c4, f4, z4⟩ := b4.facts
    obtain ⟨c6, f6, z6⟩ := b6.facts
    obtain ⟨c10, f10, z10⟩ := hb.facts
    obtain ⟨M, hM⟩ : ∃ M, M = ownM (.slice A (sigP s i pre).length c) := ⟨_, rfl⟩
    have hMge : ∀ k, M k → w3.heap.size ≤ k ∧ k < W.heap.size := fun k hk => own_ge ho k (by rw [← hM]; exact hk)
    have m4 : ¬ M g := fun h => by have := (hMge g h).1; have := HZ.out; omega
    have m6 : ¬ M (g + 1) := fun h => by have := (hMge _ h).1; have := HZ.out; omega
    have m10 : ¬ M g10 := fun h => by have := (hMge _ h).1; have := HZ.out; omega
    have hTab : ∀ W2, Reg.Keep M W W2 → Tabs W2 := fun W2 hk => by
      have h1 := HAL.out.2
      have h2 := HW3.out.size
      have h3 := HG0.out
      refine HT.out.below ?_
      rw [h3]
      have e1 : Below g w w3 := HAL.out.1.trans (HW3.out.mono (by omega))
      have e2 : Below g w3 W := hkp.below fun k hk => ⟨by omega, by have := HZ.out; omega⟩
      have e3 : Below g W W2 := hk.below fun k hk' => ⟨by have := hkp.size; omega, fun hm => by have := (hMge k hm).1; have := HZ.out; omega⟩
      exact (e1.trans e2).trans e3
    have HS := Lib.hid (fun W2 (h : Reg.Keep M W W2) => start_any s i x.1.1 W2 HSL.out.1 HSL.out.2 (by have := x.2.1; omega) (hTab W2 h))
    have HC := Lib.hid (fun W2 (h : Reg.Keep M W W2) => chainT (startT s i x.1.1) x.1.2 W2 (by rw [start_len]; omega) (by have := x.2.2; omega) (hTab W2 h))
    have HO := Lib.hid ho
    have HK := Lib.hid (And.intro hkp hMge)
    have HBk := Lib.hid hb
    have HMq := Lib.hid hM
    have hsn := sigP_snoc s i pre x
    have HSn := Lib.hid hsn
    have hln : (sigP s i pre).length = pre.length := by simp [sigP]
    have HLn := Lib.hid (And.intro hln hlt)
    clear hkp hb ho hM hMge hTab b4 b6 hsn hln hlt hl
    generalize startT s i x.1.1 = S0 at *
    generalize chn S0 x.1.2 = t at *
    gi_wp2_with fail
    refine RegR.round_region_last M (oneF M t 8) (appT w3.heap.size (.slice A (sigP s i pre).length c) (sigP s i pre) t) (by kernel_rfl) (by kernel_rfl) (by kernel_rfl) oneF_s appT_s (HO.out.below ((Below.refl _ _).drew)) ?_
    simp only
    iterate 8
      apply Reg.SeqL.val
      rotate_left 2
      · intro δ W hW hkn K hK
        obtain ⟨hc, hf, _⟩ := Reg.kcell hW
        simp only [Act.put, List.setIfInBounds_toArray, List.set_cons_zero, List.set_cons_succ] at hK
        unfold Reg.Does
        go_simp
        try simp only [IntWalk.i64_left]
        first
          | exact hK _ (Below.refl _ _)
          | (go_at_call 26; (with_reducible refine (HS.out _ hW).mono ?_); rintro e w' ⟨rfl, hb⟩; exact hK _ hb)
          | (go_at_call 25; (with_reducible refine (HC.out _ hW).mono ?_); rintro e w' ⟨rfl, hb⟩; exact hK _ hb)
          | (trace_state; fail)
      rotate_left 1
      · intro δ δ' hd; first | rfl | (simp only [hd _ (show Reg.reach _ 12 _ _ = true by kernel_rfl)])
      · intro x w; first | exact trivial | (intro e; exact absurd e (by decide)) | exact ⟨fun e => absurd e (by decide), fun e => absurd e (by decide)⟩
      simp only [Act.put, List.setIfInBounds_toArray, List.set_cons_zero, List.set_cons_succ, List.nil_append, List.cons_append, Nat.reduceAdd, Nat.zero_add]
    refine Reg.SeqL.new (fun δ W2 hW hkn K hK => ?_) ?_
    · simp only [Act.put, List.setIfInBounds_toArray, List.set_cons_zero, List.set_cons_succ] at hK
      unfold Reg.Does
      go_simp
      exact hK _ _ ((Below.refl _ _).alloc (Nat.le_refl _) _) (fun _ => ⟨W2.heap.size, rfl, Reg.Blk.new _ _ _, fun h => by have := (HK.out.2 _ h).2; have := hW.size; omega⟩)
    simp only [Act.put, List.setIfInBounds_toArray, List.set_cons_zero, List.set_cons_succ, List.nil_append, List.cons_append, Nat.reduceAdd, Nat.zero_add]
    refine Reg.SeqL.eff (fun e h => by simp at h) (fun δ W2 hW hkn hT K hK => ?_) ?_
    · obtain ⟨gx, e8, hg, _⟩ := hkn 8 (by kernel_rfl) rfl
      refine does_app1 (by rfl) _ _ rfl t rfl e8 hT hg (by have := HLn.out; omega) (by have := HK.out.1.size; have := hW.size; omega) ?_
      intro A' c' w' ho' hk'
      exact hK _ _ (by rw [HMq.out]; exact hk') (fun e => absurd e (by decide)) ⟨A', c', rfl, ho'⟩
    simp only [Act.put, List.setIfInBounds_toArray, List.set_cons_zero, List.set_cons_succ, List.nil_append, List.cons_append, Nat.reduceAdd, Nat.zero_add]
    iterate 1
      apply Reg.SeqL.val
      rotate_left 2
      · intro δ W hW hkn K hK
        obtain ⟨hc, hf, _⟩ := Reg.kcell hW
        simp only [Act.put, List.setIfInBounds_toArray, List.set_cons_zero, List.set_cons_succ] at hK
        unfold Reg.Does
        go_simp
        try simp only [IntWalk.i64_left]
        first
          | exact hK _ (Below.refl _ _)
          | (trace_state; fail)
      rotate_left 1
      · intro δ δ' hd; first | rfl | (simp only [hd _ (show Reg.reach _ 12 _ _ = true by kernel_rfl)])
      · intro x w; first | exact trivial | (intro e; exact absurd e (by decide)) | exact ⟨fun e => absurd e (by decide), fun e => absurd e (by decide)⟩
      simp only [Act.put, List.setIfInBounds_toArray, List.set_cons_zero, List.set_cons_succ, List.nil_append, List.cons_append, Nat.reduceAdd, Nat.zero_add]
    refine Reg.SeqL.fin (by kernel_rfl) (fun δ W5 hW5 hF hT5 K hK => ?_)
    simp only [Act.put, List.setIfInBounds_toArray, List.set_cons_zero, List.set_cons_succ] at hK
    obtain ⟨A', c', e9, ho'⟩ := hT5
    have hl1 : (sigP s i pre ++ [t]).length = (sigP s i pre).length + 1 := by simp
    rw [hl1] at e9
    rw [e9] at ho'
    have HL1 := Lib.hid hl1
    clear hl1
    have b5 := keep_blk hW5 HBk.out m10
    clear c4 f4 z4 c6 f6 z6 c10 f10 z10
    obtain ⟨c10, f10, z10⟩ := b5.facts
    have HB5 := Lib.hid b5
    have HO5 := Lib.hid ho'
    have HW5 := Lib.hid hW5
    clear b5 ho' hF hW5
    rw [e9] at hK ⊢
    unfold Reg.Does
    go_simp
    refine hK undef _ ⟨rfl, ?_⟩
    have hu := (Reg.Upd.refl HB5.out).set 1 (.slice A' ((sigP s i pre).length + 1) c')
    have hset := own_set HO5.out (a := ⟨g10, 1, none⟩) (by have := HZ.out; show g10 < _; omega) (.slice A' ((sigP s i pre).length + 1) c')
    have kU : Reg.Keep (fun k => M k ∨ k = g10) W (W5.setCell ⟨g10, 1, none⟩ (.slice A' ((sigP s i pre).length + 1) c')) :=
      Reg.updK (M := fun k => M k ∨ k = g10) (g := g10) (.inr rfl) _ _ _ _ (keep_weak HW5.out fun k hk => .inl hk) hu
    have kV := keep_weak (M' := fun k => k = g10 ∨ w3.heap.size ≤ k) kU fun k hk => by rcases hk with hk | hk; exact .inr (HK.out.2 k hk).1; exact .inl hk
    refine ⟨keepsFrom_of kU fun k hk o ho => ?_, kV, keepK HK.out.1 kV, A', c', ?_, ?_⟩
    · rcases hk with hk | rfl
      · rw [HMq.out] at hk
        exact own_cells HO.out k hk o ho
      · have hb' : W.heap[k]? = _ := HBk.out
        rw [hb'] at ho
        injection ho with ho
        subst ho
        rfl
    · rw [HSn.out, HL1.out]; exact hu.at_
    · rw [HSn.out, HL1.out]; exact hset
  case done =>
    rintro D xs W hD rfl ⟨hkp, A, c, hb, ho⟩ hdef
    rw [sigP_all] at hb ho
    rw [sig_len] at hb ho
    have b4 := blkK N4.out hkp (by have := HZ.out; omega)
    have b6 := blkK N6.out hkp (by have := HZ.out; omega)
    have b8 := blkK N8.out hkp (by have := HZ.out; omega)
    have hbw : Below w.heap.size w W := by
      have h1 := HAL.out.2
      have h2 := HW3.out.size
      have h3 := HG0.out
      rw [h3]
      have e1 : Below g w w3 := HAL.out.1.trans (HW3.out.mono (by omega))
      exact e1.trans (hkp.below fun k hk => ⟨by omega, by have := HZ.out; omega⟩)
    have hlow : w3.heap.size ≤ W.heap.size := hkp.size
    obtain ⟨c4, f4, z4⟩ := b4.facts
    obtain ⟨c6, f6, z6⟩ := b6.facts
    obtain ⟨c10, f10, z10⟩ := hb.facts
    have HBW := Lib.hid hbw
    have HB10 := Lib.hid hb
    have HB8 := Lib.hid b8
    have HO := Lib.hid ho
    have HDf := Lib.hid (And.intro hD hdef)
    have hTab : ∀ W2, Reg.Keep (fun q => q = g10) W W2 → Tabs W2 := fun W2 k => HT.out.below (HBW.out.trans (k.below fun q hq => ⟨by have := HBW.out.size; omega, by have := HG0.out; have := HZ.out; omega⟩))
    have hGlt : g10 < W.heap.size := z10
    have HK : Hid (∀ W2, Reg.Keep (fun q => q = g10) W W2 → Calls Tryz.prog 23 #[.string (str s), .int .i64 h] W2 fun e w' => (∃ A c, e = .returned (.slice A N c) ∧ LstA g10 w' A N c (leavesT s h)) ∧ Below W2.heap.size W2 w') := fun W2 k => by
      have hq := keys_any s h W2 HSL.out.1 HHi.out.1 (hTab W2 k)
      rw [HNN.out] at hq
      refine hq.mono ?_
      rintro e w' ⟨⟨A, c, rfl, hl, hA⟩, hb2⟩
      exact ⟨⟨A, c, rfl, hl, fun b off e => by have := hA b off e; have := k.size; omega⟩, hb2⟩
    have HP : Hid (∀ W2 A c, Reg.Keep (fun q => q = g10) W W2 → Lst W2 A N c (leavesT s h) → Calls Tryz.prog 27 #[.slice A N c, .int .i64 i] W2 fun e w' => (∃ B d, e = .returned (.tuple #[.slice B h d, .int .i64 0]) ∧ LstA g10 w' B h d (pathT (leavesT s h) i)) ∧ Below W2.heap.size W2 w') := fun W2 A c k hl => by
      have hq := path_yes (leavesT s h) i A c W2 (by rw [leaves_len, HNN.out]; omega) (hTab W2 k) hl.at_ (by have := hl.cap; rw [leaves_len, HNN.out]; exact this) hl.max hl.nil (leaves_dig s h) (by rw [leaves_len, HNN.out]; exact HHi.out.2)
      rw [leaves_len, HNN.out] at hq
      refine hq.mono ?_
      rintro e w' ⟨⟨v, rfl, ho2⟩, hb2⟩
      obtain ⟨B, d, rfl, h1, h2, h3, h4, h5⟩ := ho2.parts
      have e1 : (pathT (leavesT s h) i).length = h := by rw [path_len _ _ i rfl, leaves_len, len_two h i (by rw [HNN.out]; exact HHi.out.2)]
      rw [e1] at h2 ⊢
      exact ⟨⟨B, d, rfl, ⟨h1, e1, h2, h3, h4⟩, fun b off e => by have := (h5 b off e).1; have := k.size; omega⟩, hb2⟩
    clear hkp b4 b6 b8 hb ho hbw hdef nm n10
    generalize hLe : leavesT s h = L at *
    generalize hPe : pathT L i = P at *
    have HPe : Hid (pathT (leavesT s h) i = P) := by unfold Hid; rw [hLe]; exact hPe
    have HSg := Lib.hid (sig_len s i m)
    generalize hSe : sigT s i m = Sg at *
    have HSe := Lib.hid hSe
    clear hLe hPe hSe
    gi_wp2_with fail
    refine wpIn_wide.2 ?_
    clear hTab hGlt hlow
    have hne4 : ¬ g = g10 := by have := HZ.out; omega
    have hne6 : ¬ g + 1 = g10 := by have := HZ.out; omega
    refine Reg.wp_region_eff (fun q => q = g10) (pathF g10 N h L P) (setT g10 i h (.slice A 18 c) P) (by kernel_rfl) (by kernel_rfl) pathF_s setT_s (HB10.out.drew) ?_
    simp only
    iterate 2
      apply Reg.SeqE.val
      rotate_left 2
      · intro δ W hW hkn K hK
        obtain ⟨hc, hf, _⟩ := Reg.kcell hW
        simp only [Act.put, List.setIfInBounds_toArray, List.set_cons_zero, List.set_cons_succ] at hK
        unfold Reg.Does
        go_simp
        try simp only [IntWalk.i64_left]
        first
          | exact hK _ (Below.refl _ _)
      rotate_left 1
      · intro δ δ' hd; first | rfl | (simp only [hd _ (show Reg.reach _ 12 _ _ = true by kernel_rfl)])
      · intro x w; first | exact trivial | exact pathF_no (by decide) _ _ | (intro e; exact absurd e (by decide)) | exact ⟨fun e => absurd e (by decide), fun e => absurd e (by decide)⟩
      simp only [Act.put, List.setIfInBounds_toArray, List.set_cons_zero, List.set_cons_succ, List.nil_append, List.cons_append, Nat.reduceAdd, Nat.zero_add]
    refine Reg.SeqE.new (fun δ W2 hW hkn K hK => ?_) ?_
    · simp only [Act.put, List.setIfInBounds_toArray, List.set_cons_zero, List.set_cons_succ] at hK
      unfold Reg.Does
      go_simp
      (with_reducible refine (HK.out W2 hW).mono ?_); rintro e w' ⟨⟨A2, c2, rfl, hl2⟩, hb2⟩
      exact hK _ _ hb2 ⟨fun _ => ⟨A2, c2, rfl, hl2⟩, fun e => by rcases e with e | e <;> exact absurd e (by decide), fun e => absurd e (by decide)⟩
    simp only [Act.put, List.setIfInBounds_toArray, List.set_cons_zero, List.set_cons_succ, List.nil_append, List.cons_append, Nat.reduceAdd, Nat.zero_add]
    iterate 1
      apply Reg.SeqE.val
      rotate_left 2
      · intro δ W hW hkn K hK
        obtain ⟨hc, hf, _⟩ := Reg.kcell hW
        simp only [Act.put, List.setIfInBounds_toArray, List.set_cons_zero, List.set_cons_succ] at hK
        unfold Reg.Does
        go_simp
        try simp only [IntWalk.i64_left]
        first
          | exact hK _ (Below.refl _ _)
      rotate_left 1
      · intro δ δ' hd; first | rfl | (simp only [hd _ (show Reg.reach _ 12 _ _ = true by kernel_rfl)])
      · intro x w; first | exact trivial | exact pathF_no (by decide) _ _ | (intro e; exact absurd e (by decide)) | exact ⟨fun e => absurd e (by decide), fun e => absurd e (by decide)⟩
      simp only [Act.put, List.setIfInBounds_toArray, List.set_cons_zero, List.set_cons_succ, List.nil_append, List.cons_append, Nat.reduceAdd, Nat.zero_add]
    refine Reg.SeqE.new (fun δ W2 hW hkn K hK => ?_) ?_
    · obtain ⟨A2, c2, e2, hl2⟩ := (hkn 2 (by kernel_rfl)).1 rfl
      simp only [Act.put, List.setIfInBounds_toArray, List.set_cons_zero, List.set_cons_succ] at hK
      unfold Reg.Does
      rw [e2] at hK ⊢
      go_simp
      (with_reducible refine (HP.out W2 A2 c2 hW hl2.lst).mono ?_); rintro e w' ⟨⟨B2, d2, rfl, hl3⟩, hb2⟩
      exact hK _ _ hb2 ⟨fun e => absurd e (by decide), fun _ => ⟨B2, d2, rfl, hl3⟩, fun e => absurd e (by decide)⟩
    simp only [Act.put, List.setIfInBounds_toArray, List.set_cons_zero, List.set_cons_succ, List.nil_append, List.cons_append, Nat.reduceAdd, Nat.zero_add]
    refine Reg.SeqE.new (fun δ W2 hW hkn K hK => ?_) ?_
    · have q := hkn 4 (by kernel_rfl)
      obtain ⟨B2, d2, e4, hl2⟩ := q.2.1 (.inl rfl)
      simp only [Act.put, List.setIfInBounds_toArray, List.set_cons_zero, List.set_cons_succ] at hK
      unfold Reg.Does
      rw [e4] at hK ⊢
      go_simp
      exact hK _ _ (Below.refl _ _) ⟨fun e => absurd e (by decide), fun _ => ⟨B2, d2, rfl, hl2⟩, fun e => absurd e (by decide)⟩
    simp only [Act.put, List.setIfInBounds_toArray, List.set_cons_zero, List.set_cons_succ, List.nil_append, List.cons_append, Nat.reduceAdd, Nat.zero_add]
    refine Reg.SeqE.new (fun δ W2 hW hkn K hK => ?_) ?_
    · have q := hkn 5 (by kernel_rfl)
      obtain ⟨B2, d2, e5, hl2⟩ := q.2.1 (.inr rfl)
      simp only [Act.put, List.setIfInBounds_toArray, List.set_cons_zero, List.set_cons_succ] at hK
      unfold Reg.Does
      rw [e5] at hK ⊢
      go_simp
      exact hK _ _ (Below.refl _ _) ⟨fun e => absurd e (by decide), fun e => by rcases e with e | e <;> exact absurd e (by decide), fun _ => ⟨B2, d2, rfl, hl2⟩⟩
    simp only [Act.put, List.setIfInBounds_toArray, List.set_cons_zero, List.set_cons_succ, List.nil_append, List.cons_append, Nat.reduceAdd, Nat.zero_add]
    refine Reg.SeqE.new (fun δ W2 hW hkn K hK => ?_) ?_
    · have q := hkn 5 (by kernel_rfl)
      obtain ⟨B2, d2, e5, hl2⟩ := q.2.1 (.inr rfl)
      simp only [Act.put, List.setIfInBounds_toArray, List.set_cons_zero, List.set_cons_succ] at hK
      unfold Reg.Does
      rw [e5] at hK ⊢
      go_simp
      exact hK _ _ (Below.refl _ _) (pathF_no (by decide) _ _)
    simp only [Act.put, List.setIfInBounds_toArray, List.set_cons_zero, List.set_cons_succ, List.nil_append, List.cons_append, Nat.reduceAdd, Nat.zero_add]
    iterate 1
      apply Reg.SeqE.val
      rotate_left 2
      · intro δ W hW hkn K hK
        obtain ⟨hc, hf, _⟩ := Reg.kcell hW
        simp only [Act.put, List.setIfInBounds_toArray, List.set_cons_zero, List.set_cons_succ] at hK
        unfold Reg.Does
        go_simp
        try simp only [IntWalk.i64_left]
        first
          | exact hK _ (Below.refl _ _)
      rotate_left 1
      · intro δ δ' hd; first | rfl | (simp only [hd _ (show Reg.reach _ 12 _ _ = true by kernel_rfl)])
      · intro x w; first | exact trivial | exact pathF_no (by decide) _ _ | (intro e; exact absurd e (by decide)) | exact ⟨fun e => absurd e (by decide), fun e => absurd e (by decide)⟩
      simp only [Act.put, List.setIfInBounds_toArray, List.set_cons_zero, List.set_cons_succ, List.nil_append, List.cons_append, Nat.reduceAdd, Nat.zero_add]
    refine Reg.SeqE.eff (fun e h => by simp at h) (fun δ W2 hW hkn hT K hK => ?_) ?_
    · have q := hkn 6 (by kernel_rfl)
      obtain ⟨B2, d2, e6, hl2⟩ := q.2.2 rfl
      have hT' : Reg.Blk g10 #[.int .i64 i, .slice A 18 c, .slice none 0 0] 29 W2 := hT
      obtain ⟨c10, f10, z10⟩ := hT'.facts
      simp only [Act.put, List.setIfInBounds_toArray, List.set_cons_zero, List.set_cons_succ] at hK
      unfold Reg.Does
      rw [e6] at hK ⊢
      go_simp
      have hu := (Reg.Upd.refl hT').set 2 (.slice B2 h d2)
      have kU := Reg.updK (M := fun q => q = g10) (g := g10) rfl _ _ _ _ (keep_refl _ _) hu
      exact hK undef _ kU (pathF_no (by decide) _ _) ⟨B2, d2, hu.at_, hl2.keep kU⟩
    simp only [Act.put, List.setIfInBounds_toArray, List.set_cons_zero, List.set_cons_succ, List.nil_append, List.cons_append, Nat.reduceAdd, Nat.zero_add]
    refine Reg.SeqE.nil (fun δ W6 hW6 hF hT6 => ?_)
    obtain ⟨B2, d2, hb6, hl6⟩ := hT6
    generalize δ 2 = u50
    generalize δ 4 = u52
    generalize δ 5 = u47
    generalize δ 6 = u53
    generalize δ 7 = u54
    have b8 := keep_blk hW6 HB8.out (by have := HZ.out; omega)
    clear hF c4 f4 z4 c6 f6 z6 c10 f10 z10
    obtain ⟨c10, f10, z10⟩ := hb6.facts
    obtain ⟨c8, f8, z8⟩ := b8.facts
    have HW6 := Lib.hid hW6
    have HL6 := Lib.hid hl6
    have HB86 := Lib.hid b8
    clear hb6 b8 hW6 hl6
    gi_wp2_with fail
    have hz := HZ.out
    have hu := (((Reg.Upd.refl HB86.out).set 0 (.int .i64 i)).set 1 (.slice A 18 c)).set 2 (.slice B2 h d2)
    have hn8 : Reg.Blk (g + 1 + 1) #[.int .i64 i, .slice A 18 c, .slice B2 h d2] 29 _ := hu.at_
    have hdf := (hu.far D (by have := HDf.out.1; omega)).trans ((HW6.out.block D (Array.getElem?_eq_some_iff.1 HDf.out.2).1 (by have := HDf.out.1; omega)).trans HDf.out.2)
    have kU := Reg.updK (M := fun q => q = g + 1 + 1) (g := g + 1 + 1) rfl _ _ _ _ (keep_refl _ _) hu
    have o6 := own_keepM HO.out HW6.out (by intro q e; omega)
    have o7 := own_keepM o6 kU (by intro q e; omega)
    have l7 := HL6.out.lst.keep kU (fun b off e => by have := HL6.out.hi b off e; omega)
    have kA : Reg.Keep (fun k => w.heap.size ≤ k) w W := keep_of HBW.out
    have hgz := HG0.out
    have kB := keep_weak (M' := fun k => w.heap.size ≤ k) HW6.out fun k e => by omega
    have kC := keep_weak (M' := fun k => w.heap.size ≤ k) kU fun k e => by omega
    have kK := keepK (keepK kA kB) kC
    generalize ((W6.setCell _ _).setCell _ _).setCell _ _ = Wn at *
    have kD : Reg.Keep (fun k => w.heap.size ≤ k) w (Wn.putObj D (.deferred none)) := keepK kK ⟨rfl, rfl, rfl, by simp, fun j hj hm => World.putObj_heap_other (fun e => hm (by have := HDf.out.1; omega))⟩
    have hn9 : Reg.Blk (g + 1 + 1) _ _ (Wn.putObj D (.deferred none)) := (World.putObj_heap_other (fun e => by have := HDf.out.1; omega)).trans hn8
    obtain ⟨c9, f9, z9⟩ := hn9.facts
    refine ⟨by simp, .inl ⟨_, _, rfl, run_takeDeferred hdf, ?_⟩⟩
    refine ⟨.tuple #[.agg #[.int .i64 i, .slice A 18 c, .slice B2 h d2], .int .i64 0], ?_, ?_⟩
    · simp [results, Tryz.results11, go_sem, c9]
    · exact ⟨⟨A, c, B2, d2, rfl, by rw [HSe.out]; exact lst_put (o7.lst' HSg.out) hdf, by rw [HPe.out]; exact lst_put l7 hdf⟩, kD.below fun k hk => by omega⟩
  case stop => exact fun _ _ _ _ _ _ h _ => h.elim

end S
end Go.Proofs.YthdjdlndfkemiaaGreatDoor
