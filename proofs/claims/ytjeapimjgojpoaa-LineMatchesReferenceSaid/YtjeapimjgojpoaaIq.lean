/- Lines: 'slices.Clone', 'slices.Reverse' of points; 'Turned'. -/
import Derived.Test.YtjeapimjgojpoaaIk
import Derived.Test.YtjeapimjgojpoaaAx
import Derived.Shelf.SlicesQ.Reverse
import Derived.Lib.OwnBridge
import Derived.Laws.EntriesVeiled
set_option linter.unusedSimpArgs false
set_option linter.unusedVariables false
set_option maxRecDepth 100000
namespace Go.Proofs.Ytjeapimjgojpoaa
open Go.RowKit Go.Shelf Go.Lib Go.Sort
namespace G

def rev_ren : Go.Shelf.Ren := ⟨fun | 35 => 54 | n => n, fun | 22 => 38 | 23 => 24 | 3 => 3 | 4 => 4 | 0 => 0 | n => n, fun | n => n⟩
theorem rev_lays : Go.Proofs.SlLaysE0.n35 Try.prog rev_ren := {
  mixed := by kernel_rfl
  f35 := ⟨Try.f54.name, by decide, Try.func54.trans (congrArg some (by kernel_rfl))⟩
  t0 := Try.underlying0
  a0 := Try.isAgg0
  z0 := Try.sizeOf0
  v0 := Try.zeroValue0
  t3 := Try.underlying3
  a3 := Try.isAgg3
  z3 := Try.sizeOf3
  v3 := Try.zeroValue3
  t4 := Try.underlying4
  a4 := Try.isAgg4
  z4 := Try.sizeOf4
  v4 := Try.zeroValue4
  t22 := Try.underlying38
  a22 := Try.isAgg38
  z22 := Try.sizeOf38
  v22 := Try.zeroValue38 }

/-! Points as cells. -/
def encP (p : P2) : List Value := [.int .i64 p.1, .int .i64 p.2]
def flat : List P2 → List Value
  | [] => []
  | p :: l => encP p ++ flat l
theorem flat_len : ∀ l, (flat l).length = l.length * 2
  | [] => rfl
  | p :: l => by simp only [flat, encP, List.length_append, flat_len l, List.length_cons, List.length_nil]; omega
theorem flat_one : ∀ l, ∀ u ∈ flat l, u.oneCell' = true
  | [], u, h => by simp [flat] at h
  | p :: l, u, h => by
    simp only [flat, List.mem_append] at h
    rcases h with h | h
    · simp [encP] at h; rcases h with rfl | rfl <;> rfl
    · exact flat_one l u h
theorem flat_app (a b : List P2) : flat (a ++ b) = flat a ++ flat b := by
  induction a with
  | nil => rfl
  | cons p l ih => simp only [List.cons_append, flat, ih, List.append_assoc]
theorem flat_at : ∀ (l : List P2) (i : Nat), i < l.length → (flat l)[i * 2]? = some (.int .i64 (pt l i).1) ∧ (flat l)[i * 2 + 1]? = some (.int .i64 (pt l i).2)
  | [], i, h => by simp at h
  | p :: l, 0, _ => ⟨rfl, rfl⟩
  | p :: l, i + 1, h => by
    have ih := flat_at l i (by simpa using h)
    have e1 : (i + 1) * 2 = i * 2 + 2 := by omega
    have e2 : pt (p :: l) (i + 1) = pt l i := by simp [pt]
    rw [e1, e2]
    exact ih
theorem src_line {w : World} {A : Option Addr} {l : List P2} (h : LineAt w A l) : Ap.SrcAt w A 2 l.length (flat l) := ⟨flat_len l, flat_one l, fun j u hu => by
  have hj : j < l.length * 2 := by
    rw [← flat_len]
    rcases Nat.lt_or_ge j (flat l).length with hh | hh
    · exact hh
    · rw [List.getElem?_eq_none hh] at hu; cases hu
  obtain ⟨b, off, e, hlt, c0, c1⟩ := h (j / 2) (by omega)
  obtain ⟨f0, f1⟩ := flat_at l (j / 2) (by omega)
  refine ⟨b, off, e, hlt, ?_⟩
  rcases (by omega : j = j / 2 * 2 ∨ j = j / 2 * 2 + 1) with hj2 | hj2
  · rw [hj2] at hu ⊢
    rw [f0] at hu
    rw [← hu, c0]
  · rw [hj2] at hu ⊢
    rw [f1] at hu
    rw [← hu, ← Nat.add_assoc, c1]⟩
theorem line_src {w : World} {A : Option Addr} {l : List P2} (h : Ap.SrcAt w A 2 l.length (flat l)) : LineAt w A l := fun i hi => by
  obtain ⟨f0, f1⟩ := flat_at l i hi
  obtain ⟨b, off, e, hlt, c0⟩ := h.at_ _ _ f0
  obtain ⟨b', off', e', _, c1⟩ := h.at_ _ _ f1
  rw [e] at e'
  simp only [Option.some.injEq, Addr.mk.injEq, and_true] at e'
  obtain ⟨rfl, rfl⟩ := e'
  exact ⟨b, off, e, hlt, c0, by rw [Nat.add_assoc]; exact c1⟩
/-- A row of points that owns its block. -/
def OwnP (B : Nat) (w : World) (v : Value) (l : List P2) : Prop := w.ownsRow B 24 2 v l.length (flat l)
theorem OwnP.nil (B : Nat) (w : World) : OwnP B w (.slice none 0 0) [] := ⟨rfl, .inl ⟨rfl, rfl⟩⟩
theorem OwnP.below {B : Nat} {w w' : World} {v : Value} {l : List P2} (h : OwnP B w v l) (hb : Below w.heap.size w w') : OwnP B w' v l := Ap.own_below h hb
theorem OwnP.parts {B : Nat} {w : World} {v : Value} {l : List P2} (h : OwnP B w v l) : ∃ A c, v = .slice A l.length c ∧ LineAt w A l ∧ l.length ≤ c ∧ c ≤ 9223372036854775807 ∧ (A = none → c = 0) := by
  have h0 : w.ownsRow B 24 2 v l.length (flat l) := h
  rcases h0.2 with ⟨e, h0⟩ | ⟨g, cap, cur, rfl, h2, hgg, h3, h4, _⟩
  · refine ⟨none, 0, by rw [e, h0], fun i hi => by omega, by omega, by omega, fun _ => rfl⟩
  · unfold maxLen at h4
    exact ⟨_, cap, rfl, line_src (Ap.SrcAt.own h0 (flat_one l)), h3, h4, (fun e => by cases e)⟩
theorem info_pt : (Try.prog.info? 24).map (fun i => (i.zero, i.size, i.bytes)) = some (some (.agg #[.int .i64 0, .int .i64 0]), 2, 16) := by kernel_rfl

attribute [local go_sem ↓ high] Ap.builtin_appA in
theorem pclone_any (l : List P2) (A : Option Addr) (c : Nat) (w : World) (hn : l.length ≤ 1000) (hl : LineAt w A l) (hc : l.length ≤ c) (hA : A = none → c = 0) :
    Calls Try.prog 53 #[.slice A l.length c] w fun e w' => (∃ v, e = .returned v ∧ OwnP w.heap.size w' v l) ∧ Below w.heap.size w w' := by
  have HL := Lib.hid hl
  have HC := Lib.hid (And.intro hc hA)
  obtain ⟨n, hq⟩ : ∃ n, n = l.length := ⟨_, rfl⟩
  have HN := Lib.hid hq
  rw [← hq] at hn ⊢
  clear hl hc hA hq
  cases A with
  | none =>
    have he : ∀ w, (binOp .eql 38 (.slice none n c) (.slice none 0 0)).run Try.prog w = .ok (.bool true) w := fun w => run_eql_nil_slice w _ _ none n c 0 0 Try.underlying38
    go_enter Try.func53, Try.ntmps53
    go_wp2_with fail
    have h0 : l.length = 0 := by have := HC.out.1; have := HC.out.2 trivial; omega
    obtain rfl := List.eq_nil_of_length_eq_zero h0
    refine bodyPost_ret (v := .slice none 0 0) (by simp [results, Try.results53, go_sem]) rfl ⟨⟨_, rfl, OwnP.nil _ _⟩, Below.refl _ _⟩
  | some a =>
    have he : ∀ w, (binOp .eql 38 (.slice (some a) n c) (.slice none 0 0)).run Try.prog w = .ok (.bool false) w := fun w => run_eql_nil_slice w _ _ (some a) n c 0 0 Try.underlying38
    obtain ⟨i0, hi0, hz⟩ := Option.map_eq_some_iff.1 info_pt
    simp only [Prod.mk.injEq] at hz
    obtain ⟨hz0, hz1, hz2⟩ := hz
    have hb1 : Below w.heap.size w (w.alloc (.cells #[] 24)) := (Below.refl _ _).alloc (Nat.le_refl _) _
    have hown : (w.alloc (.cells #[] 24)).ownsRow w.heap.size 24 2 (.slice (some ⟨w.heap.size, 0, none⟩) 0 0) 0 [] := ⟨rfl, .inr ⟨w.heap.size, 0, #[], rfl, Nat.le_refl _, Reg.heap_new _ _, Nat.le_refl _, Nat.zero_le _, rfl, rfl⟩⟩
    obtain ⟨A', c', w', hrun, ho, hgr, _⟩ := Ap.run_appX (c := c) Try.underlying38 hi0 hz0 hz1 hz2 rfl (by omega) (by omega) 38 hown (src_line (HL.out.below hb1)) (fun e => by cases e) (by have := HN.out; omega) (Nat.le_of_lt (by simp))
    rw [Nat.zero_add, ← HN.out] at hrun
    have hrun := Ap.run_of hrun
    have HO := Lib.hid ho
    have HG := Lib.hid hgr
    clear ho hgr
    go_enter Try.func53, Try.ntmps53
    go_wp2_with fail
    go_ret
    have hbw : Below w.heap.size w w' := hb1.grown HG.out (Nat.le_of_lt (by simp)) (fun k e => by simp [Value.ownBlock] at e; omega)
    refine ⟨⟨_, rfl, ?_⟩, hbw⟩
    have h := HO.out
    rw [Nat.zero_add, List.nil_append] at h
    show World.ownsRow _ _ _ _ _ _ _
    rw [HN.out]
    exact h

instance : Inhabited P2 := ⟨(0, 0)⟩
theorem flatK_flat (l : List P2) : (flatK encP 2 l.toArray).toList = flat l := by
  apply List.ext_getElem?
  intro t
  by_cases ht : t < l.length * 2
  · have h1 : t < (flatK encP 2 l.toArray).size := by simp; omega
    rw [Array.getElem?_toList, Array.getElem?_eq_getElem h1]
    have h2 := get_flatK encP 2 l.toArray t (by simpa using ht)
    rw [getElem!_pos _ t h1] at h2
    rw [h2]
    obtain ⟨f0, f1⟩ := flat_at l (t / 2) (by omega)
    have h3 : l.toArray[t / 2]! = pt l (t / 2) := by
      rw [getElem!_pos _ _ (by simp; omega)]
      simp [pt, List.getElem?_eq_getElem (show t / 2 < l.length by omega)]
    rw [h3]
    rcases (by omega : (t = t / 2 * 2 ∧ t % 2 = 0) ∨ (t = t / 2 * 2 + 1 ∧ t % 2 = 1)) with ⟨q1, q2⟩ | ⟨q1, q2⟩
    · rw [q2]
      conv => rhs; rw [q1]
      rw [f0]; rfl
    · rw [q2]
      conv => rhs; rw [q1]
      rw [f1]; rfl
  · rw [List.getElem?_eq_none (by simp; omega), List.getElem?_eq_none (by rw [flat_len]; omega)]
theorem own2_put {w : World} {base : Nat} {e : TypeId} {g n cap q : Nat} {xs : List Value} {F : Array Value} (h : w.ownsRow base e 2 (.slice (some ⟨g, 0, none⟩) n cap) n xs) (hF : F.size = n * 2) :
    (putRow id (Sort.ahead w q) g 0 F).ownsRow base e 2 (.slice (some ⟨g, 0, none⟩) n cap) n F.toList := by
  rcases h.2 with ⟨e0, _⟩ | ⟨g', cap', cur, e0, hb, hg, hn, hm, hs, ht⟩
  · cases e0
  · injection e0 with e1 _ e3
    injection e1 with e1
    injection e1 with e1
    subst e1; subst e3
    refine ⟨by simpa using hF, .inr ⟨g, cap, putCells id 0 F cur, rfl, hb, ?_, hn, hm, by simpa [putCells] using hs, ?_⟩⟩
    · simp [putRow, mapBlock, Sort.ahead, Array.getElem?_modify, hg, onCells]
    · apply List.ext_getElem?
      intro j
      rw [List.getElem?_take, Array.getElem?_toList, Array.getElem?_toList]
      by_cases hj : j < n * 2
      · have hjc : j < cur.size := by omega
        simp only [if_pos hj, putCells, Array.getElem?_mapIdx, Array.getElem?_eq_getElem hjc, Option.map_some]
        rw [if_pos (by omega), Array.getElem?_eq_getElem (by omega)]
        simp [getElem!_pos, show j < F.size by omega]
      · rw [if_neg hj, Array.getElem?_eq_none (by omega)]
theorem prev_any (l : List P2) (v : Value) (B : Nat) (w0 w : World) (h : OwnP B w v l) (hb : Below B w0 w) (hn : l.length ≤ 1000) :
    Calls Try.prog 54 #[v] w fun e w' => e = .returned (.tuple #[]) ∧ OwnP B w' v l.reverse ∧ Below B w0 w' := by
  by_cases hv : v = .slice none 0 0
  · subst hv
    have hl : l = [] := by
      rcases h.2 with ⟨_, h0⟩ | ⟨_, _, _, e, _⟩
      · exact List.eq_nil_of_length_eq_zero h0
      · cases e
    subst hl
    refine (AnyQ.slices_Reverse_empty rev_lays none 0 w).mono ?_
    rintro e w' ⟨rfl, rfl⟩
    exact ⟨rfl, h, hb⟩
  · have h1 : w.ownsRow B 24 2 v l.length (flat l) := h
    rcases h1.2 with ⟨e0, _⟩ | ⟨g, cap, cur, rfl, hbg, hg, hnc, hcm, hs, ht⟩
    · exact absurd e0 hv
    have hH : HoldsK encP 2 w g 0 l.toArray := fun j hj => by
      have hj' : j < l.length * 2 := by simpa using hj
      refine ⟨?_, by simp [World.frozen?, hg]⟩
      have e1 : (cur.toList.take (l.length * 2))[j]? = (flat l)[j]? := by rw [ht]
      rw [List.getElem?_take, if_pos hj', Array.getElem?_toList] at e1
      rw [← flatK_flat, Array.getElem?_toList, Array.getElem?_eq_getElem hj] at e1
      simp only [World.cell?, hg, Nat.zero_add]
      simp only [Option.isSome_none, Bool.false_eq_true, if_false]
      rw [e1, getElem!_pos _ j hj]; rfl
    refine (AnyQ.slices_Reverse rev_lays 2 Try.isAgg24 Try.sizeOf24 encP (fun _ => rfl) (fun x v hv => by simp [encP] at hv; rcases hv with rfl | rfl <;> rfl) g 0 cap l.toArray w hH (by simp; omega)).mono ?_
    rintro e w' ⟨rfl, q, rfl⟩
    have h2 := own2_put (q := q) (F := flatK encP 2 l.reverse.toArray) h1 (by simp)
    rw [flatK_flat] at h2
    refine ⟨rfl, ?_, ?_⟩
    · show World.ownsRow _ _ _ _ _ _ _
      rw [List.length_reverse]
      have e3 : l.toArray.reverse = l.reverse.toArray := by simp
      rw [e3]
      exact h2
    · exact Lib.below_putRow hb hbg

def turnL (l : List P2) : List P2 := if validL l then l.reverse else []
theorem turned_any (l : List P2) (A : Option Addr) (c : Nat) (w : World) (hn : l.length ≤ 1000) (hl : LineAt w A l) (hc : l.length ≤ c) (hA : A = none → c = 0) :
    Calls Try.prog 27 #[.slice A l.length c] w fun e w' => (∃ v, e = .returned v ∧ OwnP w.heap.size w' v (turnL l)) ∧ Below w.heap.size w w' := by
  have HV := Lib.hid (valid_line A c l w hl (by omega))
  have HC := Lib.hid (fun (W : World) (hb : Below w.heap.size w W) => pclone_any l A c W hn (hl.below hb) hc hA)
  have HE : Hid (turnL l = if validL l then l.reverse else []) := rfl
  have hlen : l.length ≤ 9223372036854775807 := by omega
  generalize validL l = q at *
  clear hl hA hc
  cases q with
  | false =>
    go_enter Try.func27, Try.ntmps27
    go_wp2_with fail
    (with_reducible refine HV.out.mono ?_); rintro e w1 ⟨rfl, hb1⟩
    have HB := Lib.hid hb1
    clear hb1
    go_wp2_with fail
    refine bodyPost_ret (v := .slice none 0 0) (by simp [results, Try.results27, go_sem]) rfl ⟨⟨_, rfl, ?_⟩, HB.out⟩
    rw [HE.out]; exact OwnP.nil _ _
  | true =>
    go_enter Try.func27, Try.ntmps27
    go_wp2_with fail
    (with_reducible refine HV.out.mono ?_); rintro e w1 ⟨rfl, hb1⟩
    have HB := Lib.hid hb1
    clear hb1
    go_wp2_with fail
    (with_reducible refine (HC.out _ HB.out).mono ?_); rintro e w2 ⟨⟨v, rfl, ho⟩, hb2⟩
    have HR := Lib.hid (prev_any l v w1.heap.size w1 w2 ho hb2 hn)
    clear hb2 ho
    go_wp2_with fail
    (with_reducible refine HR.out.mono ?_); rintro e w3 ⟨rfl, ho3, hb3⟩
    have HO : Hid (OwnP w.heap.size w3 v l.reverse) := Ap.own_base ho3 HB.out.size
    have HB3 := Lib.hid (HB.out.trans (hb3.mono HB.out.size))
    clear ho3 hb3
    go_wp2_with fail
    refine bodyPost_ret (v := v) (by simp [results, Try.results27, go_sem]) rfl ⟨⟨_, rfl, ?_⟩, HB3.out⟩
    rw [HE.out]; exact HO.out

end G
end Go.Proofs.Ytjeapimjgojpoaa
