/- Trees: the reference's 'Half', 'node', 'Empty', 'root', 'up'. -/
import Derived.Test.YthdjdlndfkemiaaGreatDoorTm
import Derived.Test.YthdjdlndfkemiaaGreatDoorSs
set_option linter.unusedSimpArgs false
set_option linter.unusedVariables false
set_option maxRecDepth 100000
namespace Go.Proofs.YthdjdlndfkemiaaGreatDoor
open Go.RowKit
namespace S

theorem rhalf_any (n : Nat) (w : World) (h2 : 2 ≤ n) (hn : n ≤ 1000000) : Calls Tryz.prog 98 #[.int .i64 n] w fun e w' => e = .returned (.int .i64 (hf n : Nat)) ∧ w' = w := by
  go_enter Tryz.func98, Tryz.ntmps98
  go_wp2_with fail
  go_loop [3] (fun x => ∃ k f : Nat, x = .int .i64 k ∧ 0 < k ∧ k < n ∧ n ≤ f + k ∧ hfF f k n = hf n) (fun x => n - (intOf x).toNat)
  case atStart => exact ⟨1, n, rfl, by omega, by omega, by omega, rfl⟩
  case round =>
    obtain ⟨k, f, rfl, hk0, hkn, hf1, hf2⟩ := hrel
    have HF := Lib.hid hf2
    have HK := Lib.hid (And.intro hkn hf1)
    clear hf2
    obtain ⟨m, hm⟩ : ∃ m, m = 2 * k := ⟨_, rfl⟩
    have hsh : IntKind.i64.wrap (2 * (k : Int)) = (m : Int) := by rw [IntWalk.i64_left, IntWalk.wrap64_in _ (by omega)]; omega
    have HM := Lib.hid hm
    clear hf1
    by_cases hlt : m < n
    · have hlt' : (m : Int) < (n : Int) := by omega
      clear hm hkn
      go_wp2_with fail
      obtain ⟨hkn, hf1⟩ := HK.out
      have hm := HM.out
      match f, hf1, HF.out with
      | 0, hf1, _ => omega
      | f + 1, hf1, hf2 =>
        refine ⟨⟨m, f, rfl, by omega, hlt, by omega, ?_⟩, by simp [intOf]; omega⟩
        rw [← hf2, hfF, if_pos (by omega), hm]
    · have hlt' : ¬ (m : Int) < (n : Int) := by omega
      clear hm hkn
      go_wp2_with fail
      go_ret
      refine ⟨?_, rfl⟩
      rw [← HF.out]
      have hm := HM.out
      match f with
      | 0 => rfl
      | f + 1 => rw [hfF, if_neg (by omega)]; rfl

def Sh (t : Tx) : Prop := t.length ≤ 100
theorem Sh.sm {t : Tx} (h : Sh t) : Sm t := by unfold Sh at h; unfold Sm; omega
theorem isD_sh {t : Tx} (h : isD t = true) : Sh t := by unfold isD at h; simp at h; unfold Sh; omega
theorem node_sh (a b : Tx) : Sh (node a b) := by unfold Sh; rw [node_len]; omega
theorem emp_sh : Sh empT := by unfold Sh empT listL; rw [sumL_len]; omega
theorem root_sh (l : List Tx) (h : ∀ t ∈ l, Sh t) : Sh (rootT l) := by
  by_cases h2 : 2 ≤ l.length
  · rw [root_step h2]; exact node_sh _ _
  · match l, h2, h with
    | [], _, _ => rw [root_nil]; exact emp_sh
    | [x], _, h => rw [root_one]; exact h x List.mem_cons_self
    | _ :: _ :: _, h2, _ => simp at h2
theorem sh_take {l : List Tx} (h : ∀ t ∈ l, Sh t) (k : Nat) : ∀ t ∈ l.take k, Sh t := fun t ht => h t (List.mem_of_mem_take ht)
theorem sh_drop {l : List Tx} (h : ∀ t ∈ l, Sh t) (k : Nat) : ∀ t ∈ l.drop k, Sh t := fun t ht => h t (List.mem_of_mem_drop ht)

theorem rlist_lit (l : List Tx) (w : World) (hf : fewB l 200 = true) : Calls Tryz.prog 50 #[.slice (some ⟨w.heap.size, 0, none⟩) l.length l.length] (w.alloc (.cells (l.map fun t => Value.string (str t)).toArray 9)) fun e w' => e = .returned (.string (str (listL l))) ∧ Below w.heap.size w w' := by
  have hb : Below w.heap.size w (w.alloc (.cells (l.map fun t => Value.string (str t)).toArray 9)) := (Below.refl _ _).alloc (Nat.le_refl _) _
  refine (rlist_any (some ⟨w.heap.size, 0, none⟩) l.length l _ (strs_lit l (Reg.heap_new w _)) hf).mono ?_
  rintro e w' ⟨rfl, hb2⟩
  exact ⟨rfl, hb.trans (hb2.mono hb.size)⟩
theorem joined_lit (l : List Tx) (w : World) (hf : fewB l 200 = true) : Calls Tryz.prog 36 #[.slice (some ⟨w.heap.size, 0, none⟩) l.length l.length] (w.alloc (.cells (l.map fun t => Value.string (str t)).toArray 9)) fun e w' => e = .returned (.string (str (joinT l))) ∧ Below w.heap.size w w' := by
  have hb : Below w.heap.size w (w.alloc (.cells (l.map fun t => Value.string (str t)).toArray 9)) := (Below.refl _ _).alloc (Nat.le_refl _) _
  refine (joined_any (some ⟨w.heap.size, 0, none⟩) l.length l _ (strs_lit l (Reg.heap_new w _)) hf).mono ?_
  rintro e w' ⟨rfl, hb2⟩
  exact ⟨rfl, hb.trans (hb2.mono hb.size)⟩
theorem few_node {a b : Tx} (ha : Sh a) (hb : Sh b) : fewB [nodeT, a, b] 200 = true := by
  unfold Sh at ha hb
  unfold fewB
  simp [nodeT]; omega
theorem rnode_any (a b : Tx) (w : World) (ha : Sh a) (hb : Sh b) : Calls Tryz.prog 99 #[.string (str a), .string (str b)] w fun e w' => e = .returned (.string (str (node a b))) ∧ Below w.heap.size w w' := by
  have HQ : Hid (Calls Tryz.prog 50 #[.slice (some ⟨w.heap.size, 0, none⟩) 3 3] (w.alloc (.cells #[.string { data := #[110, 111, 100, 101] }, .string (str a), .string (str b)] 9)) fun e w' => e = .returned (.string (str (listL [nodeT, a, b]))) ∧ Below w.heap.size w w') := Lib.hid (rlist_lit [nodeT, a, b] w (few_node ha hb))
  go_enter Tryz.func99, Tryz.ntmps99
  go_wp2_with fail
  (with_reducible refine HQ.out.mono ?_); rintro e w1 ⟨rfl, hb1⟩
  have HB := Lib.hid hb1
  clear hb1
  go_wp2_with fail
  go_ret
  exact ⟨rfl, HB.out⟩
theorem rempty_any (w : World) : Calls Tryz.prog 97 #[] w fun e w' => e = .returned (.string (str empT)) ∧ Below w.heap.size w w' := by
  have HQ : Hid (Calls Tryz.prog 50 #[.slice (some ⟨w.heap.size, 0, none⟩) 1 1] (w.alloc (.cells #[.string { data := #[101, 109, 112, 116, 121] }] 9)) fun e w' => e = .returned (.string (str (listL [emptyT]))) ∧ Below w.heap.size w w') := Lib.hid (rlist_lit [emptyT] w (by decide))
  go_enter Tryz.func97, Tryz.ntmps97
  go_wp2_with fail
  (with_reducible refine HQ.out.mono ?_); rintro e w1 ⟨rfl, hb1⟩
  have HB := Lib.hid hb1
  clear hb1
  go_wp2_with fail
  go_ret
  exact ⟨rfl, HB.out⟩

theorem rroot_any : ∀ (n : Nat) (l : List Tx) (A : Option Addr) (c : Nat) (w : World), l.length = n → n ≤ 1000000 → StrsAt w A l → n ≤ c → c ≤ 9223372036854775807 → (A = none → c = 0) → (∀ t ∈ l, Sh t) →
    Calls Tryz.prog 71 #[.slice A n c] w fun e w' => e = .returned (.string (str (rootT l))) ∧ Below w.heap.size w w' := by
  intro n
  induction n using Nat.strongRecOn with
  | ind n ih =>
  intro l A c w hln hn hl hcap hc2 hA hs
  have HL := Lib.hid hl
  have HS := Lib.hid hs
  have HN := Lib.hid hln
  have IH := Lib.hid ih
  have HC := Lib.hid (And.intro hcap hA)
  clear hs ih
  by_cases h0 : n = 0
  · subst h0
    obtain rfl := List.eq_nil_of_length_eq_zero hln
    have HE := Lib.hid (rempty_any w)
    clear hl HL HN hln IH HS HC
    go_enter Tryz.func71, Tryz.ntmps71
    go_wp2_with fail
    (with_reducible refine HE.out.mono ?_); rintro e w1 ⟨rfl, hb1⟩
    go_wp2_with fail
    go_ret
    exact ⟨by rw [root_nil]; rfl, hb1⟩
  by_cases he : n = 1
  · subst he
    obtain ⟨t, rfl⟩ : ∃ t, l = [t] := by
      match l, hln with
      | [t], _ => exact ⟨t, rfl⟩
    obtain ⟨b, off, rfl, zb, hc0⟩ := hl 0 (by simp)
    simp only [List.getElem_cons_zero, Nat.add_zero] at hc0
    clear hl HL HN hln IH HS HC
    go_enter Tryz.func71, Tryz.ntmps71
    go_wp2_with fail
    go_ret
    refine ⟨?_, Below.refl _ _⟩
    rw [root_one]; rfl
  · have h2 : 2 ≤ n := by omega
    obtain ⟨q1, q2, q3, _⟩ := hf_spec h2
    have HH := Lib.hid (rhalf_any n w h2 hn)
    obtain ⟨k, hk⟩ : ∃ k, k = hf n := ⟨_, rfl⟩
    obtain ⟨A1, a1, E1, s1⟩ := strs_to (l := l) (A := A) (c := c) (k := k) hA (by omega) (by omega)
    obtain ⟨A2, a2, E2, s2⟩ := strs_from (l := l) (A := A) (c := c) (k := k) hA (by omega) (by omega)
    rw [hln] at E1 E2
    have HA := Lib.hid (And.intro a1 a2)
    have S1 := Lib.hid (s1 _ hl)
    have S2 := Lib.hid (s2 _ hl)
    rw [← hk] at HH
    have HK := Lib.hid (And.intro hk (And.intro q1 q2))
    rw [← hk] at q1 q2 q3
    have hn0 : ((n : Int) == 0) = false := by simp; omega
    have hn1 : ((n : Int) == 1) = false := by simp; omega
    clear hk s1 s2 a1 a2 hl hln he
    have C1 := Lib.hid (fun (W : World) (hb : Below w.heap.size w W) => IH.out k (by omega) (l.take k) A1 c W (by rw [List.length_take, HN.out]; omega) (by omega) (S1.out.below hb) (by omega) hc2 HA.out.1 (sh_take HS.out k))
    have C2 := Lib.hid (fun (W : World) (hb : Below w.heap.size w W) => IH.out (n - k) (by omega) (l.drop k) A2 (c - k) W (by rw [List.length_drop, HN.out]) (by omega) (S2.out.below hb) (by omega) (by omega) HA.out.2 (sh_drop HS.out k))
    have CN := Lib.hid (fun (W : World) (hb : Below w.heap.size w W) => rnode_any (rootT (l.take k)) (rootT (l.drop k)) W (root_sh _ (sh_take HS.out k)) (root_sh _ (sh_drop HS.out k)))
    go_enter Tryz.func71, Tryz.ntmps71
    go_wp2_with fail
    (with_reducible refine HH.out.mono ?_); rintro e w' ⟨rfl, rfl⟩
    go_wp2_with fail
    refine Reg.wp_region_seq (by kernel_rfl) (by kernel_rfl) ?_
    simp only
    iterate 10
      apply Reg.SeqOK.val
      · intro γ W hW K hK
        obtain ⟨hc, hf, _⟩ := bcell hW
        simp only [Act.put, List.setIfInBounds_toArray, List.set_cons_zero, List.set_cons_succ] at hK
        unfold Reg.Does
        go_simp
        try simp only [IntWalk.i64_left]
        first
          | exact hK _ (Below.refl _ _)
          | (go_at_call 71; (with_reducible refine (C1.out _ hW).mono ?_); rintro e w' ⟨rfl, hb⟩; exact hK _ hb)
          | (go_at_call 71; (with_reducible refine (C2.out _ hW).mono ?_); rintro e w' ⟨rfl, hb⟩; exact hK _ hb)
          | (go_at_call 99; (with_reducible refine (CN.out _ hW).mono ?_); rintro e w' ⟨rfl, hb⟩; exact hK _ hb)
          | (trace_state; fail)
      simp only [Act.put, List.setIfInBounds_toArray, List.set_cons_zero, List.set_cons_succ, List.nil_append, List.cons_append, Nat.reduceAdd, Nat.zero_add]
    refine Reg.SeqOK.nil (by kernel_rfl) (fun γ W hW _ _ _ => ?_)
    have HW := Lib.hid hW
    clear hW
    go_wp2_with fail
    go_ret
    have hq := HK.out.1
    refine ⟨?_, HW.out⟩
    rw [root_step (l := l) (by rw [HN.out]; exact h2), HN.out, ← hq]; rfl

end S
end Go.Proofs.YthdjdlndfkemiaaGreatDoor

/- Trees: the reference's 'up', 'both'. -/
namespace Go.Proofs.YthdjdlndfkemiaaGreatDoor
open Go.RowKit
namespace S

theorem up_sh (n i : Nat) (d : Tx) (q : List Tx) (hd : Sh d) : Sh (upT n i d q) := by
  by_cases h2 : 2 ≤ n
  · by_cases hk : i < hf n
    · rw [up_left _ _ h2 hk]; exact node_sh _ _
    · rw [up_right _ _ h2 hk]; exact node_sh _ _
  · rw [up_one _ _ _ (by omega)]; exact hd
theorem both_sh : ∀ n m whole old (q : List Tx), Sh old → (∀ t ∈ q, Sh t) → Sh (bothT n m whole old q).1 ∧ Sh (bothT n m whole old q).2 := by
  intro n
  induction n using Nat.strongRecOn with
  | ind n ih =>
    intro m whole old q so sq
    have st : ∀ t ∈ q.tail, Sh t := fun t ht => sq t (List.mem_of_mem_tail ht)
    by_cases hlt : m < n
    · by_cases h2 : 2 ≤ n
      · obtain ⟨k0, k1, k2, _⟩ := hf_spec h2
        by_cases hk : m ≤ hf n
        · rw [both_left _ _ _ hlt h2 hk]; exact ⟨(ih (hf n) k1 m whole old q.tail so st).1, node_sh _ _⟩
        · rw [both_right _ _ _ hlt h2 hk]; exact ⟨node_sh _ _, node_sh _ _⟩
      · rw [bothT, if_neg (by omega), if_pos (by omega)]; exact ⟨by simp [Sh], by simp [Sh]⟩
    · rw [both_end _ _ _ (by omega)]
      have sh : Sh (q.headD []) := by
        cases q with
        | nil => simp [Sh]
        | cons x q => exact sq x List.mem_cons_self
      cases whole with
      | true => exact ⟨so, so⟩
      | false => exact ⟨sh, sh⟩
/-- A list that is not empty: its last element, the others, and where they lie. -/
theorem last_of {p : List Tx} {n : Nat} (h : p.length = n + 1) : ∃ r x, p = r ++ [x] ∧ r.length = n := by
  rcases List.eq_nil_or_concat p with e | ⟨r, x, e⟩
  · rw [e] at h; simp at h
  · refine ⟨r, x, by rw [e, List.concat_eq_append], ?_⟩
    rw [e] at h; simpa using h
theorem last_at {w : World} {A : Option Addr} {r : List Tx} {x : Tx} (h : StrsAt w A (r ++ [x])) : ∃ b off, A = some ⟨b, off, none⟩ ∧ b < w.heap.size ∧ w.cell? ⟨b, off + r.length, none⟩ = some (.string (str x)) := by
  obtain ⟨b, off, e1, hlt, hc⟩ := h r.length (by simp)
  refine ⟨b, off, e1, hlt, ?_⟩
  rw [hc]; simp
theorem sub1 {n : Nat} (hn : n ≤ 1000000) : IntKind.i64.wrap (((n + 1 : Nat) : Int) - 1) = (n : Int) := by
  rw [IntWalk.i64_left, IntWalk.wrap64_in _ (by omega)]; omega
theorem sub2 {n k : Nat} (hn : n ≤ 1000000) (hk : k ≤ n) : IntKind.i64.wrap ((n : Int) - (k : Int)) = ((n - k : Nat) : Int) := by
  rw [IntWalk.i64_left, IntWalk.wrap64_in _ (by omega)]; omega
theorem init_to {b off : Nat} {c n : Nat} {r : List Tx} {x : Tx} (hr : r.length = n) (hc : n + 1 ≤ c) :
    ∃ A', (A' = none → c = 0) ∧ (∀ w, (Instr.slice 27 (.slice (some ⟨b, off, none⟩) (n + 1) c) none (some (.int .i64 (n : Int))) none).run Tryz.prog w = .ok (.slice A' n c) w) ∧ ∀ w, StrsAt w (some ⟨b, off, none⟩) (r ++ [x]) → StrsAt w A' r := by
  obtain ⟨A', h1, h2, h3⟩ := strs_to (l := r ++ [x]) (A := some ⟨b, off, none⟩) (c := c) (k := n) (fun e => by cases e) (by simp; omega) (by simp; omega)
  have e1 : (r ++ [x]).length = n + 1 := by simp [hr]
  rw [e1] at h2
  refine ⟨A', h1, h2, fun w hs => ?_⟩
  have := h3 w hs
  rwa [List.take_append_of_le_length (by omega), List.take_of_length_le (by omega)] at this

theorem rup_any (d : Tx) (hd : Sh d) : ∀ (n i : Nat) (p : List Tx) (A : Option Addr) (c m : Nat) (w : World), i < n → n ≤ 1000000 → p.length = m → m = lenT n i → m ≤ 1000 → StrsAt w A p → m ≤ c → c ≤ 9223372036854775807 → (∀ t ∈ p, Sh t) →
    Calls Tryz.prog 76 #[.int .i64 n, .int .i64 i, .string (str d), .slice A m c] w fun e w' => e = .returned (.string (str (upT n i d p.reverse))) ∧ Below w.heap.size w w' := by
  intro n
  induction n using Nat.strongRecOn with
  | ind n ih =>
  intro i p A c m w hi hn hpl hml hm1 hl hcap hc2 hs
  have IH := Lib.hid ih
  have HL := Lib.hid (And.intro hl hs)
  clear ih hs
  by_cases h1 : n = 1
  · subst h1
    have HU := Lib.hid (up_one i d p.reverse (Nat.le_refl 1))
    clear hl HL hpl hml
    go_enter Tryz.func76, Tryz.ntmps76
    go_wp2_with fail
    go_ret
    exact ⟨by rw [HU.out]; rfl, Below.refl _ _⟩
  have h2 : 2 ≤ n := by omega
  obtain ⟨q1, q2, q3, _⟩ := hf_spec h2
  have HH := Lib.hid (rhalf_any n w h2 hn)
  obtain ⟨k, hk⟩ : ∃ k, k = hf n := ⟨_, rfl⟩
  rw [← hk] at HH q1 q2 q3
  have HK := Lib.hid hk
  have hn1 : ((n : Int) == 1) = false := by simp; omega
  have hpos : ∃ j, m = j + 1 ∧ j = if i < k then lenT k i else lenT (n - k) (i - k) := by
    rw [hk]
    by_cases h : i < hf n
    · rw [if_pos h]; exact ⟨_, by rw [hml, len_left h2 h, Nat.add_comm], rfl⟩
    · rw [if_neg h]; exact ⟨_, by rw [hml, len_right h2 h, Nat.add_comm], rfl⟩
  clear hk hml
  obtain ⟨j, rfl, hj⟩ := hpos
  obtain ⟨r, x, rfl, hr⟩ := last_of hpl
  obtain ⟨b, off, rfl, zb, cx⟩ := last_at hl
  rw [hr] at cx
  obtain ⟨A1, a1, E1, s1⟩ := init_to (b := b) (off := off) (x := x) hr hcap
  have S1 := Lib.hid (s1 _ HL.out.1)
  have HS1 : Hid (∀ t ∈ r, Sh t) := fun t ht => HL.out.2 t (List.mem_append_left _ ht)
  have HSX : Hid (Sh x) := HL.out.2 x (by simp)
  have hj6 : (j : Int) < (j : Int) + 1 := by omega
  have hsub := sub1 (n := j) (by omega)
  have hw64 : IntKind.i64.wrap (j : Int) = (j : Int) := by rw [IntWalk.i64_left]; exact IntWalk.wrap64_in _ (by omega)
  have hj0 : (0 : Int) ≤ (j : Int) := by omega
  have hrv : Hid ((r ++ [x]).reverse = x :: r.reverse) := by unfold Hid; simp
  clear hl s1 hpl h1
  by_cases hik : i < k
  · have hik' : (i : Int) < (k : Int) := by omega
    rw [if_pos hik] at hj
    have HR := Lib.hid (fun (W : World) (hb : Below w.heap.size w W) => IH.out k q2 i r A1 c j W hik (by omega) hr hj (by omega) (S1.out.below hb) (by omega) hc2 HS1.out)
    have HN := Lib.hid (fun W => rnode_any (upT k i d r.reverse) x W (up_sh _ _ _ _ hd) HSX.out)
    clear hj hr
    go_enter Tryz.func76, Tryz.ntmps76
    go_wp2_with fail
    (with_reducible refine HH.out.mono ?_); rintro e w' ⟨rfl, rfl⟩
    go_wp2_with fail
    (with_reducible refine (HR.out _ (Below.refl _ _)).mono ?_); rintro e w2 ⟨rfl, hb2⟩
    have HB2 := Lib.hid hb2
    clear hb2
    go_wp2_with fail
    (with_reducible refine (HN.out w2).mono ?_); rintro e w3 ⟨rfl, hb3⟩
    have HB3 := Lib.hid (HB2.out.trans (hb3.mono HB2.out.size))
    clear hb3
    go_wp2_with fail
    go_ret
    refine ⟨?_, HB3.out⟩
    rw [hrv.out, up_left d _ h2 (by rw [← HK.out]; exact hik), ← HK.out]; rfl
  · have hik' : ¬ (i : Int) < (k : Int) := by omega
    rw [if_neg hik] at hj
    have hs1 := sub2 (n := n) (k := k) hn (by omega)
    have hs2 := sub2 (n := i) (k := k) (by omega) (by omega)
    have HR := Lib.hid (fun (W : World) (hb : Below w.heap.size w W) => IH.out (n - k) (by omega) (i - k) r A1 c j W (by omega) (by omega) hr hj (by omega) (S1.out.below hb) (by omega) hc2 HS1.out)
    have HN := Lib.hid (fun W => rnode_any x (upT (n - k) (i - k) d r.reverse) W HSX.out (up_sh _ _ _ _ hd))
    clear hj hr
    go_enter Tryz.func76, Tryz.ntmps76
    go_wp2_with fail
    (with_reducible refine HH.out.mono ?_); rintro e w' ⟨rfl, rfl⟩
    go_wp2_with fail
    (with_reducible refine (HR.out _ (Below.refl _ _)).mono ?_); rintro e w2 ⟨rfl, hb2⟩
    have HB2 := Lib.hid hb2
    clear hb2
    go_wp2_with fail
    (with_reducible refine (HN.out w2).mono ?_); rintro e w3 ⟨rfl, hb3⟩
    have HB3 := Lib.hid (HB2.out.trans (hb3.mono HB2.out.size))
    clear hb3
    go_wp2_with fail
    go_ret
    refine ⟨?_, HB3.out⟩
    rw [hrv.out, up_right d _ h2 (by rw [← HK.out]; exact hik), ← HK.out]; rfl

end S
end Go.Proofs.YthdjdlndfkemiaaGreatDoor
