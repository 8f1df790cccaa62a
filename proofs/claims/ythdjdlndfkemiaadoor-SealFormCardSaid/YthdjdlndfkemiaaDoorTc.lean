/- Trees: 'half', 'node', 'Leaf', 'total'. -/
import Derived.Test.YthdjdlndfkemiaaDoorTa
import Derived.Test.YthdjdlndfkemiaaDoorSg
import Derived.Test.YthdjdlndfkemiaaDoorSo
import Derived.Laws.EntriesVeiled
import Derived.Test.YthdjdlndfkemiaaDoorAp
import Derived.Test.YthdjdlndfkemiaaDoorSe
set_option linter.unusedSimpArgs false
set_option linter.unusedVariables false
set_option maxRecDepth 100000
namespace Go.Proofs.YthdjdlndfkemiaaDoor
open Go.RowKit
namespace S

theorem half_any (n : Nat) (w : World) (h2 : 2 ≤ n) (hn : n ≤ 1000000) : Calls Tryd.prog 34 #[.int .i64 n] w fun e w' => e = .returned (.int .i64 (hf n : Nat)) ∧ w' = w := by
  go_enter Tryd.func34, Tryd.ntmps34
  go_wp2_with fail
  go_loop [3] (fun x => ∃ k f : Nat, x = .int .i64 k ∧ 0 < k ∧ k < n ∧ n ≤ f + k ∧ hfF f k n = hf n) (fun x => n - (intOf x).toNat)
  case atStart => exact ⟨1, n, rfl, by omega, by omega, by omega, rfl⟩
  case round =>
    obtain ⟨k, f, rfl, hk0, hkn, hf1, hf2⟩ := hrel
    have HF := Lib.hid hf2
    have HK := Lib.hid (And.intro hkn hf1)
    clear hf2
    have hkn' : (k : Int) < 1000000 := by omega
    have hk0' : (0 : Int) < (k : Int) := by omega
    clear hf1
    obtain ⟨m, hm⟩ : ∃ m, m = 2 * k := ⟨_, rfl⟩
    have hsh : Op.shift .shl .i64 (k : Int) .u64 1 = pure (.int .i64 (m : Int)) := by
      rw [shift_shl_i64 (x := (k : Int)) (y := 1) (yk := .u64) (by omega) (by omega)]
      have : IntKind.i64.wrap ((k : Int) * 2 ^ (1 : Int).toNat) = (m : Int) := by
        rw [show (2 : Int) ^ (1 : Int).toNat = 2 by decide, show (k : Int) * 2 = (m : Int) by omega]
        simp only [IntKind.wrap, IntKind.signed, IntKind.bits]
        simp
        omega
      rw [this]
    have HM := Lib.hid hm
    clear hm hkn' hk0' hkn
    by_cases hlt : m < n
    · have hlt' : (m : Int) < (n : Int) := by omega
      go_wp2_with fail
      obtain ⟨hkn, hf1⟩ := HK.out
      have hm := HM.out
      match f, hf1, HF.out with
      | 0, hf1, _ => omega
      | f + 1, hf1, hf2 =>
        refine ⟨⟨m, f, rfl, by omega, hlt, by omega, ?_⟩, by simp [intOf]; omega⟩
        rw [← hf2, hfF, if_pos (by omega), hm]
    · have hlt' : ¬ (m : Int) < (n : Int) := by omega
      go_wp2_with fail
      go_ret
      refine ⟨?_, rfl⟩
      rw [← HF.out]
      have hm := HM.out
      match f with
      | 0 => rfl
      | f + 1 => rw [hfF, if_neg (by omega)]; rfl

/-- A literal list of strings in a new block. -/
theorem strs_lit {g : Nat} {T : TypeId} {w : World} (l : List Tx) (h : Reg.Blk g (l.map fun t => Value.string (str t)).toArray T w) : StrsAt w (some ⟨g, 0, none⟩) l := fun i hi => by
  obtain ⟨c, _, z⟩ := h.facts
  refine ⟨g, 0, rfl, z, ?_⟩
  rw [c]
  simp [hi]
theorem list_lit (l : List Tx) (w : World) (ht : Tabs w) (hn : l.length ≤ 1000) (h1 : ∀ t ∈ l, t.length ≤ 1000000) : Calls Tryd.prog 38 #[.slice (some ⟨w.heap.size, 0, none⟩) l.length l.length] (w.alloc (.cells (l.map fun t => Value.string (str t)).toArray 9)) fun e w' => e = .returned (.string (str (listL l))) ∧ Below w.heap.size w w' := by
  have hb : Below w.heap.size w (w.alloc (.cells (l.map fun t => Value.string (str t)).toArray 9)) := (Below.refl _ _).alloc (Nat.le_refl _) _
  have hj : ∀ l : List Tx, (∀ t ∈ l, t.length ≤ 1000000) → (joinT l).length ≤ 1000021 * l.length := by
    intro l
    induction l with
    | nil => intro _; simp [joinT]
    | cons t l ih =>
      intro h
      have q1 := ih fun t ht => h t (List.mem_cons_of_mem _ ht)
      have q2 := h t List.mem_cons_self
      have q3 := dec_le t.length
      simp only [joinT, List.length_append, List.length_cons, List.length_nil]; omega
  have h := list_any (some ⟨w.heap.size, 0, none⟩) l.length l (w.alloc (.cells (l.map fun t => Value.string (str t)).toArray 9)) (strs_lit l (Reg.heap_new w _)) (by omega) h1 (by have := hj l h1; omega) (ht.below hb)
  refine h.mono ?_
  rintro e w' ⟨rfl, hb2⟩
  exact ⟨rfl, hb.trans (hb2.mono hb.size)⟩
theorem str_node : ({ data := #[110, 111, 100, 101] } : ByteArray) = str nodeT := rfl
theorem str_leaf : ({ data := #[108, 101, 97, 102] } : ByteArray) = str leafT := rfl
theorem str_empty : ({ data := #[101, 109, 112, 116, 121] } : ByteArray) = str emptyT := rfl
theorem node_any (a b : Tx) (w : World) (ht : Tabs w) (ha : Sm a) (hb : Sm b) : Calls Tryd.prog 36 #[.string (str a), .string (str b)] w fun e w' => e = .returned (.string (str (node a b))) ∧ Below w.heap.size w w' := by
  unfold Sm at ha hb
  have HQ : Hid (Calls Tryd.prog 38 #[.slice (some ⟨w.heap.size, 0, none⟩) 3 3] (w.alloc (.cells #[.string { data := #[110, 111, 100, 101] }, .string (str a), .string (str b)] 9)) fun e w' => e = .returned (.string (str (listL [nodeT, a, b]))) ∧ Below w.heap.size w w') := Lib.hid (list_lit [nodeT, a, b] w ht (by simp) (by simp [nodeT]; omega))
  go_enter Tryd.func36, Tryd.ntmps36
  go_wp2_with fail
  (with_reducible refine HQ.out.mono ?_); rintro e w1 ⟨rfl, hb1⟩
  have HB := Lib.hid hb1
  clear hb1
  go_wp2_with fail
  go_ret
  exact ⟨rfl, HB.out⟩
theorem leaf_any (s : Tx) (w : World) (ht : Tabs w) (hs : s.length ≤ 1000000) : Calls Tryd.prog 20 #[.string (str s)] w fun e w' => e = .returned (.string (str (leaf s))) ∧ Below w.heap.size w w' := by
  have HQ : Hid (Calls Tryd.prog 38 #[.slice (some ⟨w.heap.size, 0, none⟩) 2 2] (w.alloc (.cells #[.string { data := #[108, 101, 97, 102] }, .string (str s)] 9)) fun e w' => e = .returned (.string (str (listL [leafT, s]))) ∧ Below w.heap.size w w') := Lib.hid (list_lit [leafT, s] w ht (by simp) (by simp [leafT]; omega))
  go_enter Tryd.func20, Tryd.ntmps20
  go_wp2_with fail
  (with_reducible refine HQ.out.mono ?_); rintro e w1 ⟨rfl, hb1⟩
  have HB := Lib.hid hb1
  clear hb1
  go_wp2_with fail
  go_ret
  exact ⟨rfl, HB.out⟩

end S
end Go.Proofs.YthdjdlndfkemiaaDoor

/- Trees: 'total'. -/
namespace Go.Proofs.YthdjdlndfkemiaaDoor
open Go.RowKit
namespace S

def sv (l : List Tx) : List Value := l.map fun t => .string (str t)
theorem src_of {w : World} {A : Option Addr} {l : List Tx} (h : StrsAt w A l) : Ap.SrcAt w A 1 l.length (sv l) := ⟨by simp [sv], fun u hu => by
  obtain ⟨t, _, rfl⟩ := List.mem_map.1 hu; rfl, fun j u hu => by
  unfold sv at hu
  rw [List.getElem?_map] at hu
  cases hj : l[j]? with
  | none => rw [hj] at hu; cases hu
  | some t =>
    rw [hj] at hu
    obtain ⟨hjl, hje⟩ := List.getElem?_eq_some_iff.1 hj
    obtain ⟨b, off, e1, hlt, hc⟩ := h j hjl
    refine ⟨b, off, e1, hlt, ?_⟩
    rw [hc, hje]
    exact hu⟩
theorem of_src {w : World} {A : Option Addr} {l : List Tx} {n : Nat} (h : Ap.SrcAt w A 1 n (sv l)) : StrsAt w A l := fun i hi => by
  obtain ⟨b, off, e1, hlt, hc⟩ := h.at_ i (.string (str l[i])) (by unfold sv; rw [List.getElem?_map, List.getElem?_eq_getElem hi]; rfl)
  exact ⟨b, off, e1, hlt, hc⟩
theorem strs_elem : Tryd.prog.underlying 22 = some (.slice (Tryd.prog.elem 22)) := by kernel_rfl
theorem strs_size : ∀ w, (sizeOf (Tryd.prog.elem 22)).run Tryd.prog w = .ok 1 w := fun w => by
  rw [show Tryd.prog.elem 22 = 9 by kernel_rfl]; exact Tryd.sizeOf9 w
theorem strs_to {A : Option Addr} {c k : Nat} {l : List Tx} (hA : A = none → c = 0) (hk : k ≤ l.length) (hc : l.length ≤ c) :
    ∃ A', (A' = none → c = 0) ∧ (∀ w, (Instr.slice 22 (.slice A l.length c) none (some (.int .i64 (k : Int))) none).run Tryd.prog w = .ok (.slice A' k c) w) ∧ ∀ w, StrsAt w A l → StrsAt w A' (l.take k) := by
  obtain ⟨A', h1, h2, h3⟩ := Ap.run_toG (ys := sv l) strs_elem strs_size hA hk hc
  refine ⟨A', h1, h2, fun w hs => ?_⟩
  have := h3 w (src_of hs)
  rw [Nat.mul_one, show (sv l).take k = sv (l.take k) by simp [sv]] at this
  exact of_src this
theorem strs_from {A : Option Addr} {c k : Nat} {l : List Tx} (hA : A = none → c = 0) (hk : k ≤ l.length) (hc : l.length ≤ c) :
    ∃ A', (A' = none → c - k = 0) ∧ (∀ w, (Instr.slice 22 (.slice A l.length c) (some (.int .i64 (k : Int))) none none).run Tryd.prog w = .ok (.slice A' (l.length - k) (c - k)) w) ∧ ∀ w, StrsAt w A l → StrsAt w A' (l.drop k) := by
  obtain ⟨A', h1, h2, h3⟩ := Ap.run_fromG (ys := sv l) strs_elem strs_size hA hk hc
  refine ⟨A', h1, h2, fun w hs => ?_⟩
  have := h3 w (src_of hs)
  rw [Nat.mul_one, show (sv l).drop k = sv (l.drop k) by simp [sv]] at this
  exact of_src this

abbrev totF (g : Nat) : Value := .func (.func 65) #[] #[.pointer (some ⟨g, 0, none⟩)]
theorem tot_any (g : Nat) (T : TypeId) : ∀ (n : Nat) (l : List Tx) (A : Option Addr) (c : Nat) (w : World), l.length = n → 1 ≤ n → n ≤ 1000000 → Tabs w → StrsAt w A l → n ≤ c → c ≤ 9223372036854775807 → (A = none → c = 0) → (∀ t ∈ l, Sm t) → Reg.Blk g #[totF g] T w →
    Calls Tryd.prog 65 #[.slice A n c, .pointer (some ⟨g, 0, none⟩)] w fun e w' => e = .returned (.string (str (rootT l))) ∧ Below w.heap.size w w' := by
  intro n
  induction n using Nat.strongRecOn with
  | ind n ih =>
  intro l A c w hln h1 hn ht hl hcap hc2 hA hs hg
  have HT := Lib.hid ht
  have HL := Lib.hid hl
  have HS := Lib.hid hs
  have HG := Lib.hid hg
  have HN := Lib.hid hln
  have IH := Lib.hid ih
  have HC := Lib.hid (And.intro hcap hA)
  obtain ⟨cg, fg, zg⟩ := hg.facts
  clear ht hs hg ih
  by_cases he : n = 1
  · subst he
    obtain ⟨t, rfl⟩ : ∃ t, l = [t] := by
      match l, hln with
      | [t], _ => exact ⟨t, rfl⟩
    obtain ⟨b, off, rfl, zb, hc0⟩ := hl 0 (by simp)
    simp only [List.getElem_cons_zero, Nat.add_zero] at hc0
    clear hl HL HN hln IH HS HC
    go_enter Tryd.func65, Tryd.ntmps65
    go_wp2_with fail
    go_ret
    refine ⟨?_, Below.refl _ _⟩
    rw [root_one]; rfl
  · have h2 : 2 ≤ n := by omega
    obtain ⟨q1, q2, q3, _⟩ := hf_spec h2
    have HH := Lib.hid (half_any n w h2 hn)
    obtain ⟨k, hk⟩ : ∃ k, k = hf n := ⟨_, rfl⟩
    obtain ⟨A1, a1, E1, s1⟩ := strs_to (l := l) (A := A) (c := c) (k := k) hA (by omega) (by omega)
    obtain ⟨A2, a2, E2, s2⟩ := strs_from (l := l) (A := A) (c := c) (k := k) hA (by omega) (by omega)
    rw [hln] at E1 E2
    have HA := Lib.hid (And.intro a1 a2)
    have S1 := Lib.hid (s1 _ hl)
    have S2 := Lib.hid (s2 _ hl)
    rw [← hk] at HH
    have HK := Lib.hid (And.intro hk (And.intro q1 q2))
    rw [← hk] at q1 q2 q3
    have hn1 : ((n : Int) == 1) = false := by simp; omega
    clear hk s1 s2 a1 a2 hl hln he
    have C1 := Lib.hid (fun (W : World) (hb : Below w.heap.size w W) => IH.out k (by omega) (l.take k) A1 c W (by rw [List.length_take, HN.out]; omega) (by omega) (by omega) (HT.out.below hb) (S1.out.below hb) (by omega) hc2 HA.out.1 (sm_take HS.out k) (HG.out.keep hb))
    have C2 := Lib.hid (fun (W : World) (hb : Below w.heap.size w W) => IH.out (n - k) (by omega) (l.drop k) A2 (c - k) W (by rw [List.length_drop, HN.out]) (by omega) (by omega) (HT.out.below hb) (S2.out.below hb) (by omega) (by omega) HA.out.2 (sm_drop HS.out k) (HG.out.keep hb))
    have CN := Lib.hid (fun (W : World) (hb : Below w.heap.size w W) => node_any (rootT (l.take k)) (rootT (l.drop k)) W (HT.out.below hb) (root_sm _ (sm_take HS.out k)) (root_sm _ (sm_drop HS.out k)))
    go_enter Tryd.func65, Tryd.ntmps65
    go_wp2_with fail
    (with_reducible refine HH.out.mono ?_); rintro e w' ⟨rfl, rfl⟩
    go_wp2_with fail
    refine Reg.wp_region_seq (by kernel_rfl) (by kernel_rfl) ?_
    simp only
    iterate 12
      apply Reg.SeqOK.val
      · intro γ W hW K hK
        obtain ⟨hc, hf, _⟩ := bcell hW
        simp only [Act.put, List.setIfInBounds_toArray, List.set_cons_zero, List.set_cons_succ] at hK
        unfold Reg.Does
        go_simp
        try simp only [IntWalk.i64_left]
        first
          | exact hK _ (Below.refl _ _)
          | (go_at_call 65; (with_reducible refine (C1.out _ hW).mono ?_); rintro e w' ⟨rfl, hb⟩; exact hK _ hb)
          | (go_at_call 65; (with_reducible refine (C2.out _ hW).mono ?_); rintro e w' ⟨rfl, hb⟩; exact hK _ hb)
          | (go_at_call 36; (with_reducible refine (CN.out _ hW).mono ?_); rintro e w' ⟨rfl, hb⟩; exact hK _ hb)
          | (trace_state; fail)
      simp only [Act.put, List.setIfInBounds_toArray, List.set_cons_zero, List.set_cons_succ, List.nil_append, List.cons_append, Nat.reduceAdd, Nat.zero_add]
    refine Reg.SeqOK.nil (by kernel_rfl) (fun γ W hW _ _ _ => ?_)
    have HW := Lib.hid hW
    clear hW
    go_wp2_with fail
    go_ret
    have hq := HK.out.1
    refine ⟨?_, HW.out⟩
    rw [root_step (l := l) (by rw [HN.out]; exact h2), HN.out, ← hq]; rfl

theorem str_e : ({ data := #[101, 109, 112, 116, 121] } : ByteArray) = str emptyT := rfl
theorem total_any (l : List Tx) (A : Option Addr) (c : Nat) (w : World) (hn : l.length ≤ 1000000) (ht : Tabs w) (hl : StrsAt w A l) (hc : l.length ≤ c) (hc2 : c ≤ 9223372036854775807) (hA : A = none → c = 0) (hs : ∀ t ∈ l, Sm t) :
    Calls Tryd.prog 46 #[.slice A l.length c] w fun e w' => e = .returned (.string (str (rootT l))) ∧ Below w.heap.size w w' := by
  have HT := Lib.hid ht
  have HL := Lib.hid hl
  have HS := Lib.hid hs
  obtain ⟨n, hln⟩ : ∃ n, n = l.length := ⟨_, rfl⟩
  rw [← hln] at hn hc ⊢
  clear ht hl hs
  by_cases h0 : n = 0
  · subst h0
    have E : Hid (l = []) := List.eq_nil_of_length_eq_zero hln.symm
    clear hln HL
    have CE : Hid (∀ W : World, Below w.heap.size w W → Calls Tryd.prog 38 #[.slice (some ⟨W.heap.size, 0, none⟩) 1 1] (W.alloc (.cells #[.string { data := #[101, 109, 112, 116, 121] }] 9)) fun e w' => e = .returned (.string (str (listL [emptyT]))) ∧ Below W.heap.size W w') := Lib.hid (fun (W : World) (hb : Below w.heap.size w W) => list_lit [emptyT] W (HT.out.below hb) (by simp) (by simp [emptyT]))
    go_enter Tryd.func46, Tryd.ntmps46
    go_wp2_with fail
    have h := CE.out (w.alloc (.cells #[totF w.heap.size] 65)) ((Below.refl _ _).alloc (Nat.le_refl _) _)
    simp only [World.size_alloc] at h
    (with_reducible refine h.mono ?_); rintro e w1 ⟨rfl, hb1⟩
    have HB : Hid (Below w.heap.size w w1) := ((Below.refl _ _).alloc (Nat.le_refl _) _).trans (hb1.mono (Nat.le_succ _))
    clear hb1 h
    go_wp2_with fail
    go_ret
    refine ⟨?_, HB.out⟩
    rw [E.out, root_nil]; rfl
  · have h1 : ((n : Int) == 0) = false := by simp; omega
    have CT := Lib.hid (fun (W : World) (hb : Below w.heap.size w W) (g : Nat) (T : TypeId) (hg : Reg.Blk g #[totF g] T W) => tot_any g T n l A c W hln.symm (by omega) hn (HT.out.below hb) (HL.out.below hb) hc hc2 hA HS.out hg)
    clear h0 hln hc hc2 hA hn
    go_enter Tryd.func46, Tryd.ntmps46
    go_wp2_with fail
    have h := CT.out (w.alloc (.cells #[totF w.heap.size] 65)) ((Below.refl _ _).alloc (Nat.le_refl _) _) w.heap.size 65 (Reg.Blk.new w _ _)
    (with_reducible refine h.mono ?_); rintro e w1 ⟨rfl, hb1⟩
    have HB : Hid (Below w.heap.size w w1) := ((Below.refl _ _).alloc (Nat.le_refl _) _).trans (hb1.mono (by simp))
    clear hb1 h
    go_wp2_with fail
    go_ret
    exact ⟨rfl, HB.out⟩

end S
end Go.Proofs.YthdjdlndfkemiaaDoor

/- Trees: 'proper'. -/
namespace Go.Proofs.YthdjdlndfkemiaaDoor
open Go.RowKit
namespace S

def prN (l : List Tx) (n : Nat) : Bool := (l.take n).all isD
theorem prN_succ {l : List Tx} {k : Nat} (hk : k < l.length) : prN l (k + 1) = (prN l k && isD l[k]) := by
  unfold prN
  rw [List.take_add_one, List.getElem?_eq_getElem hk, List.all_append]
  simp only [Option.toList, List.all_cons, List.all_nil, Bool.and_true]
theorem prN_all (l : List Tx) : prN l l.length = l.all isD := by unfold prN; rw [List.take_length]
theorem prN_false {l : List Tx} {k : Nat} (hk : k < l.length) (h : isD l[k] = false) : l.all isD = false := by
  rw [List.all_eq_false]; exact ⟨l[k], List.getElem_mem hk, by simp [h]⟩

theorem is_str (t : Tx) (w : World) (hs : t.length ≤ 9223372036854775807) :
    Calls Tryd.prog 9 #[.string (str t)] w fun e w' => e = .returned (.bool (isD t)) ∧ Below w.heap.size w w' := by
  have h := is_any (str t) w (by rw [Lib.size_eq, str_data]; exact hs)
  rw [str_data] at h
  exact h
theorem notis_any (t : Tx) (w : World) (hs : t.length ≤ 9223372036854775807) :
    Calls Tryd.prog 56 #[.string (str t)] w fun e w' => e = .returned (.bool (!isD t)) ∧ Below w.heap.size w w' := by
  have HQ := Lib.hid (is_str t w hs)
  clear hs
  go_enter Tryd.func56, Tryd.ntmps56
  go_wp2_with fail
  (with_reducible refine HQ.out.mono ?_); rintro e w1 ⟨rfl, hb1⟩
  have HB := Lib.hid hb1
  clear hb1 HQ
  go_wp2_with fail
  go_ret
  exact ⟨rfl, HB.out⟩

theorem index_any (A : Option Addr) (c : Nat) (L : List Tx) (w : World) (hl : StrsAt w A L) (hn : L.length ≤ 9223372036854775807) (hs : ∀ t ∈ L, t.length ≤ 9223372036854775807) :
    Calls Tryd.prog 73 #[.slice A L.length c, .func (.func 56) #[] #[]] w fun e w' => (∃ r : Int, e = .returned (.int .i64 r) ∧ decide (0 ≤ r) = !L.all isD) ∧ Below w.heap.size w w' := by
  have HL := Lib.hid hl
  have HS := Lib.hid hs
  clear hl hs
  go_enter Tryd.func73, Tryd.ntmps73
  go_wp2_with fail
  go_loopw [8] (fun i wr => ∃ k : Nat, k ≤ L.length ∧ i = .int .i64 k ∧ prN L k = true ∧ Below w.heap.size w wr) (fun i _ => L.length - (intOf i).toNat)
  case atStart => exact ⟨0, Nat.zero_le _, rfl, rfl, Below.refl _ _⟩
  case round =>
    obtain ⟨k, hk, rfl, hg, hbw⟩ := hrel
    have HG := Lib.hid hg
    have HB := Lib.hid hbw
    clear hg hbw
    by_cases hlt : k < L.length
    · obtain ⟨b, off, hA, hb, c0⟩ := (HL.out.below HB.out) k hlt
      subst hA
      have hki : (k : Int) < (L.length : Int) := by omega
      have hk0 : (0 : Int) ≤ (k : Int) := by omega
      have HV : Hid (∀ v, isD L[k] = v → prN L (k + 1) = v ∧ (v = false → L.all isD = false)) := fun v h => ⟨by rw [prN_succ hlt, HG.out, h]; simp, fun hv => prN_false hlt (by rw [h, hv])⟩
      have HQ := Lib.hid (notis_any L[k] wr (HS.out _ (List.getElem_mem hlt)))
      generalize L[k] = t at *
      generalize hv : isD t = v at *
      clear hv
      go_wp2_with fail
      (with_reducible refine HQ.out.mono ?_); rintro e w2 ⟨rfl, hb2⟩
      have HB2 := Lib.hid (HB.out.trans (hb2.mono HB.out.size))
      clear hb2 HQ
      cases v with
      | true =>
        go_wp2_with fail
        refine ⟨⟨k + 1, by omega, by go_num, (HV.out _ rfl).1, HB2.out⟩, by simp [intOf]; omega⟩
      | false =>
        go_wp2_with fail
        go_ret
        refine ⟨⟨(k : Int), rfl, ?_⟩, HB2.out⟩
        rw [(HV.out _ rfl).2 rfl, decide_eq_true hk0]; rfl
    · obtain rfl : k = L.length := by omega
      go_wp2_with fail
      go_ret
      refine ⟨⟨-1, rfl, ?_⟩, HB.out⟩
      rw [← prN_all, HG.out]; rfl

theorem contains_any (A : Option Addr) (c : Nat) (L : List Tx) (w : World) (hl : StrsAt w A L) (hn : L.length ≤ 9223372036854775807) (hs : ∀ t ∈ L, t.length ≤ 9223372036854775807) :
    Calls Tryd.prog 55 #[.slice A L.length c, .func (.func 56) #[] #[]] w fun e w' => e = .returned (.bool (!L.all isD)) ∧ Below w.heap.size w w' := by
  have HQ := Lib.hid (index_any A c L w hl hn hs)
  clear hl
  go_enter Tryd.func55, Tryd.ntmps55
  go_wp2_with fail
  (with_reducible refine HQ.out.mono ?_); rintro e w1 ⟨⟨r, rfl, hr⟩, hb1⟩
  have HB := Lib.hid hb1
  have HR := Lib.hid hr
  clear hb1 HQ hr
  go_wp2_with fail
  go_ret
  exact ⟨by rw [← HR.out]; rfl, HB.out⟩
theorem proper_any (A : Option Addr) (c : Nat) (L : List Tx) (w : World) (hl : StrsAt w A L) (hn : L.length ≤ 9223372036854775807) (hs : ∀ t ∈ L, t.length ≤ 9223372036854775807) :
    Calls Tryd.prog 32 #[.slice A L.length c] w fun e w' => e = .returned (.bool (L.all isD)) ∧ Below w.heap.size w w' := by
  have HQ := Lib.hid (contains_any A c L w hl hn hs)
  clear hl
  go_enter Tryd.func32, Tryd.ntmps32
  go_wp2_with fail
  (with_reducible refine HQ.out.mono ?_); rintro e w1 ⟨rfl, hb1⟩
  have HB := Lib.hid hb1
  clear hb1 HQ
  go_wp2_with fail
  go_ret
  exact ⟨by simp, HB.out⟩

end S
end Go.Proofs.YthdjdlndfkemiaaDoor
