/- Trees: 'slices.Reverse', an append of one string, 'Path'. -/
import Derived.Test.YtejhefmcinohhaaGreatDoorTk
import Derived.Lib.OwnBridge
set_option linter.unusedSimpArgs false
set_option linter.unusedVariables false
set_option maxRecDepth 100000
namespace Go.Proofs.YtejhefmcinohhaaGreatDoor
open Go.RowKit
namespace S

theorem sv_enc (l : List Tx) : sv l = l.map encStr := rfl
theorem sv_one (l : List Tx) : ∀ u ∈ sv l, u.oneCell' = true := fun u hu => by obtain ⟨t, _, rfl⟩ := List.mem_map.1 hu; rfl
/-- A row of strings that owns its block. -/
def Own (B : Nat) (w : World) (v : Value) (l : List Tx) : Prop := w.ownsRow B 9 1 v l.length (sv l)
theorem Own.nil (B : Nat) (w : World) : Own B w (.slice none 0 0) [] := ⟨rfl, .inl ⟨rfl, rfl⟩⟩
theorem Own.below {B : Nat} {w w' : World} {v : Value} {l : List Tx} (h : Own B w v l) (hb : Below w.heap.size w w') : Own B w' v l := Ap.own_below h hb
theorem Own.parts {B : Nat} {w : World} {v : Value} {l : List Tx} (h : Own B w v l) : ∃ A c, v = .slice A l.length c ∧ StrsAt w A l ∧ l.length ≤ c ∧ c ≤ 9223372036854775807 ∧ (A = none → c = 0) ∧ ∀ b off, A = some ⟨b, off, none⟩ → B ≤ b ∧ b < w.heap.size := by
  have h0 : w.ownsRow B 9 1 v l.length (sv l) := h
  rcases h0.2 with ⟨e, h0⟩ | ⟨g, cap, cur, rfl, h2, hgg, h3, h4, _⟩
  · refine ⟨none, 0, by rw [e, h0], fun i hi => by omega, by omega, by omega, fun _ => rfl, fun b off e => by cases e⟩
  · unfold maxLen at h4
    refine ⟨_, cap, rfl, of_src (Ap.SrcAt.own h0 (sv_one l)), h3, h4, (fun e => by cases e), fun b off e => ?_⟩
    simp only [Option.some.injEq, Addr.mk.injEq] at e
    have hlt := (Array.getElem?_eq_some_iff.1 hgg).1
    omega
theorem Own.fresh {w w' : World} {v : Value} {l : List Tx} (h : Own w.heap.size w' v l) : Fresh w w' v l := h.parts
theorem rev_any (l : List Tx) (v : Value) (B : Nat) (w0 w : World) (h : Own B w v l) (hb : Below B w0 w) :
    Calls Tryz.prog 27 #[v] w fun e w' => e = .returned (.tuple #[]) ∧ Own B w' v l.reverse ∧ Below B w0 w' := by
  by_cases hv : v = .slice none 0 0
  · subst hv
    have hl : l = [] := by
      rcases h.2 with ⟨_, h0⟩ | ⟨_, _, _, e, _⟩
      · exact List.eq_nil_of_length_eq_zero h0
      · cases e
    subst hl
    refine (Tryz.slices_Reverse_string_empty none 0 w).mono ?_
    rintro e w' ⟨rfl, rfl⟩
    exact ⟨rfl, h, hb⟩
  · have h1 : w.ownsRow B 9 1 v l.length (l.map encStr) := h
    obtain ⟨g, cap, rfl, hbg, _, _, hcm, hlen, hH⟩ := Lib.holds_of_ownsRow h1 hv
    unfold maxLen at hcm
    refine (Tryz.slices_Reverse_string g 0 cap l w hH (by omega)).mono ?_
    rintro e w' ⟨rfl, q, rfl⟩
    have h2 := Lib.ownsRow_putRow (q := q) (ys := l.reverse) h1 (by simp) (Nat.le_refl l.length)
    rw [List.take_of_length_le (by simp)] at h2
    refine ⟨rfl, ?_, Lib.below_putRow hb hbg⟩
    show World.ownsRow _ _ _ _ _ _ _
    rw [List.length_reverse, sv_enc]
    exact h2
/-- 'append(l, x)' behind the block of the one further string. -/
theorem app1 {w0 w : World} {B cap : Nat} {A0 : Option Addr} {l : List Tx} (x : Tx) (hown : Own B w (.slice A0 l.length cap) l) (hn : l.length + 1 ≤ 1000000) (hB : Below B w0 w) (hBw : B ≤ w.heap.size) :
    ∃ A' c' w', (Ap.appA #[22, 22] 22 #[.slice A0 l.length cap, .slice (some ⟨w.heap.size, 0, none⟩) 1 1]).run Tryz.prog (w.alloc (.cells #[.string (str x)] 9)) = .ok (.slice A' (l ++ [x]).length c') w' ∧
      Own B w' (.slice A' (l ++ [x]).length c') (l ++ [x]) ∧ Below B w0 w' := by
  obtain ⟨i0, hi0, hz⟩ := Option.map_eq_some_iff.1 info_str
  simp only [Prod.mk.injEq] at hz
  obtain ⟨hz0, hz1, hz2⟩ := hz
  have hb1 : Below w.heap.size w (w.alloc (.cells #[.string (str x)] 9)) := (Below.refl _ _).alloc (Nat.le_refl _) _
  have hs : Ap.SrcAt (w.alloc (.cells #[.string (str x)] 9)) (some ⟨w.heap.size, 0, none⟩) 1 1 [.string (str x)] := Ap.SrcAt.blk1 (Reg.Blk.new w _ _) rfl
  obtain ⟨A', c', w', hrun, ho, hgr, _⟩ := Ap.run_appX (c := 1) Tryz.underlying22 hi0 hz0 hz1 hz2 rfl (by omega) (by omega) 22 (Ap.own_below hown hb1) hs (fun e => by cases e) hn (by simp; omega)
  have e1 : (l ++ [x]).length = l.length + 1 := by simp
  refine ⟨A', c', w', by rw [e1]; exact hrun, ?_, (hB.trans (hb1.mono hBw)).grown hgr (by simp; omega) (fun k e => ?_)⟩
  · show World.ownsRow _ _ _ _ _ _ _
    rw [e1, show sv (l ++ [x]) = sv l ++ [.string (str x)] by simp [sv]]
    exact ho
  · have h0 : w.ownsRow B 9 1 (.slice A0 l.length cap) l.length (sv l) := hown
    exact (World.ownsRow.lt h0 k e).1

def lenV : Value → Nat
  | .slice _ n _ => n
  | _ => 0
def pathOk (l : List Tx) (i : Int) : Bool := l.all isD && (decide (0 ≤ i) && decide (i < (l.length : Int)))

theorem path_no (l : List Tx) (i : Int) (A : Option Addr) (c : Nat) (w : World) (hn : l.length ≤ 1000000) (hl : StrsAt w A l) (hs : ∀ t ∈ l, t.length ≤ 9223372036854775807) (hok : pathOk l i = false) :
    Calls Tryz.prog 8 #[.slice A l.length c, .int .i64 i] w fun e w' => e = .returned (.tuple #[.slice none 0 0, .int .i64 1]) ∧ Below w.heap.size w w' := by
  have HP := Lib.hid (proper_any A c l w hl (by omega) hs)
  have HO : Hid (l.all isD = true → ¬ i < 0 → (l.length : Int) ≤ i) := fun h h2 => by
    unfold pathOk at hok
    rw [h, Bool.true_and, Bool.and_eq_false_iff] at hok
    rcases hok with hok | hok <;> simp at hok <;> omega
  generalize l.all isD = q at *
  clear hl hs hok
  go_enter Tryz.func8, Tryz.ntmps8
  go_wp2_with fail
  (with_reducible refine HP.out.mono ?_); rintro e w1 ⟨rfl, hb1⟩
  have HB := Lib.hid hb1
  clear hb1 HP
  cases q with
  | false =>
    go_wp2_with fail
    refine bodyPost_ret (v := .tuple #[.slice none 0 0, .int .i64 1]) (by simp [results, Tryz.results8, go_sem]) rfl ⟨rfl, HB.out⟩
  | true =>
    by_cases h1 : i < 0
    · go_wp2_with fail
      refine bodyPost_ret (v := .tuple #[.slice none 0 0, .int .i64 1]) (by simp [results, Tryz.results8, go_sem]) rfl ⟨rfl, HB.out⟩
    · have h2 := HO.out rfl (by omega)
      go_wp2_with fail
      refine bodyPost_ret (v := .tuple #[.slice none 0 0, .int .i64 1]) (by simp [results, Tryz.results8, go_sem]) rfl ⟨rfl, HB.out⟩

attribute [local go_sem ↓ high] Ap.builtin_appA in
set_option maxHeartbeats 2000000 in
theorem path_yes (l : List Tx) (i : Nat) (A : Option Addr) (c : Nat) (w : World) (hn : l.length ≤ 100000) (ht : Tabs w) (hl : StrsAt w A l) (hc : l.length ≤ c) (hc2 : c ≤ 9223372036854775807) (hA : A = none → c = 0) (hok : l.all isD = true) (hi : i < l.length) :
    Calls Tryz.prog 8 #[.slice A l.length c, .int .i64 i] w fun e w' => (∃ v, e = .returned (.tuple #[v, .int .i64 0]) ∧ Own w.heap.size w' v (pathT l i)) ∧ Below w.heap.size w w' := by
  have hsm : ∀ t ∈ l, Sm t := fun t ht => isD_sm (List.all_eq_true.1 hok t ht)
  have HP := proper_any A c l w hl (by omega) (fun t ht => by have := hsm t ht; unfold Sm at this; omega)
  rw [hok] at HP
  have HP := Lib.hid HP
  have HT := Lib.hid ht
  have HL := Lib.hid (And.intro hl (And.intro hc (And.intro hc2 (And.intro hA (And.intro hsm (And.intro hi hn))))))
  have hi0 : ¬ (i : Int) < 0 := by omega
  have hil : ¬ (l.length : Int) ≤ (i : Int) := by omega
  have hil2 : decide (l.length ≤ i) = false := decide_eq_false (by omega)
  have hil3 : decide ((i : Int) < 0) = false := decide_eq_false (by omega)
  clear ht hl hc hc2 hA hok hsm
  go_enter Tryz.func8, Tryz.ntmps8
  go_wp2_with fail
  (with_reducible refine HP.out.mono ?_); rintro e w1 ⟨rfl, hb1⟩
  have HB := Lib.hid hb1
  clear hb1 HP
  go_wp2_with fail
  try simp only [hil2, hil3, Bool.or_false]
  clear hil2 hil3
  go_loopw [0, 1, 6] (fun a b o wr => ∃ (l' : List Tx) (A' : Option Addr) (c' : Nat) (i' : Nat) (dn : List Tx) (Ao : Option Addr) (co : Nat), a = .slice A' l'.length c' ∧ b = .int .i64 i' ∧ o = .slice Ao dn.length co ∧ i' < l'.length ∧ l'.length + dn.length ≤ l.length ∧ (∀ t ∈ l', Sm t) ∧ l'.length ≤ c' ∧ c' ≤ 9223372036854775807 ∧ (A' = none → c' = 0) ∧ StrsAt w A' l' ∧ Own w.heap.size wr o dn ∧ pathT l i = pathT l' i' ++ dn.reverse ∧ Below w.heap.size w wr) (fun a _ _ _ => lenV a)
  case atStart => exact ⟨l, A, c, i, [], none, 0, rfl, rfl, rfl, HL.out.2.2.2.2.2.1, by simp, HL.out.2.2.2.2.1, HL.out.2.1, HL.out.2.2.1, HL.out.2.2.2.1, HL.out.1, Own.nil _ _, by simp, HB.out⟩
  case round =>
    obtain ⟨l', A', c', i', dn, Ao, co, rfl, rfl, rfl, hi', hle, hsm, hc, hc2, hA, hl, ho, hpe, hlow⟩ := hrel
    obtain ⟨n, hln⟩ : ∃ n, n = l'.length := ⟨_, rfl⟩
    have HN := Lib.hid hln
    have HLow := Lib.hid hlow
    have HO := Lib.hid ho
    have HE := Lib.hid hpe
    have HI := Lib.hid (And.intro hi' hle)
    have hnl : n ≤ l.length := by omega
    have hin : i' < n := by omega
    rw [← hln] at hc hi' hle ⊢
    clear hlow ho hpe
    by_cases h2 : 2 ≤ n
    · obtain ⟨q1, q2, q3, _⟩ := hf_spec h2
      have hn6 : n ≤ 1000000 := by omega
      have HH := Lib.hid (half_any n wr h2 hn6)
      obtain ⟨k, hk⟩ : ∃ k, k = hf n := ⟨_, rfl⟩
      obtain ⟨A1, a1, E1, s1⟩ := strs_to (l := l') (A := A') (c := c') (k := k) hA (by omega) (by omega)
      obtain ⟨A2, a2, E2, s2⟩ := strs_from (l := l') (A := A') (c := c') (k := k) hA (by omega) (by omega)
      rw [← hln] at E1 E2
      have HA := Lib.hid (And.intro a1 a2)
      have S1 := Lib.hid (s1 _ hl)
      have S2 := Lib.hid (s2 _ hl)
      rw [← hk] at HH
      have HK := Lib.hid hk
      rw [← hk] at q1 q2 q3
      have hn1 : (1 : Int) < (n : Int) := by omega
      have HS := Lib.hid hsm
      have lt1 : Hid ((l'.take k).length = k) := by unfold Hid; rw [List.length_take, ← hln]; omega
      have lt2 : Hid ((l'.drop k).length = n - k) := by unfold Hid; rw [List.length_drop, ← hln]
      clear hk s1 s2 a1 a2 hl hln hsm hA hi0 hil hi'
      by_cases hik : i' < k
      · have hik' : (i' : Int) < (k : Int) := by omega
        have hq := total_any (l'.drop k) A2 (c' - k) wr (by rw [lt2.out]; omega) (HT.out.below HLow.out) (S2.out.below HLow.out) (by rw [lt2.out]; omega) (by omega) HA.out.2 (sm_drop HS.out k)
        rw [lt2.out] at hq
        have HQ := Lib.hid hq
        clear hq
        go_wp2_with fail
        (with_reducible refine HH.out.mono ?_); rintro e wr ⟨rfl, rfl⟩
        go_wp2_with fail
        (with_reducible refine HQ.out.mono ?_); rintro e w2 ⟨rfl, hb2⟩
        have hL2 : Below w.heap.size w w2 := HLow.out.trans (hb2.mono HLow.out.size)
        obtain ⟨A3, c3, w3, hrun, ho3, hL3⟩ := app1 (rootT (l'.drop k)) (HO.out.below hb2) (by omega) hL2 hL2.size
        have HO3 := Lib.hid ho3
        have HL3 := Lib.hid hL3
        clear hb2 hL2 ho3 hL3 HQ HH
        go_wp2_with fail
        go_roundw
        case rel => exact ⟨l'.take k, A1, c', i', dn ++ [rootT (l'.drop k)], A3, c3, by rw [lt1.out], rfl, by simp, by rw [lt1.out]; exact hik, by rw [lt1.out]; simp; omega, sm_take HS.out k, by rw [lt1.out]; omega, hc2, HA.out.1, S1.out, (by have h := HO3.out; simp only [List.length_append, List.length_cons, List.length_nil, Nat.zero_add] at h; exact h), by rw [HE.out, path_left (by rw [← HN.out]; exact h2) (by rw [← HN.out, ← HK.out]; exact hik), ← HN.out, ← HK.out]; simp, HL3.out⟩
        case measure => simp only [lenV]; omega
      · have hik' : ¬ (i' : Int) < (k : Int) := by omega
        have hs2 : IntKind.i64.wrap ((i' : Int) - (k : Int)) = ((i' - k : Nat) : Int) := by rw [IntWalk.i64_left, IntWalk.wrap64_in _ (by omega)]; omega
        have hq := total_any (l'.take k) A1 c' wr (by rw [lt1.out]; omega) (HT.out.below HLow.out) (S1.out.below HLow.out) (by rw [lt1.out]; omega) (by omega) HA.out.1 (sm_take HS.out k)
        rw [lt1.out] at hq
        have HQ := Lib.hid hq
        clear hq
        go_wp2_with fail
        (with_reducible refine HH.out.mono ?_); rintro e wr ⟨rfl, rfl⟩
        go_wp2_with fail
        (with_reducible refine HQ.out.mono ?_); rintro e w2 ⟨rfl, hb2⟩
        have hL2 : Below w.heap.size w w2 := HLow.out.trans (hb2.mono HLow.out.size)
        obtain ⟨A3, c3, w3, hrun, ho3, hL3⟩ := app1 (rootT (l'.take k)) (HO.out.below hb2) (by omega) hL2 hL2.size
        have HO3 := Lib.hid ho3
        have HL3 := Lib.hid hL3
        clear hb2 hL2 ho3 hL3 HQ HH
        go_wp2_with fail
        go_roundw
        case rel => exact ⟨l'.drop k, A2, c' - k, i' - k, dn ++ [rootT (l'.take k)], A3, c3, by rw [lt2.out], by first | rfl | rw [hs2], by simp, by rw [lt2.out]; omega, by rw [lt2.out]; simp; omega, sm_drop HS.out k, by rw [lt2.out]; omega, by omega, HA.out.2, S2.out, (by have h := HO3.out; simp only [List.length_append, List.length_cons, List.length_nil, Nat.zero_add] at h; exact h), by rw [HE.out, path_right (by rw [← HN.out]; exact h2) (by rw [← HN.out, ← HK.out]; exact hik), ← HN.out, ← HK.out]; simp, HL3.out⟩
        case measure => simp only [lenV]; omega
    · obtain rfl : n = 1 := by omega
      have HQ := Lib.hid (rev_any dn _ _ _ wr HO.out HLow.out)
      have HPE : Hid (dn.reverse = pathT l i) := by
        unfold Hid
        rw [HE.out, path_one _ (by rw [← HN.out]; exact Nat.le_refl _)]; rfl
      clear hl hA
      go_wp2_with fail
      (with_reducible refine HQ.out.mono ?_); rintro e w2 ⟨rfl, ho2, hb2⟩
      have HO2 := Lib.hid ho2
      have HB2 := Lib.hid hb2
      clear ho2 hb2
      go_wp2_with fail
      refine bodyPost_ret (v := .tuple #[.slice Ao dn.length co, .int .i64 0]) (by simp [results, Tryz.results8, go_sem]) rfl ⟨⟨_, rfl, ?_⟩, HB2.out⟩
      rw [← HPE.out]; exact HO2.out

end S
end Go.Proofs.YtejhefmcinohhaaGreatDoor

/- Trees: 'Link'. -/
namespace Go.Proofs.YtejhefmcinohhaaGreatDoor
open Go.RowKit
namespace S

def linkOk (l : List Tx) (m : Int) : Bool := l.all isD && (decide (0 ≤ m) && decide (m ≤ (l.length : Int)))
def lnk (l : List Tx) (m : Nat) : List Tx := if m = 0 then [] else linkT l m true

theorem link_no (l : List Tx) (i : Int) (A : Option Addr) (c : Nat) (w : World) (hn : l.length ≤ 1000000) (hl : StrsAt w A l) (hs : ∀ t ∈ l, t.length ≤ 9223372036854775807) (hok : linkOk l i = false) :
    Calls Tryz.prog 10 #[.slice A l.length c, .int .i64 i] w fun e w' => e = .returned (.tuple #[.slice none 0 0, .int .i64 1]) ∧ Below w.heap.size w w' := by
  have HP := Lib.hid (proper_any A c l w hl (by omega) hs)
  have HO : Hid (l.all isD = true → ¬ i < 0 → (l.length : Int) < i) := fun h h2 => by
    unfold linkOk at hok
    rw [h, Bool.true_and, Bool.and_eq_false_iff] at hok
    rcases hok with hok | hok <;> simp at hok <;> omega
  generalize l.all isD = q at *
  clear hl hs hok
  go_enter Tryz.func10, Tryz.ntmps10
  go_wp2_with fail
  (with_reducible refine HP.out.mono ?_); rintro e w1 ⟨rfl, hb1⟩
  have HB := Lib.hid hb1
  clear hb1 HP
  cases q with
  | false =>
    go_wp2_with fail
    refine bodyPost_ret (v := .tuple #[.slice none 0 0, .int .i64 1]) (by simp [results, Tryz.results10, go_sem]) rfl ⟨rfl, HB.out⟩
  | true =>
    by_cases h1 : i < 0
    · go_wp2_with fail
      refine bodyPost_ret (v := .tuple #[.slice none 0 0, .int .i64 1]) (by simp [results, Tryz.results10, go_sem]) rfl ⟨rfl, HB.out⟩
    · have h2 := HO.out rfl (by omega)
      go_wp2_with fail
      refine bodyPost_ret (v := .tuple #[.slice none 0 0, .int .i64 1]) (by simp [results, Tryz.results10, go_sem]) rfl ⟨rfl, HB.out⟩

attribute [local go_sem ↓ high] Ap.builtin_appA in
set_option maxHeartbeats 2000000 in
theorem link_yes (l : List Tx) (m : Nat) (A : Option Addr) (c : Nat) (w : World) (hn : l.length ≤ 100000) (ht : Tabs w) (hl : StrsAt w A l) (hc : l.length ≤ c) (hc2 : c ≤ 9223372036854775807) (hA : A = none → c = 0) (hok : l.all isD = true) (hi : m ≤ l.length) :
    Calls Tryz.prog 10 #[.slice A l.length c, .int .i64 m] w fun e w' => (∃ v, e = .returned (.tuple #[v, .int .i64 0]) ∧ Own w.heap.size w' v (lnk l m)) ∧ Below w.heap.size w w' := by
  have hsm : ∀ t ∈ l, Sm t := fun t ht => isD_sm (List.all_eq_true.1 hok t ht)
  have HP := proper_any A c l w hl (by omega) (fun t ht => by have := hsm t ht; unfold Sm at this; omega)
  rw [hok] at HP
  have HP := Lib.hid HP
  have HT := Lib.hid ht
  have HL := Lib.hid (And.intro hl (And.intro hc (And.intro hc2 (And.intro hA (And.intro hsm (And.intro hi hn))))))
  have hi0 : ¬ (m : Int) < 0 := by omega
  have hil : ¬ (l.length : Int) < (m : Int) := by omega
  have hil2 : decide (l.length < m) = false := decide_eq_false (by omega)
  have hil3 : decide ((m : Int) < 0) = false := decide_eq_false (by omega)
  clear ht hl hc hc2 hA hok hsm
  by_cases hm0 : m = 0
  · subst hm0
    have hl0 : (0 : Int) ≤ (l.length : Int) := by omega
    go_enter Tryz.func10, Tryz.ntmps10
    go_wp2_with fail
    (with_reducible refine HP.out.mono ?_); rintro e w1 ⟨rfl, hb1⟩
    have HB := Lib.hid hb1
    clear hb1 HP
    go_wp2_with fail
    refine bodyPost_ret (v := .tuple #[.slice none 0 0, .int .i64 0]) (by simp [results, Tryz.results10, go_sem]) rfl ⟨⟨_, rfl, Own.nil _ _⟩, HB.out⟩
  have hmz : ((m : Int) == 0) = false := by simp; omega
  go_enter Tryz.func10, Tryz.ntmps10
  go_wp2_with fail
  (with_reducible refine HP.out.mono ?_); rintro e w1 ⟨rfl, hb1⟩
  have HB := Lib.hid hb1
  clear hb1 HP
  go_wp2_with fail
  try simp only [hil2, hil3, hmz, Bool.or_false]
  clear hil2 hil3
  have HM : Hid (1 ≤ m) := by unfold Hid; omega
  clear hmz hm0
  go_loopw [0, 1, 6, 7] (fun a b o wv wr => ∃ (l' : List Tx) (A' : Option Addr) (c' : Nat) (i' : Nat) (dn : List Tx) (Ao : Option Addr) (co : Nat) (wh : Bool), a = .slice A' l'.length c' ∧ b = .int .i64 i' ∧ o = .slice Ao dn.length co ∧ wv = .bool wh ∧ 1 ≤ i' ∧ i' ≤ l'.length ∧ l'.length + dn.length ≤ l.length ∧ (∀ t ∈ l', Sm t) ∧ l'.length ≤ c' ∧ c' ≤ 9223372036854775807 ∧ (A' = none → c' = 0) ∧ StrsAt w A' l' ∧ Own w.heap.size wr o dn ∧ linkT l m true = linkT l' i' wh ++ dn.reverse ∧ Below w.heap.size w wr) (fun a _ _ _ _ => lenV a)
  case atStart => exact ⟨l, A, c, m, [], none, 0, true, rfl, rfl, rfl, rfl, HM.out, HL.out.2.2.2.2.2.1, by simp, HL.out.2.2.2.2.1, HL.out.2.1, HL.out.2.2.1, HL.out.2.2.2.1, HL.out.1, Own.nil _ _, by simp, HB.out⟩
  case round =>
    obtain ⟨l', A', c', i', dn, Ao, co, wh, rfl, rfl, rfl, rfl, h1m, hi', hle, hsm, hc, hc2, hA, hl, ho, hpe, hlow⟩ := hrel
    obtain ⟨n, hln⟩ : ∃ n, n = l'.length := ⟨_, rfl⟩
    have HN := Lib.hid hln
    have HLow := Lib.hid hlow
    have HO := Lib.hid ho
    have HE := Lib.hid hpe
    have HI := Lib.hid (And.intro hi' hle)
    have hnl : n ≤ l.length := by omega
    have hin : i' ≤ n := by omega
    rw [← hln] at hc hi' hle ⊢
    clear hlow ho hpe
    by_cases h2 : i' < n
    · have h2n : 2 ≤ n := by omega
      obtain ⟨q1, q2, q3, _⟩ := hf_spec h2n
      have hn6 : n ≤ 1000000 := by omega
      have HH := Lib.hid (half_any n wr h2n hn6)
      obtain ⟨k, hk⟩ : ∃ k, k = hf n := ⟨_, rfl⟩
      obtain ⟨A1, a1, E1, s1⟩ := strs_to (l := l') (A := A') (c := c') (k := k) hA (by omega) (by omega)
      obtain ⟨A2, a2, E2, s2⟩ := strs_from (l := l') (A := A') (c := c') (k := k) hA (by omega) (by omega)
      rw [← hln] at E1 E2
      have HA := Lib.hid (And.intro a1 a2)
      have S1 := Lib.hid (s1 _ hl)
      have S2 := Lib.hid (s2 _ hl)
      rw [← hk] at HH
      have HK := Lib.hid hk
      rw [← hk] at q1 q2 q3
      have hn1 : (i' : Int) < (n : Int) := by omega
      have HS := Lib.hid hsm
      have lt1 : Hid ((l'.take k).length = k) := by unfold Hid; rw [List.length_take, ← hln]; omega
      have lt2 : Hid ((l'.drop k).length = n - k) := by unfold Hid; rw [List.length_drop, ← hln]
      clear hk s1 s2 a1 a2 hl hln hsm hA hi0 hil hi'
      by_cases hik : i' ≤ k
      · have hik' : (i' : Int) ≤ (k : Int) := by omega
        have hq := total_any (l'.drop k) A2 (c' - k) wr (by rw [lt2.out]; omega) (HT.out.below HLow.out) (S2.out.below HLow.out) (by rw [lt2.out]; omega) (by omega) HA.out.2 (sm_drop HS.out k)
        rw [lt2.out] at hq
        have HQ := Lib.hid hq
        clear hq
        go_wp2_with fail
        (with_reducible refine HH.out.mono ?_); rintro e wr ⟨rfl, rfl⟩
        go_wp2_with fail
        (with_reducible refine HQ.out.mono ?_); rintro e w2 ⟨rfl, hb2⟩
        have hL2 : Below w.heap.size w w2 := HLow.out.trans (hb2.mono HLow.out.size)
        obtain ⟨A3, c3, w3, hrun, ho3, hL3⟩ := app1 (rootT (l'.drop k)) (HO.out.below hb2) (by omega) hL2 hL2.size
        have HO3 := Lib.hid ho3
        have HL3 := Lib.hid hL3
        clear hb2 hL2 ho3 hL3 HQ HH
        go_wp2_with fail
        go_roundw
        case rel => exact ⟨l'.take k, A1, c', i', dn ++ [rootT (l'.drop k)], A3, c3, wh, by rw [lt1.out], rfl, by simp, rfl, h1m, by rw [lt1.out]; exact hik, by rw [lt1.out]; simp; omega, sm_take HS.out k, by rw [lt1.out]; omega, hc2, HA.out.1, S1.out, (by have h := HO3.out; simp only [List.length_append, List.length_cons, List.length_nil, Nat.zero_add] at h; exact h), by rw [HE.out, link_left wh (by rw [← HN.out]; exact h2) (by rw [← HN.out]; exact h2n) (by rw [← HN.out, ← HK.out]; exact hik), ← HN.out, ← HK.out]; simp, HL3.out⟩
        case measure => simp only [lenV]; omega
      · have hik' : ¬ (i' : Int) ≤ (k : Int) := by omega
        have hs2 : IntKind.i64.wrap ((i' : Int) - (k : Int)) = ((i' - k : Nat) : Int) := by rw [IntWalk.i64_left, IntWalk.wrap64_in _ (by omega)]; omega
        have hq := total_any (l'.take k) A1 c' wr (by rw [lt1.out]; omega) (HT.out.below HLow.out) (S1.out.below HLow.out) (by rw [lt1.out]; omega) (by omega) HA.out.1 (sm_take HS.out k)
        rw [lt1.out] at hq
        have HQ := Lib.hid hq
        clear hq
        go_wp2_with fail
        (with_reducible refine HH.out.mono ?_); rintro e wr ⟨rfl, rfl⟩
        go_wp2_with fail
        (with_reducible refine HQ.out.mono ?_); rintro e w2 ⟨rfl, hb2⟩
        have hL2 : Below w.heap.size w w2 := HLow.out.trans (hb2.mono HLow.out.size)
        obtain ⟨A3, c3, w3, hrun, ho3, hL3⟩ := app1 (rootT (l'.take k)) (HO.out.below hb2) (by omega) hL2 hL2.size
        have HO3 := Lib.hid ho3
        have HL3 := Lib.hid hL3
        clear hb2 hL2 ho3 hL3 HQ HH
        go_wp2_with fail
        go_roundw
        case rel => exact ⟨l'.drop k, A2, c' - k, i' - k, dn ++ [rootT (l'.take k)], A3, c3, false, by rw [lt2.out], by first | rfl | rw [hs2], by simp, rfl, by omega, by rw [lt2.out]; omega, by rw [lt2.out]; simp; omega, sm_drop HS.out k, by rw [lt2.out]; omega, by omega, HA.out.2, S2.out, (by have h := HO3.out; simp only [List.length_append, List.length_cons, List.length_nil, Nat.zero_add] at h; exact h), by rw [HE.out, link_right wh (by rw [← HN.out]; exact h2) (by rw [← HN.out]; exact h2n) (by rw [← HN.out, ← HK.out]; exact hik), ← HN.out, ← HK.out]; simp, HL3.out⟩
        case measure => simp only [lenV]; omega
    · obtain rfl : i' = n := by omega
      have HLN : Hid (lnk l m = (if wh then [] else [rootT l']) ++ dn.reverse) := by
        unfold Hid lnk
        rw [if_neg (by have := HM.out; omega), HE.out, link_end wh (by rw [← HN.out]; exact Nat.le_refl _)]
      cases wh with
      | true =>
        have HQ := Lib.hid (rev_any dn _ _ _ wr HO.out HLow.out)
        clear hl hA
        go_wp2_with fail
        (with_reducible refine HQ.out.mono ?_); rintro e w2 ⟨rfl, ho2, hb2⟩
        have HO2 := Lib.hid ho2
        have HB2 := Lib.hid hb2
        clear ho2 hb2
        go_wp2_with fail
        refine bodyPost_ret (v := .tuple #[.slice Ao dn.length co, .int .i64 0]) (by simp [results, Tryz.results10, go_sem]) rfl ⟨⟨_, rfl, ?_⟩, HB2.out⟩
        rw [HLN.out]; exact HO2.out
      | false =>
        have hq := total_any l' A' c' wr (by omega) (HT.out.below HLow.out) (hl.below HLow.out) (by omega) (by omega) hA hsm
        rw [← hln] at hq
        have HQ := Lib.hid hq
        clear hq hl hA hsm hln
        go_wp2_with fail
        (with_reducible refine HQ.out.mono ?_); rintro e w2 ⟨rfl, hb2⟩
        have hL2 : Below w.heap.size w w2 := HLow.out.trans (hb2.mono HLow.out.size)
        obtain ⟨A3, c3, w3, hrun, ho3, hL3⟩ := app1 (rootT l') (HO.out.below hb2) (by omega) hL2 hL2.size
        have HR := Lib.hid (rev_any _ _ _ _ w3 ho3 hL3)
        rw [show (dn ++ [rootT l']).length = dn.length + 1 by simp] at HR hrun
        clear hb2 hL2 ho3 hL3 HQ
        go_wp2_with fail
        (with_reducible refine HR.out.mono ?_); rintro e w4 ⟨rfl, ho4, hb4⟩
        have HO4 := Lib.hid ho4
        have HB4 := Lib.hid hb4
        clear ho4 hb4
        go_wp2_with fail
        refine bodyPost_ret (v := .tuple #[.slice A3 (dn.length + 1) c3, .int .i64 0]) (by simp [results, Tryz.results10, go_sem]) rfl ⟨⟨_, rfl, ?_⟩, HB4.out⟩
        rw [HLN.out]
        have h := HO4.out
        rw [List.reverse_append] at h
        exact h

end S
end Go.Proofs.YtejhefmcinohhaaGreatDoor
