/- Disk's law: 'ok', 'contents', 'same'. -/
import Derived.Test.YtopjekdhecikdaaDp
set_option linter.unusedSimpArgs false
set_option linter.unusedVariables false
set_option maxRecDepth 100000
namespace Go.Proofs.Ytopjekdhecikdaa
open Go.RowKit
namespace D

/-- Operations that lie in a slice. -/
def ActsAt (w : World) (A : Option Addr) (l : List AV) : Prop :=
  ∀ i (hi : i < l.length), ∃ b off, A = some ⟨b, off, none⟩ ∧ b < w.heap.size ∧ w.cell? ⟨b, off + i * 6, none⟩ = some (.int .i64 l[i].kind) ∧ w.cell? ⟨b, off + i * 6 + 1, none⟩ = some (.int .i64 l[i].sec) ∧ w.cell? ⟨b, off + i * 6 + 2, none⟩ = some (.int .i64 l[i].byt) ∧
    w.cell? ⟨b, off + i * 6 + 3, none⟩ = some (.string (str l[i].text)) ∧ w.cell? ⟨b, off + i * 6 + 4, none⟩ = some (.bool l[i].odd) ∧ w.cell? ⟨b, off + i * 6 + 5, none⟩ = some (.int .i64 l[i].aft)
theorem ActsAt.below {w w' : World} {A : Option Addr} {l : List AV} (h : ActsAt w A l) (hb : Below w.heap.size w w') : ActsAt w' A l := fun i hi => by
  obtain ⟨b, off, hA, hlt, c0, c1, c2, c3, c4, c5⟩ := h i hi
  obtain ⟨hc, _⟩ := bcell hb
  exact ⟨b, off, hA, Nat.lt_of_lt_of_le hlt hb.size, (hc _ _ hlt).trans c0, (hc _ _ hlt).trans c1, (hc _ _ hlt).trans c2, (hc _ _ hlt).trans c3, (hc _ _ hlt).trans c4, (hc _ _ hlt).trans c5⟩

def okB (l : List AV) : Bool := l.all (fun a => decide (a.text.length ≤ 100)) && decide (l.length ≤ 60)
theorem okB_true {l : List AV} (h : okB l = true) : (∀ a ∈ l, a.text.length ≤ 100) ∧ l.length ≤ 60 := by
  unfold okB at h
  rw [Bool.and_eq_true, List.all_eq_true] at h
  exact ⟨fun a ha => by simpa using h.1 a ha, by simpa using h.2⟩

set_option maxHeartbeats 1000000 in
theorem ok_any (A : Option Addr) (c : Nat) (l : List AV) (w : World) (h : ActsAt w A l) (hl : l.length ≤ 9223372036854775807) :
    Calls Try.prog 12 #[.slice A l.length c] w fun e w' => e = .returned (.bool (okB l)) ∧ w = w' := by
  have H := Lib.hid h
  clear h
  go_enter Try.func12, Try.ntmps12
  go_wp2_with fail
  go_loop [3] (fun i => ∃ k : Nat, k ≤ l.length ∧ i = .int .i64 k ∧ ∀ j (hj : j < l.length), j < k → l[j].text.length ≤ 100) (fun i => l.length - (intOf i).toNat)
  case atStart => exact ⟨0, Nat.zero_le _, rfl, fun j _ hj => absurd hj (by omega)⟩
  case round =>
    obtain ⟨k, hk, rfl, hall⟩ := hrel
    have Hall := Lib.hid hall
    clear hall
    by_cases hlt : k < l.length
    · obtain ⟨b, off, hA, hlt2, c0, c1, c2, c3, c4, c5⟩ := H.out k hlt
      subst hA
      have hs := str_size l[k].text
      by_cases hx : l[k].text.length ≤ 100
      · have hx2 : ¬ (100 : Int) < (l[k].text.length : Int) := by omega
        have Hx := Lib.hid hx
        go_wp2
        go_round
        case rel => exact ⟨k + 1, by omega, by go_num, fun j hj hjk => by
          rcases Nat.lt_or_ge j k with h1 | h1
          · exact Hall.out j hj h1
          · obtain rfl : j = k := by omega
            exact Hx.out⟩
        case measure => simp [intOf]; omega
      · have hx2 : (100 : Int) < (l[k].text.length : Int) := by omega
        go_wp2
        go_ret
        refine ⟨ret_bool ?_, rfl⟩
        symm
        rw [Bool.eq_false_iff]
        intro ho
        exact hx ((okB_true ho).1 _ (List.getElem_mem hlt))
    · obtain rfl : k = l.length := by omega
      go_wp2
      go_ret
      refine ⟨ret_bool ?_, rfl⟩
      have e1 : l.all (fun a => decide (a.text.length ≤ 100)) = true := List.all_eq_true.2 fun a ha => by
        obtain ⟨j, hj, rfl⟩ := List.getElem_of_mem ha
        simpa using Hall.out j hj hj
      unfold okB
      rw [e1, Bool.true_and]
      simp
      omega

/-- Texts that lie in a slice. -/
def StrsAt (w : World) (A : Option Addr) (l : List Tx) : Prop := ∀ i (hi : i < l.length), ∃ b off, A = some ⟨b, off, none⟩ ∧ b < w.heap.size ∧ w.cell? ⟨b, off + i, none⟩ = some (.string (str l[i]))
theorem StrsAt.below {w w' : World} {A : Option Addr} {l : List Tx} (h : StrsAt w A l) (hb : Below w.heap.size w w') : StrsAt w' A l := fun i hi => by
  obtain ⟨b, off, hA, hlt, c0⟩ := h i hi
  exact ⟨b, off, hA, Nat.lt_of_lt_of_le hlt hb.size, ((bcell hb).1 _ _ hlt).trans c0⟩
def sv (l : List Tx) : List Value := l.map fun t => .string (str t)
theorem StrsAt.own {w : World} {B n c : Nat} {A : Option Addr} {l : List Tx} (h : w.ownsRow B 9 1 (.slice A n c) n (sv l)) (hn : l.length = n) : StrsAt w A l := fun i hi => by
  obtain ⟨g, cap, hv, _, hlt⟩ := h.form (by omega)
  injection hv with hA _ hc
  subst hA hc
  refine ⟨g, 0, rfl, hlt, ?_⟩
  rw [Nat.zero_add, h.cellAt _ (by omega)]
  simp [sv, hi]

set_option maxHeartbeats 2000000 in
theorem same_any (A A' : Option Addr) (c c' : Nat) (l m : List Tx) (w : World) (h : StrsAt w A l) (k : StrsAt w A' m) (hl : l.length ≤ 9223372036854775807) (hm : m.length ≤ 9223372036854775807) :
    Calls Try.prog 27 #[.slice A l.length c, .slice A' m.length c'] w fun e w' => e = .returned (.bool (l == m)) ∧ Below w.heap.size w w' := by
  by_cases hlm : l.length = m.length
  · have Hlm := Lib.hid hlm
    have hlm2 : ((l.length : Int) != (m.length : Int)) = false := by rw [hlm]; simp
    have H := Lib.hid h
    have K := Lib.hid k
    clear h k
    rw [hlm] at hlm2 ⊢
    clear hlm
    go_enter Try.func27, Try.ntmps27
    go_wp2_with fail
    go_loopw [5] (fun i wr => ∃ k : Nat, k ≤ m.length ∧ i = .int .i64 k ∧ (∀ j (hj : j < l.length) (hj' : j < m.length), j < k → l[j] = m[j]) ∧ Below w.heap.size w wr) (fun i _ => m.length - (intOf i).toNat)
    case atStart => exact ⟨0, Nat.zero_le _, rfl, fun j _ _ hj => absurd hj (by omega), Below.refl _ _⟩
    case round =>
      obtain ⟨k, hk, rfl, hall, hW⟩ := hrel
      have Hall := Lib.hid hall
      have HW := Lib.hid hW
      clear hall
      by_cases hlt : k < m.length
      · obtain ⟨b, off, hA, hlt1, c1⟩ := (H.out.below hW) k (by have := Hlm.out; omega)
        obtain ⟨b', off', hA', hlt2, c2⟩ := (K.out.below hW) k hlt
        subst hA hA'
        clear hW
        have hki : (k : Int) < (m.length : Int) := by omega
        have hk0 : (0 : Int) ≤ (k : Int) := by omega
        by_cases hx : l[k]'(by have := Hlm.out; omega) = m[k]
        · rw [hx] at c1
          have Hx := Lib.hid hx
          clear hx
          go_wp2_with fail
          refine Reg.wp_region_seq (by kernel_rfl) (by kernel_rfl) ?_
          simp only
          iterate 9
            apply Reg.SeqOK.val
            · intro γ W hW K hK
              obtain ⟨hc, hf, _⟩ := bcell hW
              simp only [Act.put, List.setIfInBounds_toArray, List.set_cons_zero, List.set_cons_succ] at hK
              unfold Reg.Does
              go_simp
              try simp only [IntWalk.i64_left]
              first
                | exact hK _ (Below.refl _ _)
            simp only [Act.put, List.setIfInBounds_toArray, List.set_cons_zero, List.set_cons_succ, List.nil_append, List.cons_append, Nat.reduceAdd, Nat.zero_add]
          refine Reg.SeqOK.nil (by kernel_rfl) (fun γ W hW2 _ _ _ => ?_)
          have HW2 := Lib.hid hW2
          clear hW2
          go_wp2_with fail
          refine ⟨⟨k + 1, by omega, by go_num, fun j hj hj' hjk => ?_, HW.out.trans (HW2.out.mono HW.out.size)⟩, by simp [intOf]; omega⟩
          rcases Nat.lt_or_ge j k with h1 | h1
          · exact Hall.out j hj hj' h1
          · obtain rfl : j = k := by omega
            exact Hx.out
        · have Hx := Lib.hid hx
          generalize hlk : l[k]'(by have := Hlm.out; omega) = x at c1 hx
          generalize hmk : m[k] = y at c2 hx
          have e1 : ((str x).toList == (str y).toList) = false := by rw [str_toList, str_toList]; simpa using hx
          clear hlk hmk hx
          go_wp2_with fail
          refine Reg.wp_region_seq (by kernel_rfl) (by kernel_rfl) ?_
          simp only
          iterate 9
            apply Reg.SeqOK.val
            · intro γ W hW K hK
              obtain ⟨hc, hf, _⟩ := bcell hW
              simp only [Act.put, List.setIfInBounds_toArray, List.set_cons_zero, List.set_cons_succ] at hK
              unfold Reg.Does
              go_simp
              try simp only [IntWalk.i64_left]
              first
                | exact hK _ (Below.refl _ _)
            simp only [Act.put, List.setIfInBounds_toArray, List.set_cons_zero, List.set_cons_succ, List.nil_append, List.cons_append, Nat.reduceAdd, Nat.zero_add]
          refine Reg.SeqOK.nil (by kernel_rfl) (fun γ W hW2 _ _ _ => ?_)
          have HW2 := Lib.hid hW2
          clear hW2
          go_wp2
          go_ret
          refine ⟨ret_bool ?_, HW.out.trans (HW2.out.mono HW.out.size)⟩
          symm
          rw [beq_eq_false_iff_ne]
          rintro rfl
          exact Hx.out rfl
      · obtain rfl : k = m.length := by omega
        clear hW
        go_wp2
        go_ret
        refine ⟨ret_bool ?_, HW.out⟩
        symm
        rw [beq_iff_eq]
        exact List.ext_getElem Hlm.out fun j hj hj' => Hall.out j hj hj' hj'
  · have hlm2 : ((l.length : Int) != (m.length : Int)) = true := by simp; omega
    have Hlm := Lib.hid hlm
    clear h k hlm
    go_enter Try.func27, Try.ntmps27
    go_wp2
    go_ret
    refine ⟨ret_bool ?_, Below.refl _ _⟩
    symm
    rw [beq_eq_false_iff_ne]
    rintro rfl
    exact Hlm.out rfl

theorem own_below {w w' : World} {B : Nat} {e : TypeId} {size n : Nat} {v : Value} {xs : List Value} (h : w.ownsRow B e size v n xs) (hb : Below w.heap.size w w') : w'.ownsRow B e size v n xs := by
  refine ⟨h.1, ?_⟩
  rcases h.2 with hn | ⟨g', cap, cur, e1, hB, hg, rest⟩
  · exact .inl hn
  · exact .inr ⟨g', cap, cur, e1, hB, (hb.block g' (Array.getElem?_eq_some_iff.1 hg).1).trans hg, rest⟩
theorem info_str : (Try.prog.info? 9).map (fun i => (i.zero, i.size, i.bytes)) = some (some (.string ByteArray.empty), 1, 16) := by kernel_rfl

theorem secs_len (n : Nat) (st : Tx) : (secs n st).length = n := by simp [secs]
theorem sv_snoc (l : List Tx) (t : Tx) : sv (l ++ [t]) = sv l ++ [.string (str t)] := by simp [sv]
theorem secs_succ (k : Nat) (st : Tx) : secs (k + 1) st = secs k st ++ [sec st k] := by simp [secs, List.range_succ]

set_option maxHeartbeats 4000000 in
theorem contents_any (w : World) {B g n : Nat} {M : Nat → Prop} {d : Dk} (hd : DiskAt w B M g d) (hf : Fit n d) (ho : d.off = false) :
    Calls Try.prog 22 #[.pointer (some ⟨g, 0, none⟩), .int .i64 n] w fun e w' => ∃ A c, e = .returned (.tuple #[.slice A n c, .bool true]) ∧ w'.ownsRow w.heap.size 9 1 (.slice A n c) n (sv (conts n d)) ∧ Below w.heap.size w w' := by
  obtain ⟨gs, qv, av, h⟩ := hd
  have hn := hf.n
  have H := Lib.hid h
  obtain ⟨i0, hi0, hz0, hz1, hz2⟩ := info_parts info_str
  have Hf := Lib.hid hf
  have Ho := Lib.hid ho
  clear h hf ho
  go_enter Try.func22, Try.ntmps22
  go_wp2_with fail
  go_loopw [6, 7] (fun v i wr => ∃ k : Nat, k ≤ n ∧ i = .int .i64 k ∧ (∃ A c, v = .slice A k c) ∧ wr.ownsRow w.heap.size 9 1 v k (sv (secs k (eff d))) ∧ Below w.heap.size w wr) (fun _ i _ => n - (intOf i).toNat)
  case atStart => exact ⟨0, Nat.zero_le _, rfl, ⟨none, 0, rfl⟩, World.ownsRow_nil _ _ _ _, Below.refl _ _⟩
  case round =>
    obtain ⟨k, hk, rfl, ⟨A, c, rfl⟩, hown, hW⟩ := hrel
    by_cases hlt : k < n
    · have hr := read_any k wr ⟨gs, qv, av, H.out.below hW⟩ Hf.out
      rw [read_on Hf.out.good Ho.out k hlt] at hr
      have hsz : (str (sec (eff d) k)).size = 64 := by rw [str_size, sec_len]; rw [Hf.out.good.eff]; omega
      have HR := Lib.hid hr
      have HW := Lib.hid hW
      have HO := Lib.hid hown
      have Hs := Lib.hid (secs_succ k (eff d))
      generalize sec (eff d) k = x at *
      have hkn : (k : Int) < (n : Int) := by omega
      clear hr hW hown
      go_wp2_with fail
      (with_reducible refine HR.out.mono ?_); rintro e w2 ⟨rfl, hb2⟩
      have HB2 := Lib.hid hb2
      have hO2 := own_below HO.out hb2
      clear hb2
      go_wp2_with (at_builtin; refine wpList_append_lies _ (by rfl) _ _ _ (by rfl) w.heap.size 9 i0 _ 1 16 Try.underlying39 hi0 hz0 hz1 hz2 rfl (by omega) (.slice A k c) k (sv (secs k (eff d))) (by rfl) (hO2.alloc _) ⟨w2.heap.size, 0, none⟩ 1 1 [.string (str x)] (by rfl) (by rfl) (World.news_of_block (cs := #[.string (str x)]) (t := 9) (fr := (0, 0)) (heap_alloc_new w2 _)) (by simp [Value.oneCell']) (by omega) (by unfold maxLen; omega) (by omega) (by have := HB2.out.size; have := HW.out.size; simp; omega) (w2.heap.size + 1) (by simp) ?_; intro gg cap w3 hown1 hgrow hat hlt3)
      have hbw : Below w.heap.size w w3 := ((HW.out.trans (HB2.out.mono HW.out.size)).alloc (Nat.le_trans HW.out.size HB2.out.size) _).grown hgrow (by have := HB2.out.size; have := HW.out.size; simp; omega) (fun j hj => (HO.out.lt j hj).1)
      refine ⟨⟨k + 1, by omega, by go_num, ⟨_, _, rfl⟩, ?_, hbw⟩, by simp [intOf]; omega⟩
      rw [Hs.out, sv_snoc]
      exact hown1
    · obtain rfl : k = n := by omega
      have HO := Lib.hid hown
      have HW := Lib.hid hW
      clear hown hW
      go_wp2
      go_ret2
      exact ⟨A, c, rfl, HO.out, HW.out⟩

theorem same_rows {A A' : Option Addr} {n c c' B B' : Nat} {l m : List Tx} {w : World} (h : w.ownsRow B 9 1 (.slice A n c) n (sv l)) (k : w.ownsRow B' 9 1 (.slice A' n c') n (sv m)) (hl : l.length = n) (hm : m.length = n) (hn : n ≤ 9223372036854775807) :
    Calls Try.prog 27 #[.slice A n c, .slice A' n c'] w fun e w' => e = .returned (.bool (l == m)) ∧ Below w.heap.size w w' := by
  have q := same_any A A' c c' l m w (StrsAt.own h hl) (StrsAt.own k hm) (by omega) (by omega)
  rw [hl, hm] at q
  exact q

end D
end Go.Proofs.Ytopjekdhecikdaa
