/- Numbers as lists of binary digits: 'minus'. -/
import Derived.Test.YtjeapimjgojpoaaJc
set_option linter.unusedSimpArgs false
set_option linter.unusedVariables false
set_option maxRecDepth 100000
namespace Go.Proofs.Ytjeapimjgojpoaa
open Go.RowKit
namespace G

theorem val_take (l : List Nat) (k : Nat) : valD (l.take (k + 1)) = valD (l.take k) + 2 ^ k * dg l k := by
  by_cases hk : k < l.length
  · rw [List.take_add_one, List.getElem?_eq_getElem hk, val_app, dg_get hk]
    simp [valD, Nat.min_eq_left (Nat.le_of_lt hk)]
  · rw [List.take_of_length_le (by omega), List.take_of_length_le (by omega)]
    unfold dg
    rw [List.getElem?_eq_none (by omega)]
    simp
theorem dg_le {l : List Nat} (h : allD l) (k : Nat) : dg l k ≤ 1 := by
  by_cases hk : k < l.length
  · rw [dg_get hk]; exact h _ (List.getElem_mem hk)
  · unfold dg; rw [List.getElem?_eq_none (by omega)]; simp
theorem all_snoc {l : List Nat} (h : allD l) {x : Nat} (hx : x ≤ 1) : allD (l ++ [x]) := fun d hd => by
  rcases List.mem_append.1 hd with hd | hd
  · exact h d hd
  · obtain rfl := List.mem_singleton.1 hd; exact hx
/-- The state of a subtraction behind some digits. -/
structure MinN (a b L : List Nat) (k β : Nat) : Prop where
  len : L.length = k
  all : allD L
  bor : β ≤ 1
  val : valD L + valD (b.take k) = valD (a.take k) + 2 ^ k * β
theorem MinN.zero (a b : List Nat) : MinN a b [] 0 0 := ⟨rfl, fun d hd => by simp at hd, by omega, by simp [valD]⟩
theorem MinN.step {a b L : List Nat} {k β : Nat} (h : MinN a b L k β) {e β' : Nat} (he : e ≤ 1) (hb : β' ≤ 1) (hs : β + e + dg b k = dg a k + 2 * β') : MinN a b (L ++ [e]) (k + 1) β' := by
  refine ⟨by simp [h.len], all_snoc h.all he, hb, ?_⟩
  rw [val_app, val_take, val_take, h.len]
  have h1 := h.val
  have h2 : 2 ^ k * (β + e + dg b k) = 2 ^ k * (dg a k + 2 * β') := by rw [hs]
  have h3 : 2 ^ (k + 1) * β' = 2 ^ k * (2 * β') := by rw [Nat.pow_succ, Nat.mul_assoc]
  simp only [Nat.mul_add] at h2
  simp only [valD, Nat.mul_zero, Nat.add_zero]
  omega
theorem MinN.fin {m n : Nat} (hmn : n ≤ m) {L : List Nat} {β : Nat} (h : MinN (bitsOf m) (bitsOf n) L (bitsOf m).length β) : valD L = m - n := by
  have h1 := h.val
  have hle : (bitsOf n).length ≤ (bitsOf m).length := by
    rcases Nat.lt_or_ge (bitsOf m).length (bitsOf n).length with hh | hh
    · have := bits_less hh; omega
    · exact hh
  rw [List.take_length, List.take_of_length_le hle, val_bits, val_bits] at h1
  have h2 := val_lt h.all
  rw [h.len] at h2
  have h3 := h.bor
  rcases (by omega : β = 0 ∨ β = 1) with h0 | h0
  · subst h0; omega
  · subst h0; omega

attribute [local go_sem ↓ high] Ap.builtin_appA in
set_option maxHeartbeats 8000000 in
theorem minus_any (A B : Option Addr) (c d m n : Nat) (w : World) (h : DigAt w A c (bitsOf m)) (h' : DigAt w B d (bitsOf n)) (hmn : n ≤ m) (hlen : (bitsOf m).length ≤ 1000) :
    Calls Try.prog 77 #[.slice A (bitsOf m).length c, .slice B (bitsOf n).length d] w fun e w' => (∃ A' c', e = .returned (.slice A' (bitsOf (m - n)).length c') ∧ DigAt w' A' c' (bitsOf (m - n))) ∧ Below w.heap.size w w' := by
  have HH := Lib.hid (And.intro h h')
  have HFin : Hid (∀ L β, MinN (bitsOf m) (bitsOf n) L (bitsOf m).length β → valD L = m - n) := fun L β h => h.fin hmn
  have HAa := Lib.hid (And.intro (dg_le (all_bits m)) (dg_le (all_bits n)))
  generalize m - n = R at *
  generalize bitsOf m = a at *
  generalize bitsOf n = b at *
  have HLen := Lib.hid hlen
  clear h h' hmn
  go_enter Try.func77, Try.ntmps77
  go_wp2_with fail
  go_loopw [5, 6, 7, 8] (fun v br i _ wr => ∃ (k β : Nat) (L : List Nat) (A' : Option Addr) (c' : Nat), k ≤ a.length ∧ i = .int .i64 k ∧ br = .int .i64 β ∧ v = .slice A' L.length c' ∧ MinN a b L k β ∧ OwnD w.heap.size wr (.slice A' L.length c') L ∧ Below w.heap.size w wr) (fun _ _ i _ _ => a.length - (intOf i).toNat)
  case atStart => exact ⟨0, 0, [], none, 0, by omega, rfl, rfl, rfl, MinN.zero a b, OwnD.nil _ _, Below.refl _ _⟩
  case round =>
    obtain ⟨k, β, L, A', c', hk, rfl, rfl, rfl, hM, ho, hbw⟩ := hrel
    have HM := Lib.hid hM
    have HO := Lib.hid ho
    have HB := Lib.hid hbw
    have HLk := Lib.hid hM.len
    have hβ := hM.bor
    clear hM ho hbw
    by_cases hlt : k < a.length
    · obtain ⟨b1, o1, hA, hb1, c0⟩ := (HH.out.1.below HB.out).cells k hlt
      subst hA
      have hx := HAa.out.1 k
      have hy := HAa.out.2 k
      have HStep : Hid (∀ e β', e ≤ 1 → β' ≤ 1 → β + e + dg b k = dg a k + 2 * β' → MinN a b (L ++ [e]) (k + 1) β') := fun e β' h1 h2 h3 => HM.out.step h1 h2 h3
      have hk0 : (0 : Int) ≤ (k : Int) := by omega
      have hkl : (k : Int) < (a.length : Int) := by omega
      have hwk : IntKind.i64.wrap ((k : Int) + 1) = ((k + 1 : Nat) : Int) := i64_in _ (by omega) (by omega)
      have hcell : k < b.length → ∃ b2 o2, B = some ⟨b2, o2, none⟩ ∧ b2 < wr.heap.size ∧ wr.cell? ⟨b2, o2 + k, none⟩ = some (.int .i64 (dg b k : Nat)) := (HH.out.2.below HB.out).cells k
      have hzero : ¬ k < b.length → dg b k = 0 := fun hh => by unfold dg; rw [List.getElem?_eq_none (by omega)]; rfl
      generalize dg a k = x at *
      generalize dg b k = y at *
      have hw1 : wrap64 ((x : Int) - (β : Int)) = (x : Int) - (β : Int) := IntWalk.wrap64_in _ (by omega)
      have hw2 : wrap64 ((x : Int) - (β : Int) - (y : Int)) = (x : Int) - (β : Int) - (y : Int) := IntWalk.wrap64_in _ (by omega)
      have hw3 : wrap64 ((x : Int) - (β : Int) - (y : Int) + 2) = (x : Int) - (β : Int) - (y : Int) + 2 := IntWalk.wrap64_in _ (by omega)
      have hw4 : wrap64 ((x : Int) - (β : Int) + 2) = (x : Int) - (β : Int) + 2 := IntWalk.wrap64_in _ (by omega)
      by_cases hkb : k < b.length
      · obtain ⟨b2, o2, hB, hb2, d0⟩ := hcell hkb
        subst hB
        have hkbi : (k : Int) < (b.length : Int) := by omega
        by_cases hneg : (x : Int) - (β : Int) - (y : Int) < 0
        · skip
          obtain ⟨e, he⟩ : ∃ e : Nat, (e : Int) = (x : Int) - (β : Int) - (y : Int) + 2 := ⟨((x : Int) - (β : Int) - (y : Int) + 2).toNat, by omega⟩
          have hms := HStep.out e 1 (by omega) (by omega) (by omega)
          obtain ⟨A3, c3, w3, hrun, ho3, hL3⟩ := app1D e HO.out (by have := HLk.out; have := HLen.out; omega) HB.out HB.out.size
          rw [he, show (L ++ [e]).length = L.length + 1 by simp] at hrun
          have HLV : Hid ((L ++ [e]).length = L.length + 1) := by unfold Hid; simp
          have HO3 := Lib.hid ho3
          have HL3 := Lib.hid hL3
          have HMS := Lib.hid hms
          clear ho3 hL3 hms hcell hzero HStep
          go_wp2_with fail
          exact ⟨⟨k + 1, 1, L ++ [e], A3, c3, by omega, rfl, rfl, by rw [HLV.out], HMS.out, HO3.out, HL3.out⟩, by simp [intOf]; omega⟩
        · have hnn : decide ((x : Int) - (β : Int) - (y : Int) < 0) = false := decide_eq_false hneg
          obtain ⟨e, he⟩ : ∃ e : Nat, (e : Int) = (x : Int) - (β : Int) - (y : Int) := ⟨((x : Int) - (β : Int) - (y : Int)).toNat, by omega⟩
          have hms := HStep.out e 0 (by omega) (by omega) (by omega)
          obtain ⟨A3, c3, w3, hrun, ho3, hL3⟩ := app1D e HO.out (by have := HLk.out; have := HLen.out; omega) HB.out HB.out.size
          rw [he, show (L ++ [e]).length = L.length + 1 by simp] at hrun
          have HLV : Hid ((L ++ [e]).length = L.length + 1) := by unfold Hid; simp
          have HO3 := Lib.hid ho3
          have HL3 := Lib.hid hL3
          have HMS := Lib.hid hms
          clear ho3 hL3 hms hcell hzero HStep
          go_wp2_with fail
          exact ⟨⟨k + 1, 0, L ++ [e], A3, c3, by omega, rfl, rfl, by rw [HLV.out], HMS.out, HO3.out, HL3.out⟩, by simp [intOf]; omega⟩
      · have hy0 := hzero hkb
        subst hy0
        have hkbi : ¬ (k : Int) < (b.length : Int) := by omega
        clear hw2 hw3
        by_cases hneg : (x : Int) - (β : Int) < 0
        · skip
          obtain ⟨e, he⟩ : ∃ e : Nat, (e : Int) = (x : Int) - (β : Int) + 2 := ⟨((x : Int) - (β : Int) + 2).toNat, by omega⟩
          have hms := HStep.out e 1 (by omega) (by omega) (by omega)
          obtain ⟨A3, c3, w3, hrun, ho3, hL3⟩ := app1D e HO.out (by have := HLk.out; have := HLen.out; omega) HB.out HB.out.size
          rw [he, show (L ++ [e]).length = L.length + 1 by simp] at hrun
          have HLV : Hid ((L ++ [e]).length = L.length + 1) := by unfold Hid; simp
          have HO3 := Lib.hid ho3
          have HL3 := Lib.hid hL3
          have HMS := Lib.hid hms
          clear ho3 hL3 hms hcell hzero HStep
          go_wp2_with fail
          exact ⟨⟨k + 1, 1, L ++ [e], A3, c3, by omega, rfl, rfl, by rw [HLV.out], HMS.out, HO3.out, HL3.out⟩, by simp [intOf]; omega⟩
        · have hnn : decide ((x : Int) - (β : Int) < 0) = false := decide_eq_false hneg
          obtain ⟨e, he⟩ : ∃ e : Nat, (e : Int) = (x : Int) - (β : Int) := ⟨((x : Int) - (β : Int)).toNat, by omega⟩
          have hms := HStep.out e 0 (by omega) (by omega) (by omega)
          obtain ⟨A3, c3, w3, hrun, ho3, hL3⟩ := app1D e HO.out (by have := HLk.out; have := HLen.out; omega) HB.out HB.out.size
          rw [he, show (L ++ [e]).length = L.length + 1 by simp] at hrun
          have HLV : Hid ((L ++ [e]).length = L.length + 1) := by unfold Hid; simp
          have HO3 := Lib.hid ho3
          have HL3 := Lib.hid hL3
          have HMS := Lib.hid hms
          clear ho3 hL3 hms hcell hzero HStep
          go_wp2_with fail
          exact ⟨⟨k + 1, 0, L ++ [e], A3, c3, by omega, rfl, rfl, by rw [HLV.out], HMS.out, HO3.out, HL3.out⟩, by simp [intOf]; omega⟩
    · obtain rfl : k = a.length := by omega
      have hval := HFin.out L β HM.out
      have HTR := Lib.hid (fun W (h : DigAt W A' c' L) (ha : allD L) => trimD_any A' c' L W h ha)
      rw [hval] at HTR
      have HD : Hid (DigAt wr A' c' L ∧ allD L) := ⟨HO.out.dig, HM.out.all⟩
      clear hval HFin
      go_wp2_with fail
      (with_reducible refine (HTR.out _ HD.out.1 HD.out.2).mono ?_); rintro e w2 ⟨rfl, hd2, hb2⟩
      have HB2 := Lib.hid (HB.out.trans (hb2.mono HB.out.size))
      have HD2 := Lib.hid hd2
      clear hb2 hd2
      go_wp2_with fail
      go_ret
      exact ⟨⟨_, _, rfl, HD2.out⟩, HB2.out⟩

end G
end Go.Proofs.Ytjeapimjgojpoaa
