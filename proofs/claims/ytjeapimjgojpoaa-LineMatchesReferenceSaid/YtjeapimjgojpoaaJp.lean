/- Numbers as lists of binary digits: 'times'. -/
import Derived.Test.YtjeapimjgojpoaaJg
set_option linter.unusedSimpArgs false
set_option linter.unusedVariables false
set_option maxRecDepth 100000
namespace Go.Proofs.Ytjeapimjgojpoaa
open Go.RowKit
namespace G

theorem dg_cons (d : Nat) (l : List Nat) (j : Nat) : dg (d :: l) (j + 1) = dg l j := by unfold dg; rw [List.getElem?_cons_succ]
theorem val_set : ∀ (l : List Nat) (j e : Nat), j < l.length → valD (l.set j e) + 2 ^ j * dg l j = valD l + 2 ^ j * e
  | [], j, e, h => by simp at h
  | d :: l, 0, e, h => by
    have e1 : dg (d :: l) 0 = d := rfl
    rw [e1, List.set_cons_zero, valD, valD]
    omega
  | d :: l, j + 1, e, h => by
    have h1 := val_set l j e (by simpa using h)
    rw [dg_cons, List.set_cons_succ, valD, valD, Nat.pow_succ, Nat.mul_comm (2 ^ j) 2, Nat.mul_assoc, Nat.mul_assoc]
    omega
theorem all_set {l : List Nat} (h : allD l) {e : Nat} (he : e ≤ 1) (j : Nat) : allD (l.set j e) := fun d hd => by
  rcases List.mem_or_eq_of_mem_set hd with h1 | rfl
  · exact h d h1
  · exact he
/-- The state of a product behind some digits. -/
structure MulN (a b L : List Nat) (N i k γ : Nat) : Prop where
  len : L.length = N
  all : allD L
  car : γ ≤ 1
  val : valD L + 2 ^ (i + k) * γ = valD (a.take i) * valD b + 2 ^ i * valD (b.take k)
theorem val_zeros : ∀ n, valD (List.replicate n 0) = 0
  | 0 => rfl
  | n + 1 => by rw [List.replicate_succ, valD, val_zeros n]
theorem MulN.zero (a b : List Nat) (N : Nat) : MulN a b (List.replicate N 0) N 0 0 0 := ⟨by simp, fun d hd => by have := List.eq_of_mem_replicate hd; omega, by omega, by rw [val_zeros]; simp [valD]⟩
theorem MulN.step {a b L : List Nat} {N i k γ : Nat} (h : MulN a b L N i k γ) (hk : i + k < N) {t : Nat} (ht : t = γ + dg L (i + k) + dg b k) (hb : dg b k ≤ 1) : MulN a b (L.set (i + k) (t % 2)) N i (k + 1) (t / 2) := by
  have hx := dg_le h.all (i + k)
  have hc := h.car
  refine ⟨by rw [List.length_set, h.len], all_set h.all (by omega) _, by omega, ?_⟩
  have h1 := val_set L (i + k) (t % 2) (by rw [h.len]; exact hk)
  have h2 : 2 ^ (i + (k + 1)) * (t / 2) = 2 ^ (i + k) * (2 * (t / 2)) := by rw [← Nat.add_assoc, Nat.pow_succ, Nat.mul_assoc]
  have h3 : 2 ^ (i + k) * t = 2 ^ (i + k) * (t % 2) + 2 ^ (i + k) * (2 * (t / 2)) := by rw [← Nat.mul_add, Nat.mod_add_div]
  have h4 : 2 ^ (i + k) * t = 2 ^ (i + k) * γ + 2 ^ (i + k) * dg L (i + k) + 2 ^ (i + k) * dg b k := by rw [ht, Nat.mul_add, Nat.mul_add]
  have h5 : 2 ^ i * valD (b.take (k + 1)) = 2 ^ i * valD (b.take k) + 2 ^ (i + k) * dg b k := by rw [val_take, Nat.mul_add, ← Nat.mul_assoc, ← Nat.pow_add]
  have h6 := h.val
  rw [h2, h5]
  omega
theorem MulN.skip {a b L : List Nat} {N i : Nat} (h : MulN a b L N i 0 0) (hz : dg a i = 0) : MulN a b L N (i + 1) 0 0 := by
  refine ⟨h.len, h.all, by omega, ?_⟩
  have h1 := h.val
  rw [val_take, hz]
  simpa [valD] using h1
theorem MulN.next {a b L : List Nat} {N i k γ : Nat} (h : MulN a b L N i k γ) (ha : allD a) (hb : allD b) (hi : i < a.length) (hz : dg a i = 1) (hN : N = a.length + b.length + 1) (hk : i + k = N) : MulN a b L N (i + 1) 0 0 := by
  have h1 := h.val
  have hbk : b.take k = b := List.take_of_length_le (by omega)
  have h2 : valD (a.take (i + 1)) * valD b = valD (a.take i) * valD b + 2 ^ i * valD b := by rw [val_take, hz, Nat.mul_one, Nat.add_mul]
  have h3 := val_lt (all_take ha (i + 1))
  have h4 := val_lt hb
  have h5 : (a.take (i + 1)).length ≤ a.length := by rw [List.length_take]; omega
  have h6 : 2 ^ (a.take (i + 1)).length ≤ 2 ^ a.length := Nat.pow_le_pow_right (by omega) h5
  have h7 : valD (a.take (i + 1)) * valD b < 2 ^ N := by
    have h8 : valD (a.take (i + 1)) * valD b ≤ 2 ^ a.length * 2 ^ b.length := Nat.mul_le_mul (by omega) (by omega)
    rw [← Nat.pow_add] at h8
    have h9 : 2 ^ (a.length + b.length) < 2 ^ N := Nat.pow_lt_pow_right (by omega) (by omega)
    omega
  rw [hbk, hk] at h1
  have h8 : γ = 0 := by
    have := h.car
    rcases (by omega : γ = 0 ∨ γ = 1) with e | e
    · exact e
    · subst e; omega
  subst h8
  refine ⟨h.len, h.all, by omega, ?_⟩
  simp only [Nat.mul_zero, Nat.add_zero, List.take_zero, valD] at h1 ⊢
  omega
theorem blk_dig {w : World} {g : Nat} {L : List Nat} (h : Reg.Blk g (dv L).toArray 3 w) (hn : L.length ≤ 4000) : DigAt w (some ⟨g, 0, none⟩) L.length L := by
  obtain ⟨c, f, z⟩ := h.facts
  refine ⟨fun i hi => ⟨g, 0, rfl, z, ?_⟩, Nat.le_refl _, by omega, fun e => by cases e⟩
  rw [Nat.zero_add, dg_get hi]
  refine (c i).trans ?_
  simp [dv, List.getElem?_eq_getElem hi]
theorem dv_set (L : List Nat) (j e : Nat) : (dv L).toArray.setIfInBounds j (.int .i64 (e : Nat)) = (dv (L.set j e)).toArray := by
  simp [dv, List.map_set]

attribute [local go_sem ↓ high] Ap.builtin_appA in
set_option maxHeartbeats 16000000 in
theorem rtimes_any (A B : Option Addr) (c d m n : Nat) (w : World) (h : DigAt w A c (bitsOf m)) (h' : DigAt w B d (bitsOf n)) (hm : (bitsOf m).length ≤ 100) (hn : (bitsOf n).length ≤ 100) :
    Calls Try.prog 62 #[.slice A (bitsOf m).length c, .slice B (bitsOf n).length d] w fun e w' => (∃ A' c', e = .returned (.slice A' (bitsOf (m * n)).length c') ∧ DigAt w' A' c' (bitsOf (m * n))) ∧ Below w.heap.size w w' := by
  have HH := Lib.hid (And.intro h h')
  have HFin : Hid (∀ L N, MulN (bitsOf m) (bitsOf n) L N (bitsOf m).length 0 0 → valD L = m * n) := fun L N h => by
    have h1 := h.val
    rw [List.take_length, val_bits, val_bits] at h1
    simpa [valD] using h1
  have HAa := Lib.hid (And.intro (all_bits m) (all_bits n))
  generalize m * n = R at *
  generalize bitsOf m = a at *
  generalize bitsOf n = b at *
  have HLen := Lib.hid (And.intro hm hn)
  obtain ⟨N, hN⟩ : ∃ N, N = a.length + b.length + 1 := ⟨_, rfl⟩
  have HN := Lib.hid hN
  have hmk := make_ints N (by omega)
  have hNe : (N : Int) = (a.length : Int) + (b.length : Int) + 1 := by omega
  rw [hNe] at hmk
  clear h h' hN hNe
  go_enter Try.func62, Try.ntmps62
  go_wp2_with fail
  clear hmk
  go_loopw [6] (fun x wr => ∃ (i : Nat) (L : List Nat), i ≤ a.length ∧ x = .int .i64 i ∧ MulN a b L N i 0 0 ∧ Reg.Blk w.heap.size (dv L).toArray 3 wr ∧ Below w.heap.size w wr) (fun x _ => a.length - (intOf x).toNat)
  case atStart => exact ⟨0, List.replicate N 0, Nat.zero_le _, rfl, MulN.zero a b N, Reg.Blk.new w _ _, (Below.refl _ _).alloc (Nat.le_refl _) _⟩
  case round =>
    obtain ⟨i, L, hi, rfl, hM, hblk, hbw⟩ := hrel
    have HM := Lib.hid hM
    have HK := Lib.hid hblk
    have HB := Lib.hid hbw
    clear hM hblk hbw
    by_cases hlt : i < a.length
    · obtain ⟨b1, o1, hA, hb1, c0⟩ := (HH.out.1.below HB.out).cells i hlt
      subst hA
      have hi0 : (0 : Int) ≤ (i : Int) := by omega
      have hil : (i : Int) < (a.length : Int) := by omega
      have hx1 := dg_le HAa.out.1 i
      have hna : a.length ≤ 100 := HLen.out.1
      have hnb : b.length ≤ 100 := HLen.out.2
      have HSk : Hid (dg a i = 0 → MulN a b L N (i + 1) 0 0) := fun h => HM.out.skip h
      have HNx : Hid (dg a i = 1 → ∀ L k γ, MulN a b L N i k γ → i + k = N → MulN a b L N (i + 1) 0 0) := fun h L k γ hm hk => hm.next HAa.out.1 HAa.out.2 hlt h HN.out hk
      generalize dg a i = x at *
      by_cases hz : x = 0
      · subst hz
        go_wp2_with fail
        exact ⟨⟨i + 1, L, hlt, rfl, HSk.out rfl, HK.out, HB.out⟩, by simp [intOf]; omega⟩
      · obtain rfl : x = 1 := by omega
        go_wp2_with fail
        go_loopw [7, 8] (fun y z wr => ∃ (k γ : Nat) (L : List Nat), i + k ≤ N ∧ y = .int .i64 γ ∧ z = .int .i64 k ∧ MulN a b L N i k γ ∧ Reg.Blk w.heap.size (dv L).toArray 3 wr ∧ Below w.heap.size w wr) (fun _ z _ => N - (intOf z).toNat)
        case atStart => exact ⟨0, 0, L, by have := HN.out; omega, rfl, rfl, HM.out, HK.out, HB.out⟩
        case round =>
          clear HM HK HB c0 hb1
          obtain ⟨k, γ, L', hk, rfl, rfl, hM, hblk, hbw⟩ := hrel
          have HM := Lib.hid hM
          have HB := Lib.hid hbw
          have hγ := hM.car
          have HK := Lib.hid hblk
          have hlen := hM.len
          have hN9 : N ≤ 300 := by have := HN.out; omega
          clear hM hblk hbw
          by_cases hlt2 : i + k < N
          · have hjl : i + k < L'.length := by omega
            have hu1 := dg_le HM.out.all (i + k)
            have hy1 := dg_le HAa.out.2 k
            obtain ⟨t, ht⟩ : ∃ t, t = γ + dg L' (i + k) + dg b k := ⟨_, rfl⟩
            have hst := HM.out.step hlt2 (t := t) (by rw [ht]) hy1
            have HSt := Lib.hid hst
            have hcell := blk_dig (HK.out) (by rw [hlen]; omega)
            obtain ⟨g2, o2, e2, hg2, c2⟩ := hcell.cells (i + k) hjl
            simp only [Option.some.injEq, Addr.mk.injEq, and_true] at e2
            obtain ⟨rfl, rfl⟩ := e2
            rw [Nat.zero_add] at c2
            have hbc : k < b.length → ∃ b3 o3, B = some ⟨b3, o3, none⟩ ∧ b3 < wr.heap.size ∧ wr.cell? ⟨b3, o3 + k, none⟩ = some (.int .i64 (dg b k : Nat)) := (HH.out.2.below HB.out).cells k
            have hbz : ¬ k < b.length → dg b k = 0 := fun hh => by unfold dg; rw [List.getElem?_eq_none (by omega)]; rfl
            have hset := ((Reg.Upd.refl HK.out).set (i + k) (.int .i64 ((t % 2 : Nat) : Int))).at_
            rw [dv_set] at hset
            have HSet := Lib.hid hset
            have HBs := Lib.hid (HB.out.setCell (p := ⟨w.heap.size, i + k, none⟩) (Nat.le_refl _) (.int .i64 ((t % 2 : Nat) : Int)))
            have hm2 : Int.tmod (t : Int) 2 = ((t % 2 : Nat) : Int) := rfl
            have hd2 : Int.tdiv (t : Int) 2 = ((t / 2 : Nat) : Int) := rfl
            generalize dg L' (i + k) = u at *
            generalize dg b k = y at *
            have hji : decide ((i : Int) + (k : Int) < (N : Int)) = true := decide_eq_true (by omega)
            have hj0 : (0 : Int) ≤ (i : Int) + (k : Int) := by omega
            have hjN : (i : Int) + (k : Int) < (N : Int) := by omega
            have hfz := (Reg.Blk.facts HK.out).2.1 (i + k)
            by_cases hkb : k < b.length
            · obtain ⟨b3, o3, hB, hb3, c3⟩ := hbc hkb
              subst hB
              have hkbi : decide ((k : Int) < (b.length : Int)) = true := decide_eq_true (by omega)
              have hkb0 : (0 : Int) ≤ (k : Int) := by omega
              have hkbl : (k : Int) < (b.length : Int) := by omega
              clear hbc hbz
              go_wp2_with fail
              have e1 : ((γ : Int) + (u : Int) + (y : Int)) / 2 = ((t / 2 : Nat) : Int) := by omega
              have e2 : ((γ : Int) + (u : Int) + (y : Int)) % 2 = ((t % 2 : Nat) : Int) := by omega
              rw [e1, e2]
              exact ⟨⟨k + 1, t / 2, L'.set (i + k) (t % 2), by omega, rfl, rfl, HSt.out, HSet.out, HBs.out⟩, by simp [intOf]; omega⟩
            · have hy0 := hbz hkb
              subst hy0
              have hkbi : decide ((k : Int) < (b.length : Int)) = false := decide_eq_false (by omega)
              clear hbc hbz
              go_wp2_with fail
              have e1 : ((γ : Int) + (u : Int)) / 2 = ((t / 2 : Nat) : Int) := by omega
              have e2 : ((γ : Int) + (u : Int)) % 2 = ((t % 2 : Nat) : Int) := by omega
              rw [e1, e2]
              exact ⟨⟨k + 1, t / 2, L'.set (i + k) (t % 2), by omega, rfl, rfl, HSt.out, HSet.out, HBs.out⟩, by simp [intOf]; omega⟩
          · have hji : decide ((i : Int) + (k : Int) < (N : Int)) = false := decide_eq_false (by omega)
            have hfin := HNx.out trivial L' k γ HM.out (by omega)
            have HF := Lib.hid hfin
            clear hfin
            go_wp2_with fail
            exact ⟨⟨i + 1, L', hlt, rfl, HF.out, HK.out, HB.out⟩, by simp [intOf]; omega⟩
    · obtain rfl : i = a.length := by omega
      have hv := HFin.out L N HM.out
      have hlen := HM.out.len
      have hN9 : N ≤ 300 := by have := HN.out; have := HLen.out; omega
      have hD := blk_dig HK.out (by omega)
      have hT := trimD_any _ _ _ _ hD HM.out.all
      rw [hv, hlen] at hT
      have HT := Lib.hid hT
      clear hv hT hD hlen
      go_wp2_with fail
      (with_reducible refine HT.out.mono ?_); rintro e w2 ⟨rfl, hd, hb⟩
      have HD := Lib.hid hd
      have HB2 := Lib.hid (HB.out.trans (hb.mono HB.out.size))
      clear hd hb
      go_wp2_with fail
      go_ret
      exact ⟨⟨_, _, rfl, HD.out⟩, HB2.out⟩
theorem timesV {w : World} {x y : Value} {m n : Nat} (hx : NumV w x m) (hy : NumV w y n) (hm : (bitsOf m).length ≤ 100) (hn : (bitsOf n).length ≤ 100) :
    Calls Try.prog 62 #[x, y] w fun e w' => (∃ v, e = .returned v ∧ NumV w' v (m * n)) ∧ Below w.heap.size w w' := by
  obtain ⟨A, c, rfl, hx⟩ := hx
  obtain ⟨B, d, rfl, hy⟩ := hy
  refine (rtimes_any A B c d m n w hx hy hm hn).mono ?_
  rintro e w' ⟨⟨A', c', rfl, h⟩, hb⟩
  exact ⟨⟨_, rfl, A', c', rfl, h⟩, hb⟩

end G
end Go.Proofs.Ytjeapimjgojpoaa
