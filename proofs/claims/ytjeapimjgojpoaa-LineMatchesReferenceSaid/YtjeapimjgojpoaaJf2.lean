/- Numbers as lists of binary digits: the walk of 'divisor'. -/
import Derived.Test.YtjeapimjgojpoaaJe
set_option linter.unusedSimpArgs false
set_option linter.unusedVariables false
set_option maxRecDepth 100000
namespace Go.Proofs.Ytjeapimjgojpoaa
open Go.RowKit
namespace G

/-- A number in a slot. -/
def NumV (w : World) (v : Value) (n : Nat) : Prop := ∃ A c, v = .slice A (bitsOf n).length c ∧ DigAt w A c (bitsOf n)
theorem NumV.below {w w' : World} {v : Value} {n : Nat} (h : NumV w v n) (hb : Below w.heap.size w w') : NumV w' v n := by
  obtain ⟨A, c, e, h⟩ := h
  exact ⟨A, c, e, h.below hb⟩
theorem NumV.pos {w : World} {v : Value} {n : Nat} (h : NumV w v n) (hn : n ≠ 0) : ∃ b off c, v = .slice (some ⟨b, off, none⟩) ((bitsOf (n / 2)).length + 1) c ∧ (bitsOf (n / 2)).length + 1 ≤ c ∧ c ≤ 9223372036854775807 ∧ b < w.heap.size ∧ w.cell? ⟨b, off, none⟩ = some (.int .i64 (n % 2 : Nat)) ∧
    NumV w (.slice (if c = 1 then some ⟨b, off, none⟩ else some ⟨b, off + 1, none⟩) (bitsOf (n / 2)).length (c - 1)) (n / 2) := by
  obtain ⟨A, c, rfl, h⟩ := h
  have hl := bits_len_pos hn
  obtain ⟨b, off, rfl, hb, c0⟩ := h.cells 0 (by omega)
  rw [bits_dg0 hn] at c0
  exact ⟨b, off, c, by rw [hl], by have := h.cap; omega, h.most, hb, c0, _, _, rfl, h.tail hn⟩


theorem bits_eq {w : World} {A : Option Addr} {c m n : Nat} (h : DigAt w A c (bitsOf m)) (k : DigAt w A c (bitsOf n)) (hl : (bitsOf m).length = (bitsOf n).length) : m = n := by
  have e : bitsOf m = bitsOf n := by
    apply List.ext_getElem hl
    intro i hi hj
    obtain ⟨b, off, e1, _, c1⟩ := h.cells i hi
    obtain ⟨b', off', e2, _, c2⟩ := k.cells i hj
    rw [e1] at e2
    injection e2 with e2
    injection e2 with e2 e3
    subst e2 e3
    rw [c1] at c2
    simp only [Option.some.injEq, Value.int.injEq, true_and] at c2
    rw [dg_get hi, dg_get hj] at c2
    omega
  have := val_bits m
  rw [e, val_bits] at this
  exact this.symm
theorem NumV.inj {w : World} {v : Value} {m n : Nat} (h : NumV w v m) (k : NumV w v n) : m = n := by
  obtain ⟨A, c, e, h⟩ := h
  obtain ⟨A', c', e', k⟩ := k
  rw [e] at e'
  injection e' with e1 e2 e3
  subst e1 e3
  exact bits_eq h k (by omega)
open Classical in
/-- The number in a slot. -/
noncomputable def numOf (w : World) (v : Value) : Nat := if h : ∃ n, NumV w v n then h.choose else 0
theorem NumV.num {w : World} {v : Value} {n : Nat} (h : NumV w v n) : numOf w v = n := by
  unfold numOf
  rw [dif_pos ⟨n, h⟩]
  exact NumV.inj (Exists.choose_spec (⟨n, h⟩ : ∃ n, NumV w v n)) h
theorem DigAt.src {w : World} {A : Option Addr} {c : Nat} {l : List Nat} (h : DigAt w A c l) : Ap.SrcAt w A 1 l.length (dv l) := ⟨by simp [dv], dv_one l, fun j u hu => by
  unfold dv at hu
  rw [List.getElem?_map] at hu
  obtain ⟨d, hd, rfl⟩ := Option.map_eq_some_iff.1 hu
  obtain ⟨hj, hd⟩ := List.getElem?_eq_some_iff.1 hd
  obtain ⟨b, off, e1, hb, c1⟩ := h.cells j hj
  refine ⟨b, off, e1, hb, ?_⟩
  rw [c1, dg_get hj, hd]⟩
theorem make_ints (n : Nat) (hn : n ≤ 4000) (w : World) : (Instr.makeSlice 90 (.int .i64 (n : Int)) (.int .i64 (n : Int))).run Try.prog w =
    .ok (.slice (some ⟨w.heap.size, 0, none⟩) n n) (w.alloc (.cells (dv (List.replicate n 0)).toArray 3)) := by
  obtain ⟨i0, hi, hz0, hz1, hz2⟩ := info_parts info_int
  have hr := run_make (P := Try.prog) w 90 3 i0 _ Try.underlying90 hi hz0 .i64 .i64 (n : Int) (n : Int) (by omega) (Int.le_refl _) (by rw [hz2]; omega) (by omega)
  rw [hr]
  have e : (n : Int).toNat = n := by omega
  rw [e, hz1]
  congr 3
  apply Array.ext'
  simp only [Nat.mul_one]
  show (madeCells #[Value.int .i64 0] n).toList = _
  rw [toList_madeCells_one]
  simp [dv]
theorem zeros_own {w : World} (n : Nat) (hn : n ≤ 4000) : OwnD w.heap.size (w.alloc (.cells (dv (List.replicate n 0)).toArray 3)) (.slice (some ⟨w.heap.size, 0, none⟩) n n) (List.replicate n 0) := by
  have e : (List.replicate n 0).length = n := by simp
  show World.ownsRow _ _ _ _ _ _ _
  rw [e]
  exact ⟨by simp [dv], .inr ⟨w.heap.size, n, (dv (List.replicate n 0)).toArray, rfl, Nat.le_refl _, heap_alloc_new w _, Nat.le_refl _, by unfold maxLen; omega, by simp [dv], by simp [dv]⟩⟩
theorem lessV {w : World} {x y : Value} {m n : Nat} (hx : NumV w x m) (hy : NumV w y n) :
    Calls Try.prog 64 #[x, y] w fun e w' => e = .returned (.bool (decide (m < n))) ∧ Below w.heap.size w w' := by
  obtain ⟨A, c, rfl, hx⟩ := hx
  obtain ⟨B, d, rfl, hy⟩ := hy
  exact lessD_any A B c d m n w hx hy
theorem minusV {w : World} {x y : Value} {m n : Nat} (hx : NumV w x m) (hy : NumV w y n) (hmn : n ≤ m) (hlen : (bitsOf m).length ≤ 1000) :
    Calls Try.prog 77 #[x, y] w fun e w' => (∃ v, e = .returned v ∧ NumV w' v (m - n)) ∧ Below w.heap.size w w' := by
  obtain ⟨A, c, rfl, hx⟩ := hx
  obtain ⟨B, d, rfl, hy⟩ := hy
  refine (minus_any A B c d m n w hx hy hmn hlen).mono ?_
  rintro e w' ⟨⟨A', c', rfl, h⟩, hb⟩
  exact ⟨⟨_, rfl, A', c', rfl, h⟩, hb⟩
def lenD : Value → Nat
  | .slice _ n _ => n
  | _ => 0
theorem NumV.zero {w : World} {v : Value} (h : NumV w v 0) : ∃ A c, v = .slice A 0 c := by
  obtain ⟨A, c, rfl, _⟩ := h
  exact ⟨A, c, by rw [bits_zero]; rfl⟩
theorem bits_mono {m n : Nat} (h : m ≤ n) : (bitsOf m).length ≤ (bitsOf n).length := Nat.le_of_not_lt fun h2 => by have := bits_less h2; omega
theorem appZ {w : World} (k : Nat) (hk : k ≤ 100) {v : Value} {n : Nat} (h : NumV w v n) (hn : (bitsOf n).length ≤ 100) (hz : n ≠ 0) :
    ∃ A' c' w', (Ap.appA #[90, 90] 90 #[.slice (some ⟨w.heap.size, 0, none⟩) k k, v]).run Try.prog (w.alloc (.cells (dv (List.replicate k 0)).toArray 3)) = .ok (.slice A' (k + (bitsOf n).length) c') w' ∧ Below w.heap.size w w' := by
  obtain ⟨A, c, rfl, h⟩ := h
  obtain ⟨i0, hi, hz0, hz1, hz2⟩ := info_parts info_int
  have hown := zeros_own (w := w) k (by omega)
  have hown' : World.ownsRow _ _ _ _ _ _ _ := hown
  rw [show (List.replicate k 0).length = k by simp] at hown'
  have hb1 : Below w.heap.size w (w.alloc (.cells (dv (List.replicate k 0)).toArray 3)) := (Below.refl _ _).alloc (Nat.le_refl _) _
  obtain ⟨A', c', w', hrun, ho, hgr, _⟩ := Ap.run_appX (c := c) Try.underlying90 hi hz0 hz1 hz2 rfl (by omega) (by omega) 90 hown' (h.src.below hb1) h.nil (by omega) (by simp)
  exact ⟨A', c', w', hrun, hb1.grown hgr (by simp) (fun k e => (hown'.lt k e).1)⟩

attribute [local go_sem ↓ high] Ap.builtin_appA in
set_option maxHeartbeats 16000000 in
theorem divD_any (A B : Option Addr) (c d m n : Nat) (w : World) (h : DigAt w A c (bitsOf m)) (h' : DigAt w B d (bitsOf n)) (hm : (bitsOf m).length ≤ 100) (hn : (bitsOf n).length ≤ 100) (hne : m ≠ 0 ∧ n ≠ 0) :
    Calls Try.prog 65 #[.slice A (bitsOf m).length c, .slice B (bitsOf n).length d] w fun e w' => (∃ A' c', e = .returned (.slice A' (bitsOf (Nat.gcd m n)).length c')) ∧ Below w.heap.size w w' := by
  have hA : NumV w (.slice A (bitsOf m).length c) m := ⟨_, _, rfl, h⟩
  have hB : NumV w (.slice B (bitsOf n).length d) n := ⟨_, _, rfl, h'⟩
  have hl1 := bits_len_pos hne.1
  have hl2 := bits_len_pos hne.2
  have hz1 : (((bitsOf m).length : Int) == 0) = false := by rw [beq_eq_false_iff_ne]; omega
  have hz2 : (((bitsOf n).length : Int) == 0) = false := by rw [beq_eq_false_iff_ne]; omega
  have hz3 : ¬ (bitsOf m).length = 0 := by omega
  have hz4 : ¬ (bitsOf n).length = 0 := by omega
  have HA := Lib.hid hA
  have HB := Lib.hid hB
  have HN := Lib.hid (And.intro hne (And.intro hm hn))
  obtain ⟨g, hg⟩ : ∃ g, g = Nat.gcd m n := ⟨_, rfl⟩
  rw [← hg]
  have HG := Lib.hid hg
  clear hA hB h h' hm hn hne hl1 hl2 hg
  generalize hav : (bitsOf m).length = la at *
  generalize hbv : (bitsOf n).length = lb at *
  go_enter Try.func65, Try.ntmps65
  go_wp2_with fail
  go_loopw [0, 1, 5] (fun x y t wr => ∃ (p q k : Nat), p ≠ 0 ∧ q ≠ 0 ∧ k ≤ 100 ∧ (bitsOf p).length + k ≤ 100 ∧ (bitsOf q).length + k ≤ 100 ∧ t = .int .i64 k ∧ NumV wr x p ∧ NumV wr y q ∧ Nat.gcd m n = 2 ^ k * Nat.gcd p q ∧ Below w.heap.size w wr) (fun _ _ t _ => 100 - (intOf t).toNat)
  case atStart => exact ⟨m, n, 0, HN.out.1.1, HN.out.1.2, by omega, by have := HN.out; omega, by have := HN.out; omega, rfl, HA.out, HB.out, by simp, Below.refl _ _⟩
  case round =>
    obtain ⟨p, q, k, hp, hq, hk, hpl, hql, rfl, hx, hy, hgc, hbw⟩ := hrel
    obtain ⟨b1, o1, c1, rfl, hc1, hm1, hb1, d1, ht1⟩ := hx.pos hp
    obtain ⟨b2, o2, c2, rfl, hc2, hm2, hb2, d2, ht2⟩ := hy.pos hq
    have HGC := Lib.hid hgc
    have HBW := Lib.hid hbw
    have HT1 := Lib.hid ht1
    have HT2 := Lib.hid ht2
    have HPQ := Lib.hid (And.intro (And.intro hp hq) (And.intro hpl hql))
    have l1 := bits_len_pos hp
    have l2 := bits_len_pos hq
    have hc1i : (1 : Int) ≤ (c1 : Int) := by omega
    have hc2i : (1 : Int) ≤ (c2 : Int) := by omega
    by_cases he : p % 2 = 0 ∧ q % 2 = 0
    · have hp2 : p / 2 ≠ 0 := by omega
      have hq2 : q / 2 ≠ 0 := by omega
      have hg2 : Hid (Nat.gcd m n = 2 ^ (k + 1) * Nat.gcd (p / 2) (q / 2)) := by
        unfold Hid; rw [hgc, gcd_both he.1 he.2, Nat.pow_succ, Nat.mul_assoc]
      have hwk : IntKind.i64.wrap ((k : Int) + 1) = ((k + 1 : Nat) : Int) := i64_in _ (by omega) (by omega)
      have hl1 : (bitsOf (p / 2)).length + (k + 1) ≤ 100 := by omega
      have hl2 : (bitsOf (q / 2)).length + (k + 1) ≤ 100 := by omega
      have hk2 : k + 1 ≤ 100 := by omega
      have HH := Lib.hid (And.intro hp2 (And.intro hq2 (And.intro hk2 (And.intro hl1 hl2))))
      rw [he.1] at d1
      rw [he.2] at d2
      clear hgc hbw ht1 ht2 hx hy hp hq hpl hql l1 l2 hp2 hq2 hl1 hl2 hk2 he
      generalize hn1 : (bitsOf (p / 2)).length = n1 at *
      generalize hn2 : (bitsOf (q / 2)).length = n2 at *
      go_wp2_with fail
      exact ⟨⟨p / 2, q / 2, k + 1, HH.out.1, HH.out.2.1, HH.out.2.2.1, by rw [hn1]; exact HH.out.2.2.2.1, by rw [hn2]; exact HH.out.2.2.2.2, rfl, HT1.out, HT2.out, hg2.out, HBW.out⟩, by have := HH.out.2.2.1; simp [intOf]; omega⟩
    · have hgcpos : Nat.gcd p q % 2 = 1 := gcd_odd he
      obtain ⟨G, hGd⟩ : ∃ G, G = Nat.gcd p q := ⟨_, rfl⟩
      rw [← hGd] at hgcpos hgc
      have HGd := Lib.hid (And.intro hGd hgcpos)
      have HX := Lib.hid hx
      have HY := Lib.hid hy
      have hGg : Hid (g = 2 ^ k * G) := by unfold Hid; rw [HG.out, hgc]
      have hGl : Hid ((bitsOf g).length = k + (bitsOf G).length ∧ (bitsOf G).length ≤ 100 ∧ G ≠ 0 ∧ k ≤ 100 ∧ G % 2 = 1) := by
        have h0 : G ≠ 0 := by omega
        refine ⟨by rw [hGg.out]; exact bits_shift h0 k, ?_, h0, hk, hgcpos⟩
        have h1 : G ≤ p := by rw [hGd]; exact Nat.gcd_le_left q (by omega)
        have h2 : ¬ (bitsOf p).length < (bitsOf G).length := fun h => by have := bits_less h; omega
        omega
      clear hgc hbw ht1 ht2 hx hy hpl hql hgcpos hGd HGC
      generalize hn1 : (bitsOf (p / 2)).length = n1 at *
      generalize hn2 : (bitsOf (q / 2)).length = n2 at *
      have hcase : p % 2 = 1 ∨ (p % 2 = 0 ∧ q % 2 = 1) := by omega
      clear he l1 l2 hp hq
      rcases hcase with h1 | ⟨h1, h2⟩
      all_goals
        rw [h1] at d1
        try rw [h2] at d2
        clear h1
        try clear h2
        go_wp2_with fail
        go_loopw [0, 1] (fun x y wr2 => ∃ (a b : Nat), (bitsOf a).length ≤ 100 ∧ (bitsOf b).length ≤ 100 ∧ NumV wr2 x a ∧ NumV wr2 y b ∧ Nat.gcd a b = G ∧ Below w.heap.size w wr2) (fun x y wr2 => numOf wr2 x + numOf wr2 y)
        case atStart => exact ⟨p, q, by have := HPQ.out; omega, by have := HPQ.out; omega, HX.out, HY.out, HGd.out.1.symm, HBW.out⟩
        case round =>
          clear hb1 hb2 d1 d2 hc1 hc2 hm1 hm2 hc1i hc2i HT1 HT2 HX HY HPQ HBW hn1 hn2 HGd hk HA HB HN HG hGg
          obtain ⟨a, b, hla, hlb, hx, hy, hgc, hbw⟩ := hrel
          have HXY := Lib.hid (And.intro (And.intro hx hy) hbw)
          have HLL := Lib.hid (And.intro hla hlb)
          have HGC := Lib.hid hgc
          rcases Nat.eq_zero_or_pos a with ha0 | ha0
          · subst ha0
            obtain rfl : b = G := by rw [Nat.gcd_zero_left] at hgc; exact hgc
            obtain ⟨A1, e1, w4, hrun, hb4⟩ := appZ k hGl.out.2.2.2.1 hy hlb hGl.out.2.2.1
            obtain ⟨A2, e2, rfl⟩ := hx.zero
            obtain ⟨A3, e3, rfl, _⟩ := hy
            have hmk := make_ints k (by have := hGl.out; omega) wr
            have HB4 := Lib.hid (hbw.trans (hb4.mono hbw.size))
            have HRES := Lib.hid hGl.out.1
            generalize (bitsOf b).length = lb2 at *
            generalize (dv (List.replicate k 0)).toArray = Z at *
            clear hx hgc hbw hla hlb hb4
            go_wp2_with fail
            go_ret
            exact ⟨⟨A1, e1, by rw [HRES.out]; rfl⟩, HB4.out⟩
          · rcases Nat.eq_zero_or_pos b with hb0 | hb0
            · subst hb0
              obtain rfl : a = G := by rw [Nat.gcd_zero_right] at hgc; exact hgc
              obtain ⟨A1, e1, w4, hrun, hb4⟩ := appZ k hGl.out.2.2.2.1 hx hla hGl.out.2.2.1
              obtain ⟨A2, e2, rfl⟩ := hy.zero
              obtain ⟨A3, e3, rfl, _⟩ := hx
              have hmk := make_ints k (by have := hGl.out; omega) wr
              have HB4 := Lib.hid (hbw.trans (hb4.mono hbw.size))
              have HRES := Lib.hid hGl.out.1
              have hpos : (0 : Int) < ((bitsOf a).length : Int) := by have := bits_len_pos (n := a) (by omega); omega
              generalize (bitsOf a).length = lb2 at *
              generalize (dv (List.replicate k 0)).toArray = Z at *
              clear hy hgc hbw hla hlb hb4
              go_wp2_with fail
              go_ret
              exact ⟨⟨A1, e1, by rw [HRES.out]; rfl⟩, HB4.out⟩
            · obtain ⟨B1, E1, C1, rfl, hcc1, hmm1, hbb1, dd1, htt1⟩ := hx.pos (by omega)
              obtain ⟨B2, E2, C2, rfl, hcc2, hmm2, hbb2, dd2, htt2⟩ := hy.pos (by omega)
              have HAB := Lib.hid (And.intro ha0 hb0)
              have hlA : Hid ((bitsOf (a / 2)).length + 1 = (bitsOf a).length) := (bits_len_pos (by omega)).symm
              clear htt1 htt2 hx hy hgc hbw hla hlb ha0 hb0 dd1 dd2 hcc1 hcc2 hmm1 hmm2 hbb1 hbb2
              generalize (bitsOf (a / 2)).length = M1 at *
              generalize (bitsOf (b / 2)).length = M2 at *
              go_wp2_with fail
              go_loopw [0] (fun x3 wr3 => ∃ a3 : Nat, a3 ≠ 0 ∧ a3 ≤ a ∧ NumV wr3 x3 a3 ∧ Nat.gcd a3 b = G ∧ wr3 = wr) (fun x3 _ => lenD x3)
              case atStart => exact ⟨a, by have := HAB.out; omega, Nat.le_refl _, HXY.out.1.1, HGC.out, rfl⟩
              case round =>
                rename_i wr3
                obtain ⟨a3, h30, h3a, hx3, hg3, rfl⟩ := hrel
                obtain ⟨B3, E3, C3, rfl, hcc3, hmm3, hbb3, dd3, htt3⟩ := hx3.pos h30
                have HX3 := Lib.hid (And.intro (And.intro h30 h3a) (And.intro hx3 hg3))
                have HT3 := Lib.hid htt3
                have hcc3i : (1 : Int) ≤ (C3 : Int) := by omega
                have hg2 : Hid (a3 % 2 = 0 → a3 / 2 ≠ 0 ∧ a3 / 2 ≤ a ∧ Nat.gcd (a3 / 2) b = G) := fun e => ⟨by omega, by omega, by rw [gcd_half e (by rw [hg3]; exact hGl.out.2.2.2.2), hg3]⟩
                clear htt3 hx3 hg3 h30 h3a
                generalize hM3 : (bitsOf (a3 / 2)).length = M3 at *
                have HM3 := Lib.hid hM3
                clear hM3
                rcases Nat.mod_two_eq_zero_or_one a3 with e | e
                · obtain ⟨i1, i2, i3⟩ := hg2.out e
                  have HI := Lib.hid (And.intro i1 (And.intro i2 i3))
                  rw [e] at dd3
                  clear e i1 i2 i3 hg2
                  go_wp2_with fail
                  exact ⟨⟨a3 / 2, HI.out.1, HI.out.2.1, HT3.out, HI.out.2.2, trivial⟩, by simp [lenD]⟩
                · rw [e] at dd3
                  clear e hg2
                  go_wp2_with fail
                  go_loopw [1] (fun x4 wr4 => ∃ b4 : Nat, b4 ≠ 0 ∧ b4 ≤ b ∧ NumV wr4 x4 b4 ∧ Nat.gcd a3 b4 = G ∧ wr4 = wr) (fun x4 _ => lenD x4)
                  case atStart => exact ⟨b, by have := HAB.out; omega, Nat.le_refl _, HXY.out.1.2, HX3.out.2.2, rfl⟩
                  case round =>
                    rename_i wr4
                    obtain ⟨b4, h40, h4b, hx4, hg4, rfl⟩ := hrel
                    obtain ⟨B4, E4, C4, rfl, hcc4, hmm4, hbb4, dd4, htt4⟩ := hx4.pos h40
                    have HX4 := Lib.hid (And.intro (And.intro h40 h4b) (And.intro hx4 hg4))
                    have HT4 := Lib.hid htt4
                    have hcc4i : (1 : Int) ≤ (C4 : Int) := by omega
                    have hg2 : Hid (b4 % 2 = 0 → b4 / 2 ≠ 0 ∧ b4 / 2 ≤ b ∧ Nat.gcd a3 (b4 / 2) = G) := fun e => ⟨by omega, by omega, by rw [gcd_half2 e (by rw [hg4]; exact hGl.out.2.2.2.2), hg4]⟩
                    clear htt4 hx4 hg4 h40 h4b
                    generalize hM4 : (bitsOf (b4 / 2)).length = M4 at *
                    have HM4 := Lib.hid hM4
                    clear hM4
                    rcases Nat.mod_two_eq_zero_or_one b4 with e | e
                    · obtain ⟨i1, i2, i3⟩ := hg2.out e
                      have HI := Lib.hid (And.intro i1 (And.intro i2 i3))
                      rw [e] at dd4
                      clear e i1 i2 i3 hg2
                      go_wp2_with fail
                      exact ⟨⟨b4 / 2, HI.out.1, HI.out.2.1, HT4.out, HI.out.2.2, trivial⟩, by simp [lenD]⟩
                    · rw [e] at dd4
                      clear e hg2
                      go_wp2_with fail
                      (with_reducible refine (lessV HX3.out.2.1 HX4.out.2.1).mono ?_)
                      rintro e W5 ⟨rfl, hb5⟩
                      have HB5 := Lib.hid hb5
                      have HB5' := Lib.hid (HXY.out.2.trans (hb5.mono HXY.out.2.size))
                      have n3 := HX3.out.2.1.below hb5
                      have n4 := HX4.out.2.1.below hb5
                      have hlen3 : (bitsOf a3).length ≤ 100 := Nat.le_trans (bits_mono HX3.out.1.2) HLL.out.1
                      have hlen4 : (bitsOf b4).length ≤ 100 := Nat.le_trans (bits_mono HX4.out.1.2) HLL.out.2
                      have mA := HXY.out.1.1.num
                      have mB := HXY.out.1.2.num
                      have ML := Lib.hid (And.intro mA mB)
                      clear mA mB hb5
                      by_cases hlt : a3 < b4
                      · have Q := Lib.hid (minusV n4 n3 (by omega) (by omega))
                        have HG4 : Hid (Nat.gcd a3 (b4 - a3) = G) := by unfold Hid; rw [gcd_minus (by omega)]; exact HX4.out.2.2
                        have N3 := Lib.hid n3
                        have HL4 := Lib.hid (And.intro hlen3 (And.intro hlen4 hlt))
                        have hd : decide (a3 < b4) = true := decide_eq_true hlt
                        clear n3 n4 hlen3 hlen4 hlt
                        go_wp2_with fail
                        (with_reducible refine Q.out.mono ?_)
                        rintro e W6 ⟨⟨v6, rfl, hv6⟩, hb6⟩
                        have HV6 := Lib.hid (And.intro hv6 hb6)
                        clear hv6 hb6
                        go_wp2_with fail
                        have n6 := N3.out.below HV6.out.2
                        refine ⟨⟨a3, b4 - a3, HL4.out.1, Nat.le_trans (bits_mono (Nat.sub_le _ _)) HL4.out.2.1, n6, HV6.out.1, HG4.out, HB5'.out.trans (HV6.out.2.mono HB5'.out.size)⟩, ?_⟩
                        rw [n6.num, HV6.out.1.num, ML.out.1, ML.out.2]
                        have := HX3.out.1; have := HX4.out.1; have := HL4.out.2.2; omega
                      · have Q := Lib.hid (minusV n3 n4 (by omega) (by omega))
                        have HG4 : Hid (Nat.gcd (a3 - b4) b4 = G) := by unfold Hid; rw [gcd_minus2 (by omega)]; exact HX4.out.2.2
                        have N4 := Lib.hid n4
                        have HL4 := Lib.hid (And.intro hlen3 (And.intro hlen4 hlt))
                        have hd : decide (a3 < b4) = false := decide_eq_false hlt
                        clear n3 n4 hlen3 hlen4 hlt
                        go_wp2_with fail
                        (with_reducible refine Q.out.mono ?_)
                        rintro e W6 ⟨⟨v6, rfl, hv6⟩, hb6⟩
                        have HV6 := Lib.hid (And.intro hv6 hb6)
                        clear hv6 hb6
                        go_wp2_with fail
                        have n6 := N4.out.below HV6.out.2
                        refine ⟨⟨a3 - b4, b4, Nat.le_trans (bits_mono (Nat.sub_le _ _)) HL4.out.1, HL4.out.2.1, HV6.out.1, n6, HG4.out, HB5'.out.trans (HV6.out.2.mono HB5'.out.size)⟩, ?_⟩
                        rw [n6.num, HV6.out.1.num, ML.out.1, ML.out.2]
                        have := HX3.out.1; have := HX4.out.1; have := HL4.out.2.2; omega

theorem div_zero1 (A B : Option Addr) (c d n : Nat) (w : World) :
    Calls Try.prog 65 #[.slice A 0 c, .slice B n d] w fun e w' => (∃ A' c', e = .returned (.slice A' n c')) ∧ Below w.heap.size w w' := by
  go_enter Try.func65, Try.ntmps65
  go_wp2_with fail
  go_ret
  exact ⟨⟨_, _, rfl⟩, Below.refl _ _⟩
theorem div_zero2 (A B : Option Addr) (c d m : Nat) (w : World) (hm : m ≠ 0) :
    Calls Try.prog 65 #[.slice A m c, .slice B 0 d] w fun e w' => (∃ A' c', e = .returned (.slice A' m c')) ∧ Below w.heap.size w w' := by
  have hz : ((m : Int) == 0) = false := by rw [beq_eq_false_iff_ne]; omega
  go_enter Try.func65, Try.ntmps65
  go_wp2_with fail
  go_ret
  exact ⟨⟨_, _, rfl⟩, Below.refl _ _⟩
/-- The number of binary digits of the greatest common divisor. -/
theorem divV {w : World} {x y : Value} {m n : Nat} (hx : NumV w x m) (hy : NumV w y n) (hm : (bitsOf m).length ≤ 100) (hn : (bitsOf n).length ≤ 100) :
    Calls Try.prog 65 #[x, y] w fun e w' => (∃ A' c', e = .returned (.slice A' (bitsOf (Nat.gcd m n)).length c')) ∧ Below w.heap.size w w' := by
  obtain ⟨A, c, rfl, hx⟩ := hx
  obtain ⟨B, d, rfl, hy⟩ := hy
  by_cases h0 : m = 0
  · subst h0
    rw [Nat.gcd_zero_left, bits_zero]
    exact div_zero1 A B c d _ w
  by_cases h1 : n = 0
  · subst h1
    rw [Nat.gcd_zero_right, bits_zero]
    exact div_zero2 A B c d _ w (fun e => h0 (bits_len_zero.1 e))
  exact divD_any A B c d m n w hx hy hm hn ⟨h0, h1⟩

end G
end Go.Proofs.Ytjeapimjgojpoaa
