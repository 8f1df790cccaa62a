/- Lines: several lines; 'Nearest'. -/
import Derived.Test.YtjeapimjgojpoaaIg
set_option linter.unusedSimpArgs false
set_option linter.unusedVariables false
set_option maxRecDepth 100000
namespace Go.Proofs.Ytjeapimjgojpoaa
open Go.RowKit
namespace G

/-- A line in memory. -/
structure Ln where
  A : Option Addr
  c : Nat
  l : List P2
def ln (L : List Ln) (i : Nat) : Ln := L[i]?.getD ⟨none, 0, []⟩
def LinesAt (w : World) (A : Option Addr) (L : List Ln) : Prop := ∀ i, i < L.length → ∃ b off, A = some ⟨b, off, none⟩ ∧ b < w.heap.size ∧ w.cell? ⟨b, off + i, none⟩ = some (.slice (ln L i).A (ln L i).l.length (ln L i).c) ∧ LineAt w (ln L i).A (ln L i).l ∧ (ln L i).l.length ≤ 9223372036854775807
theorem LinesAt.below {w w' : World} {A : Option Addr} {L : List Ln} (h : LinesAt w A L) (hb : Below w.heap.size w w') : LinesAt w' A L := fun i hi => by
  obtain ⟨b, off, hA, hlt, c0, hl, hn⟩ := h i hi
  exact ⟨b, off, hA, Nat.lt_of_lt_of_le hlt hb.size, ((bcell hb).1 _ _ hlt).trans c0, hl.below hb, hn⟩
def goodN (L : List Ln) : Nat → Bool
  | 0 => true
  | k + 1 => goodN L k && validL (ln L k).l
def goodL (L : List Ln) : Bool := goodN L L.length
theorem goodN_false {L : List Ln} {k : Nat} (h : validL (ln L k).l = false) : ∀ n, k < n → goodN L n = false
  | 0, hk => by omega
  | n + 1, hk => by
    rcases (by omega : k < n ∨ k = n) with h2 | h2
    · simp [goodN, goodN_false h n h2]
    · subst h2; simp [goodN, h]
theorem goodN_at {L : List Ln} {k : Nat} : ∀ n, k < n → goodN L n = true → validL (ln L k).l = true
  | 0, hk, _ => by omega
  | n + 1, hk, h => by
    simp only [goodN, Bool.and_eq_true] at h
    rcases (by omega : k < n ∨ k = n) with h2 | h2
    · exact goodN_at n h2 h.1
    · subst h2; exact h.2

theorem notvalid_any (A : Option Addr) (c : Nat) (l : List P2) (w : World) (hl : LineAt w A l) (hn : l.length ≤ 9223372036854775807) :
    Calls Try.prog 32 #[.slice A l.length c] w fun e w' => e = .returned (.bool (!validL l)) ∧ Below w.heap.size w w' := by
  have HQ := Lib.hid (valid_line A c l w hl hn)
  clear hl
  go_enter Try.func32, Try.ntmps32
  go_wp2_with fail
  (with_reducible refine HQ.out.mono ?_); rintro e w1 ⟨rfl, hb1⟩
  have HB := Lib.hid hb1
  clear hb1 HQ
  go_wp2_with fail
  go_ret
  exact ⟨rfl, HB.out⟩

set_option maxHeartbeats 2000000 in
theorem index_any (A : Option Addr) (c : Nat) (L : List Ln) (w : World) (hl : LinesAt w A L) (hn : L.length ≤ 9223372036854775807) :
    Calls Try.prog 61 #[.slice A L.length c, .func (.func 32) #[] #[]] w fun e w' => (∃ r : Int, e = .returned (.int .i64 r) ∧ decide (0 ≤ r) = !goodL L) ∧ Below w.heap.size w w' := by
  have HL := Lib.hid hl
  clear hl
  go_enter Try.func61, Try.ntmps61
  go_wp2_with fail
  go_loopw [8] (fun i wr => ∃ k : Nat, k ≤ L.length ∧ i = .int .i64 k ∧ goodN L k = true ∧ Below w.heap.size w wr) (fun i _ => L.length - (intOf i).toNat)
  case atStart => exact ⟨0, Nat.zero_le _, rfl, rfl, Below.refl _ _⟩
  case round =>
    obtain ⟨k, hk, rfl, hg, hbw⟩ := hrel
    have HG := Lib.hid hg
    have HB := Lib.hid hbw
    clear hg hbw
    by_cases hlt : k < L.length
    · obtain ⟨b, off, hA, hb, c0, hl, hln⟩ := (HL.out.below HB.out) k hlt
      subst hA
      have hki : (k : Int) < (L.length : Int) := by omega
      have hk0 : (0 : Int) ≤ (k : Int) := by omega
      have HV : Hid (∀ v, validL (ln L k).l = v → goodN L (k + 1) = v ∧ (v = false → goodL L = false)) := fun v h => ⟨by simp [goodN, HG.out, h], fun hv => goodN_false (by rw [h, hv]) _ hlt⟩
      have HQ := Lib.hid (notvalid_any (ln L k).A (ln L k).c (ln L k).l wr hl hln)
      clear hl hln
      generalize (ln L k).A = A' at *
      generalize (ln L k).c = c' at *
      generalize (ln L k).l = l' at *
      generalize hv : validL l' = v at *
      clear hv
      go_wp2_with fail
      (with_reducible refine HQ.out.mono ?_); rintro e w2 ⟨rfl, hb2⟩
      have HB2 := Lib.hid (HB.out.trans (hb2.mono HB.out.size))
      clear hb2 HQ
      cases v with
      | true =>
        go_wp2_with fail
        refine ⟨⟨k + 1, by omega, by go_num, (HV.out _ rfl).1, HB2.out⟩, by simp [intOf]; omega⟩
      | false =>
        go_wp2_with fail
        go_ret
        refine ⟨⟨(k : Int), rfl, ?_⟩, HB2.out⟩
        rw [(HV.out _ rfl).2 rfl, decide_eq_true hk0]; rfl
    · obtain rfl : k = L.length := by omega
      go_wp2_with fail
      go_ret
      refine ⟨⟨-1, rfl, ?_⟩, HB.out⟩
      unfold goodL
      rw [HG.out]; rfl

theorem contains_any (A : Option Addr) (c : Nat) (L : List Ln) (w : World) (hl : LinesAt w A L) (hn : L.length ≤ 9223372036854775807) :
    Calls Try.prog 31 #[.slice A L.length c, .func (.func 32) #[] #[]] w fun e w' => e = .returned (.bool (!goodL L)) ∧ Below w.heap.size w w' := by
  have HQ := Lib.hid (index_any A c L w hl hn)
  clear hl
  go_enter Try.func31, Try.ntmps31
  go_wp2_with fail
  (with_reducible refine HQ.out.mono ?_); rintro e w1 ⟨⟨r, rfl, hr⟩, hb1⟩
  have HB := Lib.hid hb1
  have HR := Lib.hid hr
  clear hb1 HQ hr
  go_wp2_with fail
  go_ret
  exact ⟨by rw [← HR.out]; rfl, HB.out⟩

end G
end Go.Proofs.Ytjeapimjgojpoaa
