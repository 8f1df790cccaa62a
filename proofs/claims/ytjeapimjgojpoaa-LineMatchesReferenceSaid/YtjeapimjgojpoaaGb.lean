/- Geom: 'on', 'Turn', 'Dist'. -/
import Derived.Test.YtjeapimjgojpoaaGa
set_option linter.unusedSimpArgs false
set_option linter.unusedVariables false
set_option maxRecDepth 100000
namespace Go.Proofs.Ytjeapimjgojpoaa
open Go.RowKit
namespace G

/-- All of the first n points are on the grid. -/
def allOn (X Y : Nat → Int) : Nat → Bool
  | 0 => true
  | n + 1 => allOn X Y n && onB (X n) (Y n)

theorem allOn_false {X Y : Nat → Int} {n k : Nat} (hk : k < n) (h : onB (X k) (Y k) = false) : allOn X Y n = false := by
  induction n with
  | zero => omega
  | succ n ih =>
    by_cases hkn : k = n
    · subst hkn; simp [allOn, h]
    · simp [allOn, ih (by omega)]

set_option maxHeartbeats 400000 in
theorem onl_any (X Y : Nat → Int) (n b : Nat) (hn : n ≤ 1000) (w : World) (hX : ∀ i, i < n → w.cell? ⟨b, i * 2, none⟩ = some (.int .i64 (X i))) (hY : ∀ i, i < n → w.cell? ⟨b, i * 2 + 1, none⟩ = some (.int .i64 (Y i))) (hb : b < w.heap.size) :
    Calls Try.prog 43 #[.slice (some ⟨b, 0, none⟩) n n] w fun e w' => e = .returned (.bool (allOn X Y n)) ∧ Below w.heap.size w w' := by
  go_enter Try.func43, Try.ntmps43
  go_wp2_with fail
  go_loopw [7] (fun i wr => ∃ k : Nat, k ≤ n ∧ i = .int .i64 k ∧ allOn X Y k = true ∧ Below w.heap.size w wr) (fun i _ => n - (intOf i).toNat)
  case atStart => exact ⟨0, by omega, rfl, rfl, Below.refl _ _⟩
  case round =>
    obtain ⟨k, hk, rfl, hall, hbw⟩ := hrel
    obtain ⟨hc, hf, _⟩ := bcell hbw
    have Hall := Lib.hid hall
    clear hall
    by_cases hlt : k < n
    · have h1 := hX k hlt
      have h2 := hY k hlt
      clear hX hY
      cases hon : onB (X k) (Y k)
      all_goals
        have Hon := Lib.hid hon
        go_wp2_with (go_at_call 19; refine (on_any _ _ _).mono ?_; rw [hon]; clear hon; rintro e w' ⟨rfl, hb'⟩)
      · go_ret
        refine ⟨ret_bool ?_, hbw.trans ((((Below.refl _ _).alloc (Nat.le_refl _) _).trans (hb'.mono (by simp))).mono hbw.size)⟩
        exact (allOn_false hlt Hon.out).symm
      · go_roundw
        case rel =>
          refine ⟨k + 1, by omega, by go_num, by simp [allOn, Hall.out, Hon.out], ?_⟩
          exact hbw.trans ((((Below.refl _ _).alloc (Nat.le_refl _) _).trans (hb'.mono (by simp))).mono hbw.size)
        case measure => simp [intOf]; omega
    · obtain rfl : k = n := by omega
      go_wp2_with fail
      go_ret
      exact ⟨ret_bool Hall.out.symm, hbw⟩

def xs2 (a b : Int) : Nat → Int | 0 => a | _ => b
def xs3 (a b c : Int) : Nat → Int | 0 => a | 1 => b | _ => c
def xs4 (a b c d : Int) : Nat → Int | 0 => a | 1 => b | 2 => c | _ => d
def on2 (ax ay bx by' : Int) : Bool := onB ax ay && onB bx by'
def on3 (ax ay bx by' cx cy : Int) : Bool := onB ax ay && onB bx by' && onB cx cy
def on4 (ax ay bx by' cx cy dx dy : Int) : Bool := onB ax ay && onB bx by' && onB cx cy && onB dx dy

theorem on2_any (ax ay bx by' : Int) (T : TypeId) (w : World) (g : Nat) (hg : w.heap.size = g) :
    Calls Try.prog 43 #[.slice (some ⟨g, 0, none⟩) 2 2] (w.alloc (.cells #[.int .i64 ax, .int .i64 ay, .int .i64 bx, .int .i64 by'] T)) fun e w' => e = .returned (.bool (on2 ax ay bx by')) ∧ Below w.heap.size w w' := by
  subst hg
  refine (onl_any (xs2 ax bx) (xs2 ay by') 2 w.heap.size (by omega) _ ?_ ?_ (by simp)).mono fun e w' ⟨he, hb⟩ => ⟨by rw [he]; simp [allOn, on2, xs2], ((Below.refl _ _).alloc (Nat.le_refl _) _).trans (hb.mono (by simp))⟩
  · intro i hi
    match i, hi with
    | 0, _ => simp [xs2]
    | 1, _ => simp [xs2]
  · intro i hi
    match i, hi with
    | 0, _ => simp [xs2]
    | 1, _ => simp [xs2]
theorem on3_any (ax ay bx by' cx cy : Int) (T : TypeId) (w : World) (g : Nat) (hg : w.heap.size = g) :
    Calls Try.prog 43 #[.slice (some ⟨g, 0, none⟩) 3 3] (w.alloc (.cells #[.int .i64 ax, .int .i64 ay, .int .i64 bx, .int .i64 by', .int .i64 cx, .int .i64 cy] T)) fun e w' => e = .returned (.bool (on3 ax ay bx by' cx cy)) ∧ Below w.heap.size w w' := by
  subst hg
  refine (onl_any (xs3 ax bx cx) (xs3 ay by' cy) 3 w.heap.size (by omega) _ ?_ ?_ (by simp)).mono fun e w' ⟨he, hb⟩ => ⟨by rw [he]; simp [allOn, on3, xs3, Bool.and_assoc], ((Below.refl _ _).alloc (Nat.le_refl _) _).trans (hb.mono (by simp))⟩
  · intro i hi
    match i, hi with
    | 0, _ => simp [xs3]
    | 1, _ => simp [xs3]
    | 2, _ => simp [xs3]
  · intro i hi
    match i, hi with
    | 0, _ => simp [xs3]
    | 1, _ => simp [xs3]
    | 2, _ => simp [xs3]
theorem on4_any (ax ay bx by' cx cy dx dy : Int) (T : TypeId) (w : World) (g : Nat) (hg : w.heap.size = g) :
    Calls Try.prog 43 #[.slice (some ⟨g, 0, none⟩) 4 4] (w.alloc (.cells #[.int .i64 ax, .int .i64 ay, .int .i64 bx, .int .i64 by', .int .i64 cx, .int .i64 cy, .int .i64 dx, .int .i64 dy] T)) fun e w' => e = .returned (.bool (on4 ax ay bx by' cx cy dx dy)) ∧ Below w.heap.size w w' := by
  subst hg
  refine (onl_any (xs4 ax bx cx dx) (xs4 ay by' cy dy) 4 w.heap.size (by omega) _ ?_ ?_ (by simp)).mono fun e w' ⟨he, hb⟩ => ⟨by rw [he]; simp [allOn, on4, xs4, Bool.and_assoc], ((Below.refl _ _).alloc (Nat.le_refl _) _).trans (hb.mono (by simp))⟩
  · intro i hi
    match i, hi with
    | 0, _ => simp [xs4]
    | 1, _ => simp [xs4]
    | 2, _ => simp [xs4]
    | 3, _ => simp [xs4]
  · intro i hi
    match i, hi with
    | 0, _ => simp [xs4]
    | 1, _ => simp [xs4]
    | 2, _ => simp [xs4]
    | 3, _ => simp [xs4]

def sideI (ax ay bx by' cx cy : Int) : Int := segSide ax ay (wrap64 (bx - ax)) (wrap64 (by' - ay)) cx cy
def turnI (ax ay bx by' cx cy : Int) : Int := if on3 ax ay bx by' cx cy = true then sideI ax ay bx by' cx cy else 0

theorem turn_any (ax ay bx by' cx cy : Int) (w : World) :
    Calls Try.prog 21 #[.agg #[.int .i64 ax, .int .i64 ay], .agg #[.int .i64 bx, .int .i64 by'], .agg #[.int .i64 cx, .int .i64 cy]] w fun e w' => e = .returned (.int .i64 (turnI ax ay bx by' cx cy)) ∧ Below w.heap.size w w' := by
  have Ht : Hid ((on3 ax ay bx by' cx cy = true → turnI ax ay bx by' cx cy = sideI ax ay bx by' cx cy) ∧ (on3 ax ay bx by' cx cy = false → turnI ax ay bx by' cx cy = 0)) := by
    unfold Hid turnI; exact ⟨fun h => if_pos h, fun h => if_neg (by simp [h])⟩
  cases hon : on3 ax ay bx by' cx cy
  all_goals
    have Hon := Lib.hid hon
    go_enter Try.func21, Try.ntmps21
    go_wp2_with (go_at_call 43; (with_reducible refine (on3_any _ _ _ _ _ _ _ _ _ (by simp)).mono ?_); rw [hon]; clear hon; rintro e w1 ⟨rfl, hb1⟩)
  · go_ret
    refine ⟨ret_int (Ht.out.2 Hon.out).symm, ?_⟩
    exact ((((Below.refl _ _).alloc (Nat.le_refl _) _).alloc (by simp) _).alloc (by simp; omega) _).trans (hb1.mono (by simp; omega))
  · obtain ⟨hc1, hf1, _⟩ := bcell hb1
    have hz := hb1.size
    simp at hz
    have z0 : w.heap.size < w1.heap.size := by omega
    have z1 : w.heap.size + 1 < w1.heap.size := by omega
    have z2 : w.heap.size + 1 + 1 < w1.heap.size := by omega
    have hw1 : Below w.heap.size w w1 := ((((Below.refl _ _).alloc (Nat.le_refl _) _).alloc (by simp) _).alloc (by simp; omega) _).trans (hb1.mono (by simp; omega))
    clear hb1
    refine Reg.wp_region_seq (by kernel_rfl) (by kernel_rfl) ?_
    simp only
    iterate 6
      apply Reg.SeqOK.val
      · intro γ W hW K hK
        obtain ⟨hc, hf, _⟩ := bcell hW
        simp only [Act.put, List.setIfInBounds_toArray, List.set_cons_zero, List.set_cons_succ] at hK
        unfold Reg.Does
        go_simp
        try simp only [IntWalk.i64_left]
        first
          | exact hK _ (Below.refl _ _)
          | (go_at_call 44; (with_reducible refine (open_any _ _ _ _ _).mono ?_); rintro e w' ⟨rfl, hb⟩; exact hK _ hb)
          | (go_at_call 50; (with_reducible refine (side_any _ _ _ _ _ _ _ _ _).mono ?_); rintro e w' ⟨rfl, hb⟩; exact hK _ hb)
      simp only [Act.put, List.setIfInBounds_toArray, List.set_cons_zero, List.set_cons_succ, List.nil_append, List.cons_append, Nat.reduceAdd, Nat.zero_add]
    refine Reg.SeqOK.nil (by kernel_rfl) (fun γ W hW _ _ _ => ?_)
    have hw2 : Below w.heap.size w W := hw1.trans (hW.mono (by omega))
    clear hW hc1 hf1
    go_wp2
    go_ret
    exact ⟨ret_int (Ht.out.1 Hon.out).symm, hw2⟩

end G
end Go.Proofs.Ytjeapimjgojpoaa
