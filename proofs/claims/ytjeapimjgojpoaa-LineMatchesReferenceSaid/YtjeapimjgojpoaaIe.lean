/- Lines: 'Locate' at every line and point. -/
import Derived.Test.YtjeapimjgojpoaaId
set_option linter.unusedSimpArgs false
set_option linter.unusedVariables false
set_option maxRecDepth 100000
namespace Go.Proofs.Ytjeapimjgojpoaa
open Go.RowKit
namespace G

theorem valid_pt {l : List P2} (h : validL l = true) {k : Nat} (hk : k < l.length) : InG (pt l k).1 ∧ InG (pt l k).2 := by
  unfold validL at h
  simp only [Bool.and_eq_true] at h
  have h1 := preOK_at _ hk h.1
  unfold stepOK at h1
  simp only [Bool.and_eq_true] at h1
  exact onB_out h1.1
theorem valid_len {l : List P2} (h : validL l = true) : 2 ≤ l.length ∧ l.length ≤ 40 := by
  unfold validL at h
  simp only [Bool.and_eq_true, decide_eq_true_eq] at h
  omega
theorem valid_ne {l : List P2} (h : validL l = true) {k : Nat} (hk : k + 1 < l.length) : ptEq (pt l (k + 1)).1 (pt l (k + 1)).2 (pt l k).1 (pt l k).2 = false := by
  unfold validL at h
  simp only [Bool.and_eq_true] at h
  have h1 := preOK_at _ hk h.1
  unfold stepOK at h1
  simp at h1
  exact h1.2
theorem spot_B {l : List P2} {px py : Int} (h : validL l = true) (hon : onB px py = true) {k : Nat} (hk : k + 1 < l.length) : (spotI l px py k).B := by
  obtain ⟨p1, p2⟩ := onB_out hon
  obtain ⟨a1, a2⟩ := valid_pt h (k := k) (by omega)
  obtain ⟨b1, b2⟩ := valid_pt h hk
  obtain ⟨_, _, f3, f4⟩ := foot_bd p1 p2 a1 a2 b1 b2
  unfold Spt.B B64 spotI
  simp only
  omega
def locS (l : List P2) (px py : Int) : Spt := if (validL l && onB px py) = true then bestN l px py (l.length - 1) else spt0
def locE (l : List P2) (px py : Int) : Int := if (validL l && onB px py) = true then 0 else 1
theorem locate_no1 (A : Option Addr) (c : Nat) (l : List P2) (px py : Int) (w : World) (hl : LineAt w A l) (hv : validL l = false) (hn : l.length ≤ 9223372036854775807) :
    Calls Try.prog 16 #[.slice A l.length c, .agg #[.int .i64 px, .int .i64 py]] w fun e w' => e = .returned (.tuple #[.agg spt0.cells, .int .i64 1]) ∧ Below w.heap.size w w' := by
  have hal : Below w.heap.size w ((w.alloc (.cells #[.int .i64 px, .int .i64 py] 24)).alloc (.cells #[.int .i64 0, .int .i64 0, .int .i64 0, .int .i64 0, .int .i64 0, .int .i64 0] 34)) := ((Below.refl _ _).alloc (Nat.le_refl _) _).alloc (by simp) _
  have hq := valid_line A c l _ (hl.below hal) hn
  rw [hv] at hq
  have HQ := Lib.hid hq
  have HA := Lib.hid hal
  clear hl hv hq hal
  go_enter Try.func16, Try.ntmps16
  go_wp2_with fail
  (with_reducible refine HQ.out.mono ?_); rintro e w1 ⟨rfl, hb1⟩
  have HB := Lib.hid (HA.out.trans (hb1.mono HA.out.size))
  obtain ⟨k3, k4⟩ := Reg.Blk.new2 hb1
  clear hb1 HQ
  have HK4 := Lib.hid k4
  obtain ⟨c4, f4, z4⟩ := k4.facts
  clear k3 k4
  go_wp2_with fail
  have hu := Reg.upd6 (x := .int .i64 0) (y := .int .i64 0) (z := .int .i64 0) (t := .int .i64 0) (u := .int .i64 0) (v := .int .i64 0) HK4.out
  have kC := Reg.updK (M := fun k => w.heap.size ≤ k) (g := w.heap.size + 1) (by omega) _ _ _ _ (keep_of HB.out) hu
  have hn5 : Reg.Blk (w.heap.size + 1) _ _ _ := hu.at_
  clear c4 f4 z4
  obtain ⟨c4, f4, z4⟩ := hn5.facts
  generalize ((((((World.setCell _ _ _).setCell _ _).setCell _ _).setCell _ _).setCell _ _).setCell _ _) = Wn at *
  refine bodyPost_ret (v := .tuple #[.agg spt0.cells, .int .i64 1]) (by simp [results, Try.results16, go_sem, c4, spt0, Spt.cells]) rfl ⟨rfl, kC.below fun k hk => by omega⟩
theorem locate_no2 (A : Option Addr) (c : Nat) (l : List P2) (px py : Int) (w : World) (hl : LineAt w A l) (hv : validL l = true) (hon : onB px py = false) (hn : l.length ≤ 9223372036854775807) :
    Calls Try.prog 16 #[.slice A l.length c, .agg #[.int .i64 px, .int .i64 py]] w fun e w' => e = .returned (.tuple #[.agg spt0.cells, .int .i64 1]) ∧ Below w.heap.size w w' := by
  have hal : Below w.heap.size w ((w.alloc (.cells #[.int .i64 px, .int .i64 py] 24)).alloc (.cells #[.int .i64 0, .int .i64 0, .int .i64 0, .int .i64 0, .int .i64 0, .int .i64 0] 34)) := ((Below.refl _ _).alloc (Nat.le_refl _) _).alloc (by simp) _
  have hq := valid_line A c l _ (hl.below hal) hn
  rw [hv] at hq
  have HQ := Lib.hid hq
  have HON := Lib.hid (fun W => on_any px py W)
  rw [hon] at HON
  have HA := Lib.hid hal
  clear hl hv hq hal hon
  go_enter Try.func16, Try.ntmps16
  go_wp2_with fail
  (with_reducible refine HQ.out.mono ?_); rintro e w1 ⟨rfl, hb1⟩
  have HB1 := Lib.hid (HA.out.trans (hb1.mono HA.out.size))
  obtain ⟨k3, k4⟩ := Reg.Blk.new2 hb1
  clear hb1 HQ
  have HK3 := Lib.hid k4
  obtain ⟨c3, f3, z3⟩ := k3.facts
  clear k3 k4
  go_wp2_with fail
  (with_reducible refine (HON.out _).mono ?_); rintro e w2 ⟨rfl, hb2⟩
  have HB := Lib.hid (HB1.out.trans (hb2.mono HB1.out.size))
  have k4 := HK3.out.keep hb2
  clear hb2 HON c3 f3 z3
  have HK4 := Lib.hid k4
  obtain ⟨c4, f4, z4⟩ := k4.facts
  clear k4
  go_wp2_with fail
  have hu := Reg.upd6 (x := .int .i64 0) (y := .int .i64 0) (z := .int .i64 0) (t := .int .i64 0) (u := .int .i64 0) (v := .int .i64 0) HK4.out
  have kC := Reg.updK (M := fun k => w.heap.size ≤ k) (g := w.heap.size + 1) (by omega) _ _ _ _ (keep_of HB.out) hu
  have hn5 : Reg.Blk (w.heap.size + 1) _ _ _ := hu.at_
  clear c4 f4 z4
  obtain ⟨c4, f4, z4⟩ := hn5.facts
  generalize ((((((World.setCell _ _ _).setCell _ _).setCell _ _).setCell _ _).setCell _ _).setCell _ _) = Wn at *
  refine bodyPost_ret (v := .tuple #[.agg spt0.cells, .int .i64 1]) (by simp [results, Try.results16, go_sem, c4, spt0, Spt.cells]) rfl ⟨rfl, kC.below fun k hk => by omega⟩
theorem locate_any (A : Option Addr) (c : Nat) (l : List P2) (px py : Int) (w : World) (hl : LineAt w A l) (hn : l.length ≤ 9223372036854775807) :
    Calls Try.prog 16 #[.slice A l.length c, .agg #[.int .i64 px, .int .i64 py]] w fun e w' => e = .returned (.tuple #[.agg (locS l px py).cells, .int .i64 (locE l px py)]) ∧ Below w.heap.size w w' := by
  unfold locS locE
  cases hv : validL l with
  | false => simp only [Bool.false_and, Bool.false_eq_true, if_false]; exact locate_no1 A c l px py w hl hv hn
  | true =>
    cases hon : onB px py with
    | false => simp only [Bool.true_and, Bool.false_eq_true, if_false]; exact locate_no2 A c l px py w hl hv hon hn
    | true =>
      simp only [Bool.and_self, if_true]
      have hlen := valid_len hv
      have hf : ∀ k, k + 1 < l.length → (spotI l px py k).B := fun k hk => spot_B hv hon hk
      refine locate_ok A c l px py (l.length - 1) (fun k => if h : k + 1 < l.length then ⟨spotI l px py k, hf k h⟩ else ⟨spt0, spt0_B⟩) w hl hv hon (by omega) (by omega) (fun k hk => ?_)
      simp only [show k + 1 < l.length by omega, dite_true]

end G
end Go.Proofs.Ytjeapimjgojpoaa
