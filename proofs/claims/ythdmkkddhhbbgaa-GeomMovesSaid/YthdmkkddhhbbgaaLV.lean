/- Law 'GeomMoves': the walk. -/
import Derived.Test.YthdmkkddhhbbgaaPm
import Derived.Test.YthdmkkddhhbbgaaGr
import Derived.Test.YthdmkkddhhbbgaaAp
import Derived.Test.YthdmkkddhhbbgaaReh
set_option linter.unusedSimpArgs false
set_option linter.unusedVariables false
set_option maxRecDepth 100000
namespace Go.Proofs.Ythdmkkddhhbbgaa
open Go.RowKit
namespace G

theorem run_neq_frs (a b : Int) (w : World) : (binOp .neq 26 (.agg #[.int .i64 a, .int .i64 b]) (.agg #[.int .i64 a, .int .i64 b])).run Try.prog w = .ok (.bool false) w := by
  go_simp

/-- Four points in memory. -/
def Pts (g : Nat) (X Y : Nat → Int) (w : World) : Prop := g < w.heap.size ∧ ∀ i, i < 4 → w.cell? ⟨g, i * 2, none⟩ = some (.int .i64 (X i)) ∧ w.cell? ⟨g, i * 2 + 1, none⟩ = some (.int .i64 (Y i))
theorem Pts.below {g : Nat} {X Y : Nat → Int} {w w' : World} (h : Pts g X Y w) (hb : Below w.heap.size w w') : Pts g X Y w' :=
  ⟨Nat.lt_of_lt_of_le h.1 hb.size, fun i hi => ⟨(hb.cell (p := ⟨g, _, none⟩) h.1).trans (h.2 i hi).1, (hb.cell (p := ⟨g, _, none⟩) h.1).trans (h.2 i hi).2⟩⟩
theorem Pts.ofBlk {g : Nat} {X Y : Nat → Int} {w : World} (h : Reg.Blk g #[.int .i64 (X 0), .int .i64 (Y 0), .int .i64 (X 1), .int .i64 (Y 1), .int .i64 (X 2), .int .i64 (Y 2), .int .i64 (X 3), .int .i64 (Y 3)] 23 w) : Pts g X Y w := by
  obtain ⟨c, _⟩ := Reg.cells_at h
  refine ⟨h.lt, fun i hi => ?_⟩
  match i, hi with
  | 0, _ => simp [c]
  | 1, _ => simp [c]
  | 2, _ => simp [c]
  | 3, _ => simp [c]
theorem Pts.keep {M : Nat → Prop} {g : Nat} {X Y : Nat → Int} {w w' : World} (h : Pts g X Y w) (hk : Reg.Keep M w w') (hm : ¬ M g) : Pts g X Y w' :=
  ⟨Nat.lt_of_lt_of_le h.1 hk.size, fun i hi => ⟨(World.cell?_of_block (a := ⟨g, _, none⟩) (hk.block g h.1 hm)).trans (h.2 i hi).1, (World.cell?_of_block (a := ⟨g, _, none⟩) (hk.block g h.1 hm)).trans (h.2 i hi).2⟩⟩
theorem Pts.cells {g : Nat} {X Y : Nat → Int} {w : World} (h : Pts g X Y w) :
    w.cell? ⟨g, 0, none⟩ = some (.int .i64 (X 0)) ∧ w.cell? ⟨g, 1, none⟩ = some (.int .i64 (Y 0)) ∧ w.cell? ⟨g, 2, none⟩ = some (.int .i64 (X 1)) ∧ w.cell? ⟨g, 3, none⟩ = some (.int .i64 (Y 1)) ∧
    w.cell? ⟨g, 4, none⟩ = some (.int .i64 (X 2)) ∧ w.cell? ⟨g, 5, none⟩ = some (.int .i64 (Y 2)) ∧ w.cell? ⟨g, 6, none⟩ = some (.int .i64 (X 3)) ∧ w.cell? ⟨g, 7, none⟩ = some (.int .i64 (Y 3)) ∧ g < w.heap.size :=
  ⟨(h.2 0 (by omega)).1, (h.2 0 (by omega)).2, (h.2 1 (by omega)).1, (h.2 1 (by omega)).2, (h.2 2 (by omega)).1, (h.2 2 (by omega)).2, (h.2 3 (by omega)).1, (h.2 3 (by omega)).2, h.1⟩

/-- The cells of the first points. -/
def pc (X Y : Nat → Int) : Nat → List Value
  | 0 => []
  | k + 1 => pc X Y k ++ [.int .i64 (X k), .int .i64 (Y k)]
theorem Pts.ofRow {g B c : Nat} {X Y : Nat → Int} {w : World} (h : w.ownsRow B 23 2 (.slice (some ⟨g, 0, none⟩) 4 c) 4 (pc X Y 4)) : Pts g X Y w := by
  refine ⟨(h.lt g rfl).2, fun i hi => ?_⟩
  have q (j : Nat) (hj : j < 4 * 2) := h.cellAt j hj
  match i, hi with
  | 0, _ => exact ⟨q 0 (by omega), q 1 (by omega)⟩
  | 1, _ => exact ⟨q 2 (by omega), q 3 (by omega)⟩
  | 2, _ => exact ⟨q 4 (by omega), q 5 (by omega)⟩
  | 3, _ => exact ⟨q 6 (by omega), q 7 (by omega)⟩

theorem info_pt : (Try.prog.info? 23).map (fun i => (i.zero, i.size, i.bytes)) = some (some (.agg #[.int .i64 0, .int .i64 0]), 2, 16) := by kernel_rfl

/-- A region that appends one point to a row: what is known of the new slice, and of the row. -/
def mvM (v : Value) (k : Nat) : Prop := v.ownBlock = some k
def mvF (v : Value) (i : Nat) (x y : Int) (d : Nat) (u : Value) (w : World) : Prop := d = i → ∃ g, u = .slice (some ⟨g, 0, none⟩) 1 1 ∧ Reg.Blk g #[.int .i64 x, .int .i64 y] 23 w ∧ v.ownBlock ≠ some g
theorem mvF_stays (v : Value) (i : Nat) (x y : Int) (d : Nat) (u : Value) (w w' : World) (h : mvF v i x y d u w) (hk : Reg.Keep (mvM v) w w') : mvF v i x y d u w' := fun e => by
  obtain ⟨g, e1, hb, hne⟩ := h e
  exact ⟨g, e1, Ap.blk_keep hb hk hne, hne⟩
def mvT (B N0 : Nat) (v : Value) (n : Nat) (xs ys : List Value) : List Value → World → Prop
  | [], w => w.ownsRow B 23 2 v n xs ∧ N0 ≤ w.heap.size
  | [u], w => ∃ A c, u = .slice A (n + 1) c ∧ w.ownsRow B 23 2 u (n + 1) (xs ++ ys) ∧ (u.ownBlock = v.ownBlock ∨ ∃ g, u.ownBlock = some g ∧ N0 ≤ g)
  | _, _ => True
theorem mvT_stays {B N0 : Nat} {v : Value} {n : Nat} {xs ys : List Value} : ∀ vs w w', mvT B N0 v n xs ys vs w → Below w.heap.size w w' → mvT B N0 v n xs ys vs w' := by
  intro vs w w' h hb
  match vs, h with
  | [], h => exact ⟨Ap.own_below h.1 hb, Nat.le_trans h.2 hb.size⟩
  | [u], ⟨A, c, e, h, h2⟩ => exact ⟨A, c, e, Ap.own_below h hb, h2⟩
  | _ :: _ :: _, _ => trivial

set_option maxHeartbeats 40000000 in
theorem moves_walk (x1 y1 x2 y2 x3 y3 x4 y4 ux uy : Int) (w : World) (b1 : B64 x1) (b2 : B64 y1) (b3 : B64 x2) (b4 : B64 y2) (b5 : B64 x3) (b6 : B64 y3) (b7 : B64 x4) (b8 : B64 y4) (bx : 0 ≤ ux ∧ ux ≤ 65535) (by' : 0 ≤ uy ∧ uy ≤ 65535) :
    Calls Try.prog 8 #[.agg #[.int .i64 x1, .int .i64 y1], .agg #[.int .i64 x2, .int .i64 y2], .agg #[.int .i64 x3, .int .i64 y3], .agg #[.int .i64 x4, .int .i64 y4], .int .u16 ux, .int .u16 uy] w fun e w' => e = .returned (.bool true) ∧ Below w.heap.size w w' := by
  have hT := Below.refl w.heap.size w
  have HNE := Lib.hid run_neq_frs
  go_enter Try.func8, Try.ntmps8
  go_wp2_with fail
  first | (go_at_call 11; (with_reducible refine (head_any _).mono ?_); rintro e w' ⟨rfl, hb⟩; first | (replace hT := (hT).trans (hb.mono hT.size); clear hb) | (replace hT := (hT.alloc hT.size _).trans (hb.mono (Nat.le_trans hT.size (by simp; try omega))); clear hb) | (replace hT := ((hT.alloc hT.size _).alloc (Nat.le_trans hT.size (by simp; try omega)) _).trans (hb.mono (Nat.le_trans hT.size (by simp; try omega))); clear hb) | (replace hT := (((hT.alloc hT.size _).alloc (Nat.le_trans hT.size (by simp; try omega)) _).alloc (Nat.le_trans hT.size (by simp; try omega)) _).trans (hb.mono (Nat.le_trans hT.size (by simp; try omega))); clear hb) | (replace hT := ((((hT.alloc hT.size _).alloc (Nat.le_trans hT.size (by simp; try omega)) _).alloc (Nat.le_trans hT.size (by simp; try omega)) _).alloc (Nat.le_trans hT.size (by simp; try omega)) _).trans (hb.mono (Nat.le_trans hT.size (by simp; try omega))); obtain ⟨kp, kq, kr, ks⟩ := Reg.Blk.new4 hb; obtain ⟨ckp, fkp, zkp⟩ := Reg.Blk.facts kp; obtain ⟨ckq, fkq, zkq⟩ := Reg.Blk.facts kq; obtain ⟨ckr, fkr, zkr⟩ := Reg.Blk.facts kr; obtain ⟨cks, fks, zks⟩ := Reg.Blk.facts ks; clear hb) | (replace hT := (((((hT.alloc hT.size _).alloc (Nat.le_trans hT.size (by simp; try omega)) _).alloc (Nat.le_trans hT.size (by simp; try omega)) _).alloc (Nat.le_trans hT.size (by simp; try omega)) _).alloc (Nat.le_trans hT.size (by simp; try omega)) _).trans (hb.mono (Nat.le_trans hT.size (by simp; try omega))); clear hb))
  go_wp2_with (first | (go_at_call 11; (with_reducible refine (head_any _).mono ?_); rintro e w' ⟨rfl, hb⟩; first | (replace hT := (hT).trans (hb.mono hT.size); replace kp := (kp).keep hb; clear ckp fkp zkp; obtain ⟨ckp, fkp, zkp⟩ := Reg.Blk.facts kp; replace kq := (kq).keep hb; clear ckq fkq zkq; obtain ⟨ckq, fkq, zkq⟩ := Reg.Blk.facts kq; replace kr := (kr).keep hb; clear ckr fkr zkr; obtain ⟨ckr, fkr, zkr⟩ := Reg.Blk.facts kr; replace ks := (ks).keep hb; clear cks fks zks; obtain ⟨cks, fks, zks⟩ := Reg.Blk.facts ks; clear hb) | (replace hT := (hT.alloc hT.size _).trans (hb.mono (Nat.le_trans hT.size (by simp; try omega))); replace kp := ((kp).alloc _).keep hb; clear ckp fkp zkp; obtain ⟨ckp, fkp, zkp⟩ := Reg.Blk.facts kp; replace kq := ((kq).alloc _).keep hb; clear ckq fkq zkq; obtain ⟨ckq, fkq, zkq⟩ := Reg.Blk.facts kq; replace kr := ((kr).alloc _).keep hb; clear ckr fkr zkr; obtain ⟨ckr, fkr, zkr⟩ := Reg.Blk.facts kr; replace ks := ((ks).alloc _).keep hb; clear cks fks zks; obtain ⟨cks, fks, zks⟩ := Reg.Blk.facts ks; clear hb) | (replace hT := ((hT.alloc hT.size _).alloc (Nat.le_trans hT.size (by simp; try omega)) _).trans (hb.mono (Nat.le_trans hT.size (by simp; try omega))); replace kp := (((kp).alloc _).alloc _).keep hb; clear ckp fkp zkp; obtain ⟨ckp, fkp, zkp⟩ := Reg.Blk.facts kp; replace kq := (((kq).alloc _).alloc _).keep hb; clear ckq fkq zkq; obtain ⟨ckq, fkq, zkq⟩ := Reg.Blk.facts kq; replace kr := (((kr).alloc _).alloc _).keep hb; clear ckr fkr zkr; obtain ⟨ckr, fkr, zkr⟩ := Reg.Blk.facts kr; replace ks := (((ks).alloc _).alloc _).keep hb; clear cks fks zks; obtain ⟨cks, fks, zks⟩ := Reg.Blk.facts ks; clear hb) | (replace hT := (((hT.alloc hT.size _).alloc (Nat.le_trans hT.size (by simp; try omega)) _).alloc (Nat.le_trans hT.size (by simp; try omega)) _).trans (hb.mono (Nat.le_trans hT.size (by simp; try omega))); replace kp := ((((kp).alloc _).alloc _).alloc _).keep hb; clear ckp fkp zkp; obtain ⟨ckp, fkp, zkp⟩ := Reg.Blk.facts kp; replace kq := ((((kq).alloc _).alloc _).alloc _).keep hb; clear ckq fkq zkq; obtain ⟨ckq, fkq, zkq⟩ := Reg.Blk.facts kq; replace kr := ((((kr).alloc _).alloc _).alloc _).keep hb; clear ckr fkr zkr; obtain ⟨ckr, fkr, zkr⟩ := Reg.Blk.facts kr; replace ks := ((((ks).alloc _).alloc _).alloc _).keep hb; clear cks fks zks; obtain ⟨cks, fks, zks⟩ := Reg.Blk.facts ks; clear hb) | (replace hT := ((((hT.alloc hT.size _).alloc (Nat.le_trans hT.size (by simp; try omega)) _).alloc (Nat.le_trans hT.size (by simp; try omega)) _).alloc (Nat.le_trans hT.size (by simp; try omega)) _).trans (hb.mono (Nat.le_trans hT.size (by simp; try omega))); replace kp := (((((kp).alloc _).alloc _).alloc _).alloc _).keep hb; clear ckp fkp zkp; obtain ⟨ckp, fkp, zkp⟩ := Reg.Blk.facts kp; replace kq := (((((kq).alloc _).alloc _).alloc _).alloc _).keep hb; clear ckq fkq zkq; obtain ⟨ckq, fkq, zkq⟩ := Reg.Blk.facts kq; replace kr := (((((kr).alloc _).alloc _).alloc _).alloc _).keep hb; clear ckr fkr zkr; obtain ⟨ckr, fkr, zkr⟩ := Reg.Blk.facts kr; replace ks := (((((ks).alloc _).alloc _).alloc _).alloc _).keep hb; clear cks fks zks; obtain ⟨cks, fks, zks⟩ := Reg.Blk.facts ks; clear hb) | (replace hT := (((((hT.alloc hT.size _).alloc (Nat.le_trans hT.size (by simp; try omega)) _).alloc (Nat.le_trans hT.size (by simp; try omega)) _).alloc (Nat.le_trans hT.size (by simp; try omega)) _).alloc (Nat.le_trans hT.size (by simp; try omega)) _).trans (hb.mono (Nat.le_trans hT.size (by simp; try omega))); replace kp := ((((((kp).alloc _).alloc _).alloc _).alloc _).alloc _).keep hb; clear ckp fkp zkp; obtain ⟨ckp, fkp, zkp⟩ := Reg.Blk.facts kp; replace kq := ((((((kq).alloc _).alloc _).alloc _).alloc _).alloc _).keep hb; clear ckq fkq zkq; obtain ⟨ckq, fkq, zkq⟩ := Reg.Blk.facts kq; replace kr := ((((((kr).alloc _).alloc _).alloc _).alloc _).alloc _).keep hb; clear ckr fkr zkr; obtain ⟨ckr, fkr, zkr⟩ := Reg.Blk.facts kr; replace ks := ((((((ks).alloc _).alloc _).alloc _).alloc _).alloc _).keep hb; clear cks fks zks; obtain ⟨cks, fks, zks⟩ := Reg.Blk.facts ks; clear hb)))
  refine Reg.wp_region_seq (by kernel_rfl) (by kernel_rfl) ?_
  simp only
  iterate 8
    apply Reg.SeqOK.val
    · intro γ W hW K hK
      obtain ⟨hc, hf, _⟩ := bcell hW
      simp only [Act.put, List.setIfInBounds_toArray, List.set_cons_zero, List.set_cons_succ] at hK
      unfold Reg.Does
      go_simp
      try simp only [IntWalk.i64_left]
      first
        | exact hK _ (Below.refl _ _)
        | (go_at_call 24; (with_reducible refine (grid2_any _ _ _ (by assumption) (by assumption)).mono ?_); rintro e w' ⟨rfl, hb⟩; exact hK _ hb)
    simp only [Act.put, List.setIfInBounds_toArray, List.set_cons_zero, List.set_cons_succ, List.nil_append, List.cons_append, Nat.reduceAdd, Nat.zero_add]
  refine Reg.SeqOK.tail (by kernel_rfl) (by kernel_rfl) (fun γ W2 hW q1 q2 q3 => ?_)
  clear q1 q2 q3
  have hb := hW
  clear hW
  first | (replace hT := (hT).trans (hb.mono hT.size); replace kp := (kp).keep hb; clear ckp fkp zkp; obtain ⟨ckp, fkp, zkp⟩ := Reg.Blk.facts kp; replace kq := (kq).keep hb; clear ckq fkq zkq; obtain ⟨ckq, fkq, zkq⟩ := Reg.Blk.facts kq; replace kr := (kr).keep hb; clear ckr fkr zkr; obtain ⟨ckr, fkr, zkr⟩ := Reg.Blk.facts kr; replace ks := (ks).keep hb; clear cks fks zks; obtain ⟨cks, fks, zks⟩ := Reg.Blk.facts ks; clear hb) | (replace hT := (hT.alloc hT.size _).trans (hb.mono (Nat.le_trans hT.size (by simp; try omega))); replace kp := ((kp).alloc _).keep hb; clear ckp fkp zkp; obtain ⟨ckp, fkp, zkp⟩ := Reg.Blk.facts kp; replace kq := ((kq).alloc _).keep hb; clear ckq fkq zkq; obtain ⟨ckq, fkq, zkq⟩ := Reg.Blk.facts kq; replace kr := ((kr).alloc _).keep hb; clear ckr fkr zkr; obtain ⟨ckr, fkr, zkr⟩ := Reg.Blk.facts kr; replace ks := ((ks).alloc _).keep hb; clear cks fks zks; obtain ⟨cks, fks, zks⟩ := Reg.Blk.facts ks; clear hb) | (replace hT := ((hT.alloc hT.size _).alloc (Nat.le_trans hT.size (by simp; try omega)) _).trans (hb.mono (Nat.le_trans hT.size (by simp; try omega))); replace kp := (((kp).alloc _).alloc _).keep hb; clear ckp fkp zkp; obtain ⟨ckp, fkp, zkp⟩ := Reg.Blk.facts kp; replace kq := (((kq).alloc _).alloc _).keep hb; clear ckq fkq zkq; obtain ⟨ckq, fkq, zkq⟩ := Reg.Blk.facts kq; replace kr := (((kr).alloc _).alloc _).keep hb; clear ckr fkr zkr; obtain ⟨ckr, fkr, zkr⟩ := Reg.Blk.facts kr; replace ks := (((ks).alloc _).alloc _).keep hb; clear cks fks zks; obtain ⟨cks, fks, zks⟩ := Reg.Blk.facts ks; clear hb) | (replace hT := (((hT.alloc hT.size _).alloc (Nat.le_trans hT.size (by simp; try omega)) _).alloc (Nat.le_trans hT.size (by simp; try omega)) _).trans (hb.mono (Nat.le_trans hT.size (by simp; try omega))); replace kp := ((((kp).alloc _).alloc _).alloc _).keep hb; clear ckp fkp zkp; obtain ⟨ckp, fkp, zkp⟩ := Reg.Blk.facts kp; replace kq := ((((kq).alloc _).alloc _).alloc _).keep hb; clear ckq fkq zkq; obtain ⟨ckq, fkq, zkq⟩ := Reg.Blk.facts kq; replace kr := ((((kr).alloc _).alloc _).alloc _).keep hb; clear ckr fkr zkr; obtain ⟨ckr, fkr, zkr⟩ := Reg.Blk.facts kr; replace ks := ((((ks).alloc _).alloc _).alloc _).keep hb; clear cks fks zks; obtain ⟨cks, fks, zks⟩ := Reg.Blk.facts ks; clear hb) | (replace hT := ((((hT.alloc hT.size _).alloc (Nat.le_trans hT.size (by simp; try omega)) _).alloc (Nat.le_trans hT.size (by simp; try omega)) _).alloc (Nat.le_trans hT.size (by simp; try omega)) _).trans (hb.mono (Nat.le_trans hT.size (by simp; try omega))); replace kp := (((((kp).alloc _).alloc _).alloc _).alloc _).keep hb; clear ckp fkp zkp; obtain ⟨ckp, fkp, zkp⟩ := Reg.Blk.facts kp; replace kq := (((((kq).alloc _).alloc _).alloc _).alloc _).keep hb; clear ckq fkq zkq; obtain ⟨ckq, fkq, zkq⟩ := Reg.Blk.facts kq; replace kr := (((((kr).alloc _).alloc _).alloc _).alloc _).keep hb; clear ckr fkr zkr; obtain ⟨ckr, fkr, zkr⟩ := Reg.Blk.facts kr; replace ks := (((((ks).alloc _).alloc _).alloc _).alloc _).keep hb; clear cks fks zks; obtain ⟨cks, fks, zks⟩ := Reg.Blk.facts ks; clear hb) | (replace hT := (((((hT.alloc hT.size _).alloc (Nat.le_trans hT.size (by simp; try omega)) _).alloc (Nat.le_trans hT.size (by simp; try omega)) _).alloc (Nat.le_trans hT.size (by simp; try omega)) _).alloc (Nat.le_trans hT.size (by simp; try omega)) _).trans (hb.mono (Nat.le_trans hT.size (by simp; try omega))); replace kp := ((((((kp).alloc _).alloc _).alloc _).alloc _).alloc _).keep hb; clear ckp fkp zkp; obtain ⟨ckp, fkp, zkp⟩ := Reg.Blk.facts kp; replace kq := ((((((kq).alloc _).alloc _).alloc _).alloc _).alloc _).keep hb; clear ckq fkq zkq; obtain ⟨ckq, fkq, zkq⟩ := Reg.Blk.facts kq; replace kr := ((((((kr).alloc _).alloc _).alloc _).alloc _).alloc _).keep hb; clear ckr fkr zkr; obtain ⟨ckr, fkr, zkr⟩ := Reg.Blk.facts kr; replace ks := ((((((ks).alloc _).alloc _).alloc _).alloc _).alloc _).keep hb; clear cks fks zks; obtain ⟨cks, fks, zks⟩ := Reg.Blk.facts ks; clear hb)
  refine Reg.tail_cons ?_
  unfold Reg.Does
  go_simp
  refine Reg.tail_cons ?_
  unfold Reg.Does
  go_simp
  refine Reg.tail_nil ?_
  have kl := Reg.Blk.new W2 #[.int .i64 (gm x1), .int .i64 (gm y1), .int .i64 (gm x2), .int .i64 (gm y2), .int .i64 (gm x3), .int .i64 (gm y3), .int .i64 (gm x4), .int .i64 (gm y4)] 23
  clear kp kq kr ks ckp fkp zkp ckq fkq zkq ckr fkr zkr cks fks zks
  replace hT := hT.alloc hT.size (.cells #[.int .i64 (gm x1), .int .i64 (gm y1), .int .i64 (gm x2), .int .i64 (gm y2), .int .i64 (gm x3), .int .i64 (gm y3), .int .i64 (gm x4), .int .i64 (gm y4)] 23)
  obtain ⟨W3, hW3⟩ : ∃ W3, W3 = W2.alloc (.cells #[.int .i64 (gm x1), .int .i64 (gm y1), .int .i64 (gm x2), .int .i64 (gm y2), .int .i64 (gm x3), .int .i64 (gm y3), .int .i64 (gm x4), .int .i64 (gm y4)] 23) := ⟨_, rfl⟩
  rw [← hW3] at hT kl ⊢
  generalize W2.heap.size = gl at *
  clear hW3
  obtain ⟨ckl, fkl, zkl⟩ := Reg.Blk.facts kl
  go_wp2_with (first | (go_at_call 25; (with_reducible refine (at_any _ _ _).mono ?_); rintro e w' ⟨rfl, hb⟩; first | (replace hT := (hT).trans (hb.mono hT.size); replace kl := (kl).keep hb; clear ckl fkl zkl; obtain ⟨ckl, fkl, zkl⟩ := Reg.Blk.facts kl; clear hb) | (replace hT := (hT.alloc hT.size _).trans (hb.mono (Nat.le_trans hT.size (by simp; try omega))); replace kl := ((kl).alloc _).keep hb; clear ckl fkl zkl; obtain ⟨ckl, fkl, zkl⟩ := Reg.Blk.facts kl; clear hb) | (replace hT := ((hT.alloc hT.size _).alloc (Nat.le_trans hT.size (by simp; try omega)) _).trans (hb.mono (Nat.le_trans hT.size (by simp; try omega))); replace kl := (((kl).alloc _).alloc _).keep hb; clear ckl fkl zkl; obtain ⟨ckl, fkl, zkl⟩ := Reg.Blk.facts kl; clear hb) | (replace hT := (((hT.alloc hT.size _).alloc (Nat.le_trans hT.size (by simp; try omega)) _).alloc (Nat.le_trans hT.size (by simp; try omega)) _).trans (hb.mono (Nat.le_trans hT.size (by simp; try omega))); replace kl := ((((kl).alloc _).alloc _).alloc _).keep hb; clear ckl fkl zkl; obtain ⟨ckl, fkl, zkl⟩ := Reg.Blk.facts kl; clear hb) | (replace hT := ((((hT.alloc hT.size _).alloc (Nat.le_trans hT.size (by simp; try omega)) _).alloc (Nat.le_trans hT.size (by simp; try omega)) _).alloc (Nat.le_trans hT.size (by simp; try omega)) _).trans (hb.mono (Nat.le_trans hT.size (by simp; try omega))); replace kl := (((((kl).alloc _).alloc _).alloc _).alloc _).keep hb; clear ckl fkl zkl; obtain ⟨ckl, fkl, zkl⟩ := Reg.Blk.facts kl; clear hb) | (replace hT := (((((hT.alloc hT.size _).alloc (Nat.le_trans hT.size (by simp; try omega)) _).alloc (Nat.le_trans hT.size (by simp; try omega)) _).alloc (Nat.le_trans hT.size (by simp; try omega)) _).alloc (Nat.le_trans hT.size (by simp; try omega)) _).trans (hb.mono (Nat.le_trans hT.size (by simp; try omega))); replace kl := ((((((kl).alloc _).alloc _).alloc _).alloc _).alloc _).keep hb; clear ckl fkl zkl; obtain ⟨ckl, fkl, zkl⟩ := Reg.Blk.facts kl; clear hb)))
  obtain ⟨W4, hW4⟩ : ∃ W4, W4 = w'.alloc (.cells #[.int .i64 0, .int .i64 0] 23) := ⟨_, rfl⟩
  have hgh : w.heap.size ≤ w'.heap.size := hT.size
  replace hT := hT.alloc hT.size (.cells #[.int .i64 0, .int .i64 0] 23)
  have kh := Reg.Blk.new w' #[.int .i64 0, .int .i64 0] 23
  replace kl := kl.alloc (.cells #[.int .i64 0, .int .i64 0] 23)
  have hzl : gl < w'.heap.size := zkl
  rw [← hW4] at hT kh kl ⊢
  generalize w'.heap.size = gh at *
  clear hW4 ckl fkl zkl
  obtain ⟨X, hX⟩ : ∃ X, X = xs4 (gm x1) (gm x2) (gm x3) (gm x4) := ⟨_, rfl⟩
  obtain ⟨Y, hY⟩ : ∃ Y, Y = xs4 (gm y1) (gm y2) (gm y3) (gm y4) := ⟨_, rfl⟩
  have iX : ∀ i, InG (X i) := fun i => by subst hX; unfold xs4; split <;> exact gm_in _
  have iY : ∀ i, InG (Y i) := fun i => by subst hY; unfold xs4; split <;> exact gm_in _
  have pl : Pts gl X Y W4 := by
    refine .ofBlk ?_
    subst hX hY
    exact kl
  clear kl hX hY b1 b2 b3 b4 b5 b6 b7 b8
  have IX := Lib.hid iX
  have IY := Lib.hid iY
  have PL := Lib.hid pl
  clear iX iY pl
  have HT := Lib.hid hT
  clear hT
  go_loopw [16] (fun i wr => ∃ (k : Nat) (hx hy : Int), k ≤ 4 ∧ i = .int .i64 k ∧ InG hx ∧ InG hy ∧ (∀ j, j < k → X j ≤ hx ∧ Y j ≤ hy) ∧ Reg.Blk gh #[.int .i64 hx, .int .i64 hy] 23 wr ∧ Pts gl X Y wr ∧ Below w.heap.size w wr) (fun i _ => 4 - (intOf i).toNat)
  case atStart => exact ⟨0, 0, 0, by omega, rfl, by unfold InG; omega, by unfold InG; omega, fun j hj => by omega, kh, PL.out, HT.out⟩
  case round =>
    obtain ⟨k, hx, hy, hk, rfl, ihx, ihy, hmax, kh, pl, hT⟩ := hrel
    have HM := Lib.hid hmax
    have IHX := Lib.hid ihx
    have IHY := Lib.hid ihy
    have PL := Lib.hid pl
    clear hmax pl
    unfold InG at ihx ihy
    obtain ⟨ckh, fkh, zkh⟩ := Reg.Blk.facts kh
    by_cases hlt : k < 4
    · obtain ⟨cx, cy⟩ := PL.out.2 k hlt
      have hz := PL.out.1
      have hne : ¬ gl = gh := by omega
      have hk0 : (0 : Int) ≤ (k : Int) := by omega
      have hk4 : (k : Int) < 4 := by omega
      have hT' := Lib.hid hT
      clear hT
      go_wp2_with fail
      refine Reg.wp_region_seq (by kernel_rfl) (by kernel_rfl) ?_
      simp only
      iterate 17
        apply Reg.SeqOK.val
        · intro γ W hW K hK
          obtain ⟨hc, hf, _⟩ := bcell hW
          simp only [Act.put, List.setIfInBounds_toArray, List.set_cons_zero, List.set_cons_succ] at hK
          unfold Reg.Does
          go_simp
          try simp only [IntWalk.i64_left]
          first
            | exact hK _ (Below.refl _ _)
            | (go_at_call 25; (with_reducible refine (at_any _ _ _).mono ?_); rintro e w' ⟨rfl, hb⟩; exact hK _ hb)
        simp only [Act.put, List.setIfInBounds_toArray, List.set_cons_zero, List.set_cons_succ, List.nil_append, List.cons_append, Nat.reduceAdd, Nat.zero_add]
      refine Reg.SeqOK.last (by kernel_rfl) (by kernel_rfl) (fun γ W hW q1 q2 q3 => ?_)
      obtain ⟨hc, hf, _⟩ := bcell hW
      clear q1 q2 q3
      unfold Reg.Does
      go_simp
      have kh2 := kh.keep hW
      have up := Reg.upd2 (x := .int .i64 (max hx (X k))) (y := .int .i64 (max hy (Y k))) kh2
      have hT2 := hT'.out.trans (hW.mono hT'.out.size)
      have pl2 := PL.out.below hW
      generalize ((W.setCell ⟨gh, 0, none⟩ (.int .i64 (max hx (X k)))).setCell ⟨gh, 1, none⟩ (.int .i64 (max hy (Y k)))) = W5 at *
      have pl3 : Pts gl X Y W5 := ⟨by rw [up.size]; exact pl2.1, fun i hi => ⟨(World.cell?_of_block (a := ⟨gl, _, none⟩) (up.far _ hne)).trans (pl2.2 i hi).1, (World.cell?_of_block (a := ⟨gl, _, none⟩) (up.far _ hne)).trans (pl2.2 i hi).2⟩⟩
      have hT3 : Below w.heap.size w W5 := Reg.updB hgh _ _ _ _ hT2 up
      have Q := Lib.hid (And.intro up.at_ (And.intro pl3 hT3))
      clear hW hc hf kh2 up hT2 pl2 pl3 hT3 cx cy ckh fkh zkh kh γ
      go_wp2_with fail
      refine ⟨⟨k + 1, max hx (X k), max hy (Y k), by omega, by go_num, ?_, ?_, fun j hj => ?_, Q.out⟩, by simp [intOf]; omega⟩
      · have := IX.out k; unfold InG at *; omega
      · have := IY.out k; unfold InG at *; omega
      · rcases (by omega : j < k ∨ j = k) with h | rfl
        · have := HM.out j h; omega
        · omega
    · obtain rfl : k = 4 := by omega
      have hT' := Lib.hid hT
      have hne : ¬ gl = gh := by omega
      obtain ⟨nx, hnx⟩ : ∃ nx, nx = 32767 - hx + 1 := ⟨_, rfl⟩
      obtain ⟨ny, hny⟩ : ∃ ny, ny = 32767 - hy + 1 := ⟨_, rfl⟩
      have hnx1 : 1 ≤ nx := by omega
      have hny1 : 1 ≤ ny := by omega
      have s1 : IntKind.i64.wrap (32767 - hx) = 32767 - hx := IntWalk.i64_in _ (by omega)
      have s2 : IntKind.i64.wrap (32767 - hy) = 32767 - hy := IntWalk.i64_in _ (by omega)
      have s3 : IntKind.i64.wrap (32767 - hx + 1) = nx := by rw [hnx]; exact IntWalk.i64_in _ (by omega)
      have s4 : IntKind.i64.wrap (32767 - hy + 1) = ny := by rw [hny]; exact IntWalk.i64_in _ (by omega)
      have s5 : IntKind.i64.wrap ux = ux := IntWalk.i64_in _ (by omega)
      have s6 : IntKind.i64.wrap uy = uy := IntWalk.i64_in _ (by omega)
      have n1 : ¬ nx = 0 := by omega
      have n2 : ¬ ny = 0 := by omega
      have dxb : 0 ≤ ux.tmod nx ∧ ux.tmod nx ≤ 32767 - hx := by
        rw [Int.tmod_eq_emod_of_nonneg bx.1]
        have := Int.emod_nonneg ux n1
        have := Int.emod_lt_of_pos ux (by omega : 0 < nx)
        omega
      have dyb : 0 ≤ uy.tmod ny ∧ uy.tmod ny ≤ 32767 - hy := by
        rw [Int.tmod_eq_emod_of_nonneg by'.1]
        have := Int.emod_nonneg uy n2
        have := Int.emod_lt_of_pos uy (by omega : 0 < ny)
        omega
      have DX := Lib.hid dxb
      have DY := Lib.hid dyb
      clear hT hlt dxb dyb hnx hny
      go_wp2_with fail
      refine Reg.wp_region_seq (by kernel_rfl) (by kernel_rfl) ?_
      simp only
      iterate 16
        apply Reg.SeqOK.val
        · intro γ W hW K hK
          obtain ⟨hc, hf, _⟩ := bcell hW
          simp only [Act.put, List.setIfInBounds_toArray, List.set_cons_zero, List.set_cons_succ] at hK
          unfold Reg.Does
          go_simp
          try simp only [IntWalk.i64_left]
          first
            | exact hK _ (Below.refl _ _)
        simp only [Act.put, List.setIfInBounds_toArray, List.set_cons_zero, List.set_cons_succ, List.nil_append, List.cons_append, Nat.reduceAdd, Nat.zero_add]
      refine Reg.SeqOK.nil (by kernel_rfl) (fun γ W6 hW q1 q2 q3 => ?_)
      clear q1 q2 q3 γ s1 s2 s3 s4 s5 s6 n1 n2
      replace PL := Lib.hid (PL.out.below hW)
      replace hT' := Lib.hid (hT'.out.trans (hW.mono hT'.out.size))
      clear hW ckh fkh zkh kh
      generalize ux.tmod nx = dx at *
      generalize uy.tmod ny = dy at *
      clear hnx1 hny1
      obtain ⟨MX, hMX⟩ : ∃ MX : Nat → Int, MX = fun i => X i + dx := ⟨_, rfl⟩
      obtain ⟨MY, hMY⟩ : ∃ MY : Nat → Int, MY = fun i => Y i + dy := ⟨_, rfl⟩
      have hMX' := Lib.hid hMX
      have hMY' := Lib.hid hMY
      clear hMX hMY
      have hzw : w.heap.size ≤ W6.heap.size := hT'.out.size
      have hgl6 : gl < W6.heap.size := PL.out.1
      go_wp2_with fail
      go_loopw [19, 20, 21] (fun a b i wr => ∃ (k : Nat), k ≤ 4 ∧ i = .int .i64 k ∧ wr.ownsRow W6.heap.size 23 2 a k (pc MX MY k) ∧ wr.ownsRow W6.heap.size 23 2 b k (pc Y X k) ∧ (∀ g, a.ownBlock = some g → b.ownBlock ≠ some g) ∧ Pts gl X Y wr ∧ Below w.heap.size w wr ∧ W6.heap.size ≤ wr.heap.size) (fun _ _ i _ => 4 - (intOf i).toNat)
      case atStart => exact ⟨0, by omega, rfl, World.ownsRow_nil _ _ _ _, World.ownsRow_nil _ _ _ _, fun g e => by simp [Value.ownBlock] at e, PL.out, hT'.out, Nat.le_refl _⟩
      case round =>
        obtain ⟨k, hk, rfl, hra, hrb, hdis, pl, hlow, hz6⟩ := hrel
        have RA := Lib.hid hra
        have RB := Lib.hid hrb
        have DIS := Lib.hid hdis
        have PL2 := Lib.hid pl
        have LOW := Lib.hid hlow
        clear hra hrb hdis pl hlow
        by_cases hlt : k < 4
        · obtain ⟨cx, cy⟩ := PL2.out.2 k hlt
          have hz := PL2.out.1
          have hk0 : (0 : Int) ≤ (k : Int) := by omega
          have hk4 : (k : Int) < 4 := by omega
          have hna : ¬ mvM u19 gl := fun e => by have := (RA.out.lt _ e).1; omega
          have hnb : ¬ mvM u20 gl := fun e => by have := (RB.out.lt _ e).1; omega
          have jx := IX.out k
          have jy := IY.out k
          have s1 : IntKind.i64.wrap (X k + dx) = X k + dx := IntWalk.i64_in _ (by have := DX.out; have := HM.out k hlt; have := IHX.out; unfold InG at *; omega)
          have s2 : IntKind.i64.wrap (Y k + dy) = Y k + dy := IntWalk.i64_in _ (by have := DY.out; have := HM.out k hlt; have := IHY.out; unfold InG at *; omega)
          go_wp2_with fail
          refine Reg.wp_region_eff (mvM u19) (mvF u19 16 (X k + dx) (Y k + dy)) (mvT W6.heap.size wr.heap.size u19 k (pc MX MY k) [.int .i64 (X k + dx), .int .i64 (Y k + dy)]) (by kernel_rfl) (by kernel_rfl) (fun _ _ _ _ h hk => mvF_stays _ _ _ _ _ _ _ _ h hk) mvT_stays ⟨RA.out, Nat.le_refl _⟩ ?_
          simp only
          iterate 16
            apply Reg.SeqE.val
            rotate_left 2
            · intro δ W hW hkn K hK
              obtain ⟨hc, hf, _⟩ := Reg.kcell hW
              simp only [Act.put, List.setIfInBounds_toArray, List.set_cons_zero, List.set_cons_succ] at hK
              unfold Reg.Does
              go_simp
              try simp only [IntWalk.i64_left]
              first
                | exact hK _ (Below.refl _ _)
                | (go_at_call 25; (with_reducible refine (at_any _ _ _).mono ?_); rintro e w' ⟨rfl, hb⟩; exact hK _ hb)
            rotate_left 1
            · intro δ δ' hd; first | rfl | (simp only [hd _ (show Reg.reach _ 12 _ _ = true by kernel_rfl)])
            · intro x w; first | exact trivial | (intro e; exact absurd e (by decide))
            simp only [Act.put, List.setIfInBounds_toArray, List.set_cons_zero, List.set_cons_succ, List.nil_append, List.cons_append, Nat.reduceAdd, Nat.zero_add]
          refine Reg.SeqE.new (fun δ W7 hW7 hkn K hK => ?_) ?_
          · simp only [Act.put, List.setIfInBounds_toArray, List.set_cons_zero, List.set_cons_succ] at hK
            unfold Reg.Does
            go_simp
            exact hK _ _ ((Below.refl _ _).alloc (Nat.le_refl _) _) (fun _ => ⟨_, rfl, Reg.Blk.new _ _ _, fun e => by have h1 := (RA.out.lt _ e).2; have h2 := hW7.size; omega⟩)
          simp only [Act.put, List.setIfInBounds_toArray, List.set_cons_zero, List.set_cons_succ, List.nil_append, List.cons_append, Nat.reduceAdd, Nat.zero_add]
          refine Reg.SeqE.eff (fun e h => by simp at h) (fun δ W7 hW7 hkn hT7 K hK => ?_) ?_
          · obtain ⟨ho, hz7⟩ := hT7
            obtain ⟨g, e16, hb, hne16⟩ := hkn 16 (by kernel_rfl) rfl
            obtain ⟨i0, hi0, hz0, hz1, hz2⟩ := info_parts info_pt
            refine Ap.does_appG Try.underlying38 hi0 hz0 hz1 hz2 rfl (by omega) (by omega) (by rfl) _ _ rfl rfl e16 ho (.blk2 hb rfl rfl) (by simp) (by omega) (by have := hW7.size; omega) ?_
            intro A' c' w8 ho8 hg8 hat8
            refine hK _ _ (Ap.keep_grown hg8) (fun e => absurd e (by decide)) ⟨A', c', rfl, ho8, ?_⟩
            rcases hat8 with h | h
            · exact .inl h
            · exact .inr ⟨_, h, hz7⟩
          simp only [Act.put, List.setIfInBounds_toArray, List.set_cons_zero, List.set_cons_succ, List.nil_append, List.cons_append, Nat.reduceAdd, Nat.zero_add]
          refine Reg.SeqE.val (fun δ => δ 17) (fun δ δ' hd => hd 17 (by kernel_rfl)) (fun _ _ e => absurd e (by decide)) (fun δ W7 hW7 hkn K hK => ?_) ?_
          · simp only [Act.put, List.setIfInBounds_toArray, List.set_cons_zero, List.set_cons_succ] at hK
            unfold Reg.Does
            go_simp
            exact hK _ (Below.refl _ _)
          simp only [Act.put, List.setIfInBounds_toArray, List.set_cons_zero, List.set_cons_succ, List.nil_append, List.cons_append, Nat.reduceAdd, Nat.zero_add]
          refine Reg.SeqE.nil (fun δ W8 hW8 hF hT8 => ?_)
          obtain ⟨A8, c8, e8, ho8, hat8⟩ : ∃ A c, δ 17 = .slice A (k + 1) c ∧ W8.ownsRow W6.heap.size 23 2 (δ 17) (k + 1) (pc MX MY k ++ [Value.int .i64 (X k + dx), Value.int .i64 (Y k + dy)]) ∧ ((δ 17).ownBlock = u19.ownBlock ∨ ∃ g, (δ 17).ownBlock = some g ∧ wr.heap.size ≤ g) := hT8
          generalize hbs : δ 16 = sl1 at *
          generalize δ 17 = u19' at *
          clear hF hbs
          have hdis2 : ∀ g, u19'.ownBlock = some g → u20.ownBlock ≠ some g := fun g e1 e2 => by
            rcases hat8 with h | ⟨g2, h, hg⟩
            · exact DIS.out g (by rw [← h]; exact e1) e2
            · have := (RB.out.lt _ e2).2
              rw [e1] at h
              injection h with h
              omega
          have RA2 := Lib.hid ho8
          have RB2 := Lib.hid (Ap.own_keep RB.out hW8 fun g e m => DIS.out g m e)
          have DIS2 := Lib.hid hdis2
          have PL3 := Lib.hid (PL2.out.keep hW8 hna)
          have LOW2 := Lib.hid (LOW.out.trans (hW8.below fun g hg => ⟨Nat.lt_of_lt_of_le hg LOW.out.size, fun e => by have := (RA.out.lt _ e).1; omega⟩))
          have hz8 := hW8.size
          have hlg : gl < W8.heap.size := PL3.out.1
          clear ho8 hat8 hdis2 hW8 cx cy hna e8 s1 s2
          obtain ⟨cx, cy⟩ := PL3.out.2 k hlt
          go_wp2_with fail
          refine Reg.wp_region_eff (mvM u20) (mvF u20 12 (Y k) (X k)) (mvT W6.heap.size W8.heap.size u20 k (pc Y X k) [.int .i64 (Y k), .int .i64 (X k)]) (by kernel_rfl) (by kernel_rfl) (fun _ _ _ _ h hk => mvF_stays _ _ _ _ _ _ _ _ h hk) mvT_stays ⟨RB2.out, Nat.le_refl _⟩ ?_
          simp only
          iterate 12
            apply Reg.SeqE.val
            rotate_left 2
            · intro δ W hW hkn K hK
              obtain ⟨hc, hf, _⟩ := Reg.kcell hW
              simp only [Act.put, List.setIfInBounds_toArray, List.set_cons_zero, List.set_cons_succ] at hK
              unfold Reg.Does
              go_simp
              try simp only [IntWalk.i64_left]
              first
                | exact hK _ (Below.refl _ _)
                | (go_at_call 25; (with_reducible refine (at_any _ _ _).mono ?_); rintro e w' ⟨rfl, hb⟩; exact hK _ hb)
            rotate_left 1
            · intro δ δ' hd; first | rfl | (simp only [hd _ (show Reg.reach _ 12 _ _ = true by kernel_rfl)])
            · intro x w; first | exact trivial | (intro e; exact absurd e (by decide))
            simp only [Act.put, List.setIfInBounds_toArray, List.set_cons_zero, List.set_cons_succ, List.nil_append, List.cons_append, Nat.reduceAdd, Nat.zero_add]
          refine Reg.SeqE.new (fun δ W7 hW7 hkn K hK => ?_) ?_
          · simp only [Act.put, List.setIfInBounds_toArray, List.set_cons_zero, List.set_cons_succ] at hK
            unfold Reg.Does
            go_simp
            exact hK _ _ ((Below.refl _ _).alloc (Nat.le_refl _) _) (fun _ => ⟨_, rfl, Reg.Blk.new _ _ _, fun e => by have h1 := (RB2.out.lt _ e).2; have h2 := hW7.size; omega⟩)
          simp only [Act.put, List.setIfInBounds_toArray, List.set_cons_zero, List.set_cons_succ, List.nil_append, List.cons_append, Nat.reduceAdd, Nat.zero_add]
          refine Reg.SeqE.eff (fun e h => by simp at h) (fun δ W7 hW7 hkn hT7 K hK => ?_) ?_
          · obtain ⟨ho, hz7⟩ := hT7
            obtain ⟨g, e16, hb, hne16⟩ := hkn 12 (by kernel_rfl) rfl
            obtain ⟨i0, hi0, hz0, hz1, hz2⟩ := info_parts info_pt
            refine Ap.does_appG Try.underlying38 hi0 hz0 hz1 hz2 rfl (by omega) (by omega) (by rfl) _ _ rfl rfl e16 ho (.blk2 hb rfl rfl) (by simp) (by omega) (by have := hW7.size; omega) ?_
            intro A' c' w8 ho8 hg8 hat8
            refine hK _ _ (Ap.keep_grown hg8) (fun e => absurd e (by decide)) ⟨A', c', rfl, ho8, ?_⟩
            rcases hat8 with h | h
            · exact .inl h
            · exact .inr ⟨_, h, hz7⟩
          simp only [Act.put, List.setIfInBounds_toArray, List.set_cons_zero, List.set_cons_succ, List.nil_append, List.cons_append, Nat.reduceAdd, Nat.zero_add]
          refine Reg.SeqE.val (fun δ => δ 13) (fun δ δ' hd => hd 13 (by kernel_rfl)) (fun _ _ e => absurd e (by decide)) (fun δ W7 hW7 hkn K hK => ?_) ?_
          · simp only [Act.put, List.setIfInBounds_toArray, List.set_cons_zero, List.set_cons_succ] at hK
            unfold Reg.Does
            go_simp
            exact hK _ (Below.refl _ _)
          simp only [Act.put, List.setIfInBounds_toArray, List.set_cons_zero, List.set_cons_succ, List.nil_append, List.cons_append, Nat.reduceAdd, Nat.zero_add]
          refine Reg.SeqE.nil (fun δ W9 hW9 hF hT9 => ?_)
          obtain ⟨A9, c9, e9, ho9, hat9⟩ : ∃ A c, δ 13 = .slice A (k + 1) c ∧ W9.ownsRow W6.heap.size 23 2 (δ 13) (k + 1) (pc Y X k ++ [Value.int .i64 (Y k), Value.int .i64 (X k)]) ∧ ((δ 13).ownBlock = u20.ownBlock ∨ ∃ g, (δ 13).ownBlock = some g ∧ W8.heap.size ≤ g) := hT9
          generalize hbs : δ 12 = sl2 at *
          generalize δ 13 = u20' at *
          clear hF hbs
          have hdis3 : ∀ g, u19'.ownBlock = some g → u20'.ownBlock ≠ some g := fun g e1 e2 => by
            rcases hat9 with h | ⟨g2, h, hg⟩
            · exact DIS2.out g e1 (by rw [← h]; exact e2)
            · have := (RA2.out.lt _ e1).2
              rw [e2] at h
              injection h with h
              omega
          have RB3 := Lib.hid ho9
          have RA3 := Lib.hid (Ap.own_keep RA2.out hW9 fun g e m => DIS2.out g e m)
          have DIS3 := Lib.hid hdis3
          have PL4 := Lib.hid (PL3.out.keep hW9 hnb)
          have LOW3 := Lib.hid (LOW2.out.trans (hW9.below fun g hg => ⟨Nat.lt_of_lt_of_le hg LOW2.out.size, fun e => by have := (RB2.out.lt _ e).1; omega⟩))
          have hz9 := hW9.size
          clear ho9 hat9 hdis3 hW9 cx cy hnb e9
          go_wp2_with fail
          refine ⟨⟨k + 1, by omega, by go_num, ?_, RB3.out, DIS3.out, PL4.out, LOW3.out, by omega⟩, by simp [intOf]; omega⟩
          have := RA3.out
          simp only [pc, hMX'.out, hMY'.out] at this ⊢
          exact this
        · obtain rfl : k = 4 := by omega
          obtain ⟨ga, ca, hva, _, _⟩ := RA.out.form (by omega)
          obtain ⟨gb, cb, hvb, _, _⟩ := RB.out.form (by omega)
          subst hva hvb
          have hca : 4 ≤ ca := Ap.cap_le RA.out
          have hcb : 4 ≤ cb := Ap.cap_le RB.out
          have PA := Lib.hid (Pts.ofRow RA.out)
          have PB := Lib.hid (Pts.ofRow RB.out)
          obtain ⟨l0, l1, l2, l3, l4, l5, l6, l7, lz⟩ := PL2.out.cells
          have hT := Below.refl wr.heap.size wr
          have HFE := Lib.hid (foot_ok (IX.out 0) (IY.out 0) (IX.out 1) (IY.out 1) (IX.out 2) (IY.out 2))
          clear hlt
          go_wp2_with fail
          refine Reg.wp_region_seq (by kernel_rfl) (by kernel_rfl) ?_
          simp only
          iterate 14
            apply Reg.SeqOK.val
            · intro γ W hW K hK
              obtain ⟨hc, hf, _⟩ := bcell hW
              simp only [Act.put, List.setIfInBounds_toArray, List.set_cons_zero, List.set_cons_succ] at hK
              unfold Reg.Does
              go_simp
              try simp only [IntWalk.i64_left]
              first
                | exact hK _ (Below.refl _ _)
                | (go_at_call 12; (with_reducible refine (foot_any _ _ _ _ _ _ _).mono ?_); rintro e w' ⟨rfl, hb⟩; exact hK _ hb)
            simp only [Act.put, List.setIfInBounds_toArray, List.set_cons_zero, List.set_cons_succ, List.nil_append, List.cons_append, Nat.reduceAdd, Nat.zero_add]
          iterate 2
            apply Reg.SeqOK.box
            · intro γ W hW K hK
              simp only [Act.put, List.setIfInBounds_toArray, List.set_cons_zero, List.set_cons_succ] at hK
              unfold Reg.Does
              go_simp
              exact hK
            simp only [Act.put, List.setIfInBounds_toArray, List.set_cons_zero, List.set_cons_succ, List.nil_append, List.cons_append, Nat.reduceAdd, Nat.zero_add]
          refine Reg.SeqOK.st 14 _ _ _ rfl (by kernel_rfl) ?_ ?_
          · intro γ W hW hge hat K hK
            obtain ⟨hcl, hfr⟩ := Reg.cells_at hat
            simp only [Act.put, List.setIfInBounds_toArray, List.set_cons_zero, List.set_cons_succ] at hK
            unfold Reg.Does
            go_simp
            exact hK _ (Reg.upd2 hat)
          simp only [Act.put, List.setIfInBounds_toArray, List.set_cons_zero, List.set_cons_succ, List.nil_append, List.cons_append, Nat.reduceAdd, Nat.zero_add]
          refine Reg.SeqOK.st 15 _ _ _ rfl (by kernel_rfl) ?_ ?_
          · intro γ W hW hge hat K hK
            obtain ⟨hcl, hfr⟩ := Reg.cells_at hat
            simp only [Act.put, List.setIfInBounds_toArray, List.set_cons_zero, List.set_cons_succ] at hK
            unfold Reg.Does
            go_simp
            exact hK _ (Reg.upd2 hat)
          simp only [Act.put, List.setIfInBounds_toArray, List.set_cons_zero, List.set_cons_succ, List.nil_append, List.cons_append, Nat.reduceAdd, Nat.zero_add]
          iterate 1
            apply Reg.SeqOK.val
            · intro γ W hW K hK
              obtain ⟨hc, hf, _⟩ := bcell hW
              simp only [Act.put, List.setIfInBounds_toArray, List.set_cons_zero, List.set_cons_succ] at hK
              unfold Reg.Does
              go_simp
              try simp only [IntWalk.i64_left]
              first
                | exact hK _ (Below.refl _ _)
            simp only [Act.put, List.setIfInBounds_toArray, List.set_cons_zero, List.set_cons_succ, List.nil_append, List.cons_append, Nat.reduceAdd, Nat.zero_add]
          refine Reg.SeqOK.nil (by kernel_rfl) (fun γ W7 hW hBx hAp q3 => ?_)
          clear q3
          simp only [Reg.Boxes, Reg.Apart, Reg.Differ, and_true, true_and, World.size_alloc, Nat.reduceAdd, Nat.zero_add] at hBx hAp
          obtain ⟨⟨_, _, at14⟩, _, _, at15⟩ := hBx
          generalize γ 14 = gu at *
          generalize γ 15 = gv at *
          have ku : Reg.Blk gu _ _ W7 := at14
          have kv : Reg.Blk gv _ _ W7 := at15
          have PL3 := Lib.hid (PL2.out.below hW)
          have PA2 := Lib.hid (PA.out.below hW)
          have PB2 := Lib.hid (PB.out.below hW)
          have LOW2 := Lib.hid (LOW.out.trans (hW.mono LOW.out.size))
          clear at14 at15 hAp hT l0 l1 l2 l3 l4 l5 l6 l7 lz hW γ
          rw [HFE.out]
          have mx : ∀ i, MX i = X i + dx := fun i => by rw [hMX'.out]
          have my : ∀ i, MY i = Y i + dy := fun i => by rw [hMY'.out]
          have jx : ∀ i, i < 4 → InG (X i + dx) := fun i hi => by have := DX.out; have := HM.out i hi; have := IHX.out; have := IX.out i; unfold InG at *; omega
          have jy : ∀ i, i < 4 → InG (Y i + dy) := fun i hi => by have := DY.out; have := HM.out i hi; have := IHY.out; have := IY.out i; unfold InG at *; omega
          have EFM : footI (MX 0) (MY 0) (MX 1) (MY 1) (MX 2) (MY 2) = footI (X 0) (Y 0) (X 1) (Y 1) (X 2) (Y 2) := by rw [mx 0, my 0, mx 1, my 1, mx 2, my 2]; exact foot_move (IX.out 0) (IY.out 0) (IX.out 1) (IY.out 1) (IX.out 2) (IY.out 2) (jx 0 (by omega)) (jy 0 (by omega)) (jx 1 (by omega)) (jy 1 (by omega)) (jx 2 (by omega)) (jy 2 (by omega))
          have ETM : turnI (MX 0) (MY 0) (MX 1) (MY 1) (MX 2) (MY 2) = turnI (X 0) (Y 0) (X 1) (Y 1) (X 2) (Y 2) := by rw [mx 0, my 0, mx 1, my 1, mx 2, my 2]; exact turn_move (IX.out 0) (IY.out 0) (IX.out 1) (IY.out 1) (IX.out 2) (IY.out 2) (jx 0 (by omega)) (jy 0 (by omega)) (jx 1 (by omega)) (jy 1 (by omega)) (jx 2 (by omega)) (jy 2 (by omega))
          have EDM : distI (MX 0) (MY 0) (MX 1) (MY 1) = distI (X 0) (Y 0) (X 1) (Y 1) := by rw [mx 0, my 0, mx 1, my 1]; exact dist_move (IX.out 0) (IY.out 0) (IX.out 1) (IY.out 1) (jx 0 (by omega)) (jy 0 (by omega)) (jx 1 (by omega)) (jy 1 (by omega))
          have ECM : crossI (MX 0) (MY 0) (MX 1) (MY 1) (MX 2) (MY 2) (MX 3) (MY 3) = crossI (X 0) (Y 0) (X 1) (Y 1) (X 2) (Y 2) (X 3) (Y 3) := by rw [mx 0, my 0, mx 1, my 1, mx 2, my 2, mx 3, my 3]; exact cross_move (IX.out 0) (IY.out 0) (IX.out 1) (IY.out 1) (IX.out 2) (IY.out 2) (IX.out 3) (IY.out 3) (jx 0 (by omega)) (jy 0 (by omega)) (jx 1 (by omega)) (jy 1 (by omega)) (jx 2 (by omega)) (jy 2 (by omega)) (jx 3 (by omega)) (jy 3 (by omega))
          have EFT : footI (Y 0) (X 0) (Y 1) (X 1) (Y 2) (X 2) = footI (X 0) (Y 0) (X 1) (Y 1) (X 2) (Y 2) := foot_turn (IX.out 0) (IY.out 0) (IX.out 1) (IY.out 1) (IX.out 2) (IY.out 2)
          have ETT : turnI (Y 0) (X 0) (Y 1) (X 1) (Y 2) (X 2) = -turnI (X 0) (Y 0) (X 1) (Y 1) (X 2) (Y 2) := turn_turn (IX.out 0) (IY.out 0) (IX.out 1) (IY.out 1) (IX.out 2) (IY.out 2)
          have EDT : distI (Y 0) (X 0) (Y 1) (X 1) = distI (X 0) (Y 0) (X 1) (Y 1) := dist_turn (IX.out 0) (IY.out 0) (IX.out 1) (IY.out 1)
          have ECT : crossI (Y 0) (X 0) (Y 1) (X 1) (Y 2) (X 2) (Y 3) (X 3) = crossI (X 0) (Y 0) (X 1) (Y 1) (X 2) (Y 2) (X 3) (Y 3) := cross_turn (IX.out 0) (IY.out 0) (IX.out 1) (IY.out 1) (IX.out 2) (IY.out 2) (IX.out 3) (IY.out 3)
          have CFM : Hid (∀ W, Calls Try.prog 12 #[.agg #[.int .i64 (MX 0), .int .i64 (MY 0)], .agg #[.int .i64 (MX 1), .int .i64 (MY 1)], .agg #[.int .i64 (MX 2), .int .i64 (MY 2)]] W fun e w' => e = .returned (.tuple #[.agg #[.int .i64 (footI (X 0) (Y 0) (X 1) (Y 1) (X 2) (Y 2)).1.1, .int .i64 (footI (X 0) (Y 0) (X 1) (Y 1) (X 2) (Y 2)).1.2.1], .agg #[.int .i64 (footI (X 0) (Y 0) (X 1) (Y 1) (X 2) (Y 2)).2.1, .int .i64 (footI (X 0) (Y 0) (X 1) (Y 1) (X 2) (Y 2)).2.2.1], .int .i64 (footI (X 0) (Y 0) (X 1) (Y 1) (X 2) (Y 2)).2.2.2]) ∧ Below W.heap.size W w') := fun W => by
            have h := foot_any (MX 0) (MY 0) (MX 1) (MY 1) (MX 2) (MY 2) W
            rw [EFM] at h
            exact h
          have CTM : Hid (∀ W, Calls Try.prog 16 #[.agg #[.int .i64 (MX 0), .int .i64 (MY 0)], .agg #[.int .i64 (MX 1), .int .i64 (MY 1)], .agg #[.int .i64 (MX 2), .int .i64 (MY 2)]] W fun e w' => e = .returned (.int .i64 (turnI (X 0) (Y 0) (X 1) (Y 1) (X 2) (Y 2))) ∧ Below W.heap.size W w') := fun W => by
            have h := turn_any (MX 0) (MY 0) (MX 1) (MY 1) (MX 2) (MY 2) W
            rw [ETM] at h
            exact h
          have CDM : Hid (∀ W, Calls Try.prog 18 #[.agg #[.int .i64 (MX 0), .int .i64 (MY 0)], .agg #[.int .i64 (MX 1), .int .i64 (MY 1)]] W fun e w' => e = .returned (.int .i64 (distI (X 0) (Y 0) (X 1) (Y 1))) ∧ Below W.heap.size W w') := fun W => by
            have h := dist_any (MX 0) (MY 0) (MX 1) (MY 1) W
            rw [EDM] at h
            exact h
          have CCM : Hid (∀ W, Calls Try.prog 22 #[.agg #[.int .i64 (MX 0), .int .i64 (MY 0)], .agg #[.int .i64 (MX 1), .int .i64 (MY 1)], .agg #[.int .i64 (MX 2), .int .i64 (MY 2)], .agg #[.int .i64 (MX 3), .int .i64 (MY 3)]] W fun e w' => e = .returned (.int .i64 (crossI (X 0) (Y 0) (X 1) (Y 1) (X 2) (Y 2) (X 3) (Y 3))) ∧ Below W.heap.size W w') := fun W => by
            have h := cross_any (MX 0) (MY 0) (MX 1) (MY 1) (MX 2) (MY 2) (MX 3) (MY 3) W
            rw [ECM] at h
            exact h
          have CFT : Hid (∀ W, Calls Try.prog 12 #[.agg #[.int .i64 (Y 0), .int .i64 (X 0)], .agg #[.int .i64 (Y 1), .int .i64 (X 1)], .agg #[.int .i64 (Y 2), .int .i64 (X 2)]] W fun e w' => e = .returned (.tuple #[.agg #[.int .i64 (footI (X 0) (Y 0) (X 1) (Y 1) (X 2) (Y 2)).1.1, .int .i64 (footI (X 0) (Y 0) (X 1) (Y 1) (X 2) (Y 2)).1.2.1], .agg #[.int .i64 (footI (X 0) (Y 0) (X 1) (Y 1) (X 2) (Y 2)).2.1, .int .i64 (footI (X 0) (Y 0) (X 1) (Y 1) (X 2) (Y 2)).2.2.1], .int .i64 (footI (X 0) (Y 0) (X 1) (Y 1) (X 2) (Y 2)).2.2.2]) ∧ Below W.heap.size W w') := fun W => by
            have h := foot_any (Y 0) (X 0) (Y 1) (X 1) (Y 2) (X 2) W
            rw [EFT] at h
            exact h
          have CTT : Hid (∀ W, Calls Try.prog 16 #[.agg #[.int .i64 (Y 0), .int .i64 (X 0)], .agg #[.int .i64 (Y 1), .int .i64 (X 1)], .agg #[.int .i64 (Y 2), .int .i64 (X 2)]] W fun e w' => e = .returned (.int .i64 (-turnI (X 0) (Y 0) (X 1) (Y 1) (X 2) (Y 2))) ∧ Below W.heap.size W w') := fun W => by
            have h := turn_any (Y 0) (X 0) (Y 1) (X 1) (Y 2) (X 2) W
            rw [ETT] at h
            exact h
          have CDT : Hid (∀ W, Calls Try.prog 18 #[.agg #[.int .i64 (Y 0), .int .i64 (X 0)], .agg #[.int .i64 (Y 1), .int .i64 (X 1)]] W fun e w' => e = .returned (.int .i64 (distI (X 0) (Y 0) (X 1) (Y 1))) ∧ Below W.heap.size W w') := fun W => by
            have h := dist_any (Y 0) (X 0) (Y 1) (X 1) W
            rw [EDT] at h
            exact h
          have CCT : Hid (∀ W, Calls Try.prog 22 #[.agg #[.int .i64 (Y 0), .int .i64 (X 0)], .agg #[.int .i64 (Y 1), .int .i64 (X 1)], .agg #[.int .i64 (Y 2), .int .i64 (X 2)], .agg #[.int .i64 (Y 3), .int .i64 (X 3)]] W fun e w' => e = .returned (.int .i64 (crossI (X 0) (Y 0) (X 1) (Y 1) (X 2) (Y 2) (X 3) (Y 3))) ∧ Below W.heap.size W w') := fun W => by
            have h := cross_any (Y 0) (X 0) (Y 1) (X 1) (Y 2) (X 2) (Y 3) (X 3) W
            rw [ECT] at h
            exact h
          clear mx my jx jy EFM ETM EDM ECM EFT ETT EDT ECT
          go_wp2_with fail
          go_loopw [25] (fun i wr => ∃ (k : Nat), k ≤ 2 ∧ i = .int .i64 k ∧ Reg.Blk gu _ _ wr ∧ Reg.Blk gv _ _ wr ∧ Pts gl X Y wr ∧ Pts ga MX MY wr ∧ Pts gb Y X wr ∧ Below w.heap.size w wr) (fun i _ => 2 - (intOf i).toNat)
          case atStart => exact ⟨0, by omega, rfl, ku, kv, PL3.out, PA2.out, PB2.out, LOW2.out⟩
          case round =>
            clear ku kv
            obtain ⟨k, hk, rfl, ku, kv, hpl, hpa, hpb, hlow⟩ := hrel
            have PL4 := Lib.hid hpl
            have PA3 := Lib.hid hpa
            have PB3 := Lib.hid hpb
            have LOW3 := Lib.hid hlow
            clear hpl hpa hpb hlow
            rcases (by omega : k = 0 ∨ k = 1 ∨ k = 2) with rfl | rfl | rfl
            · obtain ⟨l0, l1, l2, l3, l4, l5, l6, l7, lz⟩ := PL4.out.cells
              obtain ⟨c0, c1, c2, c3, c4, c5, c6, c7, cz⟩ := PA3.out.cells
              obtain ⟨cku, fku, zku⟩ := Reg.Blk.facts ku
              obtain ⟨ckv, fkv, zkv⟩ := Reg.Blk.facts kv
              go_wp2_with fail
              refine Reg.wp_region_seq (by kernel_rfl) (by kernel_rfl) ?_
              simp only
              iterate 11
                apply Reg.SeqOK.val
                · intro γ W hW K hK
                  obtain ⟨hc, hf, _⟩ := bcell hW
                  simp only [Act.put, List.setIfInBounds_toArray, List.set_cons_zero, List.set_cons_succ] at hK
                  unfold Reg.Does
                  go_simp
                  try simp only [IntWalk.i64_left]
                  first
                    | exact hK _ (Below.refl _ _)
                    | (go_at_call 16; (with_reducible refine (CTM.out _).mono ?_); rintro e w' ⟨rfl, hb⟩; exact hK _ hb)
                simp only [Act.put, List.setIfInBounds_toArray, List.set_cons_zero, List.set_cons_succ, List.nil_append, List.cons_append, Nat.reduceAdd, Nat.zero_add]
              refine Reg.SeqOK.nil (by kernel_rfl) (fun γ W8 hW q1 q2 q3 => ?_)
              clear q1 q2 q3 γ l0 l1 l2 l3 l4 l5 l6 l7 lz c0 c1 c2 c3 c4 c5 c6 c7 cz cku fku zku ckv fkv zkv
              replace ku := ku.keep hW
              replace kv := kv.keep hW
              have PL5 := Lib.hid (PL4.out.below hW)
              have PA5 := Lib.hid (PA3.out.below hW)
              have PB5 := Lib.hid (PB3.out.below hW)
              have LOW4 := Lib.hid (LOW3.out.trans (hW.mono LOW3.out.size))
              clear hW
              obtain ⟨l0, l1, l2, l3, l4, l5, l6, l7, lz⟩ := PL5.out.cells
              obtain ⟨c0, c1, c2, c3, c4, c5, c6, c7, cz⟩ := PA5.out.cells
              obtain ⟨cku, fku, zku⟩ := Reg.Blk.facts ku
              obtain ⟨ckv, fkv, zkv⟩ := Reg.Blk.facts kv
              have hneq := HNE.out
              go_wp2_with fail
              refine Reg.wp_region_seq (by kernel_rfl) (by kernel_rfl) ?_
              simp only
              iterate 14
                apply Reg.SeqOK.val
                · intro γ W hW K hK
                  obtain ⟨hc, hf, _⟩ := bcell hW
                  simp only [Act.put, List.setIfInBounds_toArray, List.set_cons_zero, List.set_cons_succ] at hK
                  unfold Reg.Does
                  go_simp
                  try simp only [IntWalk.i64_left]
                  first
                    | exact hK _ (Below.refl _ _)
                    | (go_at_call 12; (with_reducible refine (CFM.out _).mono ?_); rintro e w' ⟨rfl, hb⟩; exact hK _ hb)
                simp only [Act.put, List.setIfInBounds_toArray, List.set_cons_zero, List.set_cons_succ, List.nil_append, List.cons_append, Nat.reduceAdd, Nat.zero_add]
              iterate 2
                apply Reg.SeqOK.box
                · intro γ W hW K hK
                  simp only [Act.put, List.setIfInBounds_toArray, List.set_cons_zero, List.set_cons_succ] at hK
                  unfold Reg.Does
                  go_simp
                  exact hK
                simp only [Act.put, List.setIfInBounds_toArray, List.set_cons_zero, List.set_cons_succ, List.nil_append, List.cons_append, Nat.reduceAdd, Nat.zero_add]
              refine Reg.SeqOK.st 14 _ _ _ rfl (by kernel_rfl) ?_ ?_
              · intro γ W hW hge hat K hK
                obtain ⟨hcl, hfr⟩ := Reg.cells_at hat
                simp only [Act.put, List.setIfInBounds_toArray, List.set_cons_zero, List.set_cons_succ] at hK
                unfold Reg.Does
                go_simp
                exact hK _ (Reg.upd2 hat)
              simp only [Act.put, List.setIfInBounds_toArray, List.set_cons_zero, List.set_cons_succ, List.nil_append, List.cons_append, Nat.reduceAdd, Nat.zero_add]
              refine Reg.SeqOK.st 15 _ _ _ rfl (by kernel_rfl) ?_ ?_
              · intro γ W hW hge hat K hK
                obtain ⟨hcl, hfr⟩ := Reg.cells_at hat
                simp only [Act.put, List.setIfInBounds_toArray, List.set_cons_zero, List.set_cons_succ] at hK
                unfold Reg.Does
                go_simp
                exact hK _ (Reg.upd2 hat)
              simp only [Act.put, List.setIfInBounds_toArray, List.set_cons_zero, List.set_cons_succ, List.nil_append, List.cons_append, Nat.reduceAdd, Nat.zero_add]
              iterate 1
                apply Reg.SeqOK.val
                · intro γ W hW K hK
                  obtain ⟨hc, hf, _⟩ := bcell hW
                  simp only [Act.put, List.setIfInBounds_toArray, List.set_cons_zero, List.set_cons_succ] at hK
                  unfold Reg.Does
                  go_simp
                  try simp only [IntWalk.i64_left]
                  first
                    | exact hK _ (Below.refl _ _)
                simp only [Act.put, List.setIfInBounds_toArray, List.set_cons_zero, List.set_cons_succ, List.nil_append, List.cons_append, Nat.reduceAdd, Nat.zero_add]
              refine Reg.SeqOK.nil (by kernel_rfl) (fun γ W9 hW hBx hAp q3 => ?_)
              clear q3
              simp only [Reg.Boxes, Reg.Apart, Reg.Differ, and_true, true_and, World.size_alloc, Nat.reduceAdd, Nat.zero_add] at hBx hAp
              obtain ⟨⟨_, _, at14⟩, _, _, at15⟩ := hBx
              generalize γ 14 = gp at *
              generalize γ 15 = gq at *
              clear hAp γ l0 l1 l2 l3 l4 l5 l6 l7 lz c0 c1 c2 c3 c4 c5 c6 c7 cz cku fku zku ckv fkv zkv
              have kp : Reg.Blk gp _ _ W9 := at14
              have kq : Reg.Blk gq _ _ W9 := at15
              replace ku := ku.keep hW
              replace kv := kv.keep hW
              have PL6 := Lib.hid (PL5.out.below hW)
              have PA6 := Lib.hid (PA5.out.below hW)
              have PB6 := Lib.hid (PB5.out.below hW)
              have LOW5 := Lib.hid (LOW4.out.trans (hW.mono LOW4.out.size))
              clear hW at14 at15
              obtain ⟨l0, l1, l2, l3, l4, l5, l6, l7, lz⟩ := PL6.out.cells
              obtain ⟨c0, c1, c2, c3, c4, c5, c6, c7, cz⟩ := PA6.out.cells
              obtain ⟨cku, fku, zku⟩ := Reg.Blk.facts ku
              obtain ⟨ckv, fkv, zkv⟩ := Reg.Blk.facts kv
              obtain ⟨ckp, fkp, zkp⟩ := Reg.Blk.facts kp
              obtain ⟨ckq, fkq, zkq⟩ := Reg.Blk.facts kq
              rw [HFE.out]
              go_wp2_with fail
              refine Reg.wp_region_seq (by kernel_rfl) (by kernel_rfl) ?_
              simp only
              iterate 73
                apply Reg.SeqOK.val
                · intro γ W hW K hK
                  obtain ⟨hc, hf, _⟩ := bcell hW
                  simp only [Act.put, List.setIfInBounds_toArray, List.set_cons_zero, List.set_cons_succ] at hK
                  unfold Reg.Does
                  go_simp
                  try simp only [IntWalk.i64_left]
                  first
                    | exact hK _ (Below.refl _ _)
                    | (go_at_call 16; (with_reducible refine (turn_any _ _ _ _ _ _ _).mono ?_); rintro e w' ⟨rfl, hb⟩; exact hK _ hb)
                    | (go_at_call 18; (with_reducible refine (CDM.out _).mono ?_); rintro e w' ⟨rfl, hb⟩; exact hK _ hb)
                    | (go_at_call 18; (with_reducible refine (dist_any _ _ _ _ _).mono ?_); rintro e w' ⟨rfl, hb⟩; exact hK _ hb)
                    | (go_at_call 22; (with_reducible refine (CCM.out _).mono ?_); rintro e w' ⟨rfl, hb⟩; exact hK _ hb)
                    | (go_at_call 22; (with_reducible refine (cross_any _ _ _ _ _ _ _ _ _).mono ?_); rintro e w' ⟨rfl, hb⟩; exact hK _ hb)
                simp only [Act.put, List.setIfInBounds_toArray, List.set_cons_zero, List.set_cons_succ, List.nil_append, List.cons_append, Nat.reduceAdd, Nat.zero_add]
              refine Reg.SeqOK.nil (by kernel_rfl) (fun γ W10 hW q1 q2 q3 => ?_)
              clear q1 q2 q3 γ l0 l1 l2 l3 l4 l5 l6 l7 lz c0 c1 c2 c3 c4 c5 c6 c7 cz cku fku zku ckv fkv zkv hneq ckp fkp zkp ckq fkq zkq kp kq
              replace ku := ku.keep hW
              replace kv := kv.keep hW
              have PL7 := Lib.hid (PL6.out.below hW)
              have PA7 := Lib.hid (PA6.out.below hW)
              have PB7 := Lib.hid (PB6.out.below hW)
              have LOW6 := Lib.hid (LOW5.out.trans (hW.mono LOW5.out.size))
              clear hW
              go_wp2_with fail
              exact ⟨⟨1, by omega, by go_num, ku, kv, PL7.out, PA7.out, PB7.out, LOW6.out⟩, by simp [intOf]⟩
            · obtain ⟨l0, l1, l2, l3, l4, l5, l6, l7, lz⟩ := PL4.out.cells
              obtain ⟨c0, c1, c2, c3, c4, c5, c6, c7, cz⟩ := PB3.out.cells
              obtain ⟨cku, fku, zku⟩ := Reg.Blk.facts ku
              obtain ⟨ckv, fkv, zkv⟩ := Reg.Blk.facts kv
              go_wp2_with fail
              refine Reg.wp_region_seq (by kernel_rfl) (by kernel_rfl) ?_
              simp only
              iterate 11
                apply Reg.SeqOK.val
                · intro γ W hW K hK
                  obtain ⟨hc, hf, _⟩ := bcell hW
                  simp only [Act.put, List.setIfInBounds_toArray, List.set_cons_zero, List.set_cons_succ] at hK
                  unfold Reg.Does
                  go_simp
                  try simp only [IntWalk.i64_left]
                  first
                    | exact hK _ (Below.refl _ _)
                    | (go_at_call 16; (with_reducible refine (CTT.out _).mono ?_); rintro e w' ⟨rfl, hb⟩; exact hK _ hb)
                simp only [Act.put, List.setIfInBounds_toArray, List.set_cons_zero, List.set_cons_succ, List.nil_append, List.cons_append, Nat.reduceAdd, Nat.zero_add]
              refine Reg.SeqOK.nil (by kernel_rfl) (fun γ W8 hW q1 q2 q3 => ?_)
              clear q1 q2 q3 γ l0 l1 l2 l3 l4 l5 l6 l7 lz c0 c1 c2 c3 c4 c5 c6 c7 cz cku fku zku ckv fkv zkv
              replace ku := ku.keep hW
              replace kv := kv.keep hW
              have PL5 := Lib.hid (PL4.out.below hW)
              have PA5 := Lib.hid (PA3.out.below hW)
              have PB5 := Lib.hid (PB3.out.below hW)
              have LOW4 := Lib.hid (LOW3.out.trans (hW.mono LOW3.out.size))
              clear hW
              obtain ⟨l0, l1, l2, l3, l4, l5, l6, l7, lz⟩ := PL5.out.cells
              obtain ⟨c0, c1, c2, c3, c4, c5, c6, c7, cz⟩ := PB5.out.cells
              obtain ⟨cku, fku, zku⟩ := Reg.Blk.facts ku
              obtain ⟨ckv, fkv, zkv⟩ := Reg.Blk.facts kv
              have hneq := HNE.out
              obtain ⟨tb1, tb2⟩ := turn_bd (IX.out 0) (IY.out 0) (IX.out 1) (IY.out 1) (IX.out 2) (IY.out 2)
              go_wp2_with fail
              refine Reg.wp_region_seq (by kernel_rfl) (by kernel_rfl) ?_
              simp only
              iterate 14
                apply Reg.SeqOK.val
                · intro γ W hW K hK
                  obtain ⟨hc, hf, _⟩ := bcell hW
                  simp only [Act.put, List.setIfInBounds_toArray, List.set_cons_zero, List.set_cons_succ] at hK
                  unfold Reg.Does
                  go_simp
                  try simp only [IntWalk.i64_left]
                  first
                    | exact hK _ (Below.refl _ _)
                    | (go_at_call 12; (with_reducible refine (CFT.out _).mono ?_); rintro e w' ⟨rfl, hb⟩; exact hK _ hb)
                simp only [Act.put, List.setIfInBounds_toArray, List.set_cons_zero, List.set_cons_succ, List.nil_append, List.cons_append, Nat.reduceAdd, Nat.zero_add]
              iterate 2
                apply Reg.SeqOK.box
                · intro γ W hW K hK
                  simp only [Act.put, List.setIfInBounds_toArray, List.set_cons_zero, List.set_cons_succ] at hK
                  unfold Reg.Does
                  go_simp
                  exact hK
                simp only [Act.put, List.setIfInBounds_toArray, List.set_cons_zero, List.set_cons_succ, List.nil_append, List.cons_append, Nat.reduceAdd, Nat.zero_add]
              refine Reg.SeqOK.st 14 _ _ _ rfl (by kernel_rfl) ?_ ?_
              · intro γ W hW hge hat K hK
                obtain ⟨hcl, hfr⟩ := Reg.cells_at hat
                simp only [Act.put, List.setIfInBounds_toArray, List.set_cons_zero, List.set_cons_succ] at hK
                unfold Reg.Does
                go_simp
                exact hK _ (Reg.upd2 hat)
              simp only [Act.put, List.setIfInBounds_toArray, List.set_cons_zero, List.set_cons_succ, List.nil_append, List.cons_append, Nat.reduceAdd, Nat.zero_add]
              refine Reg.SeqOK.st 15 _ _ _ rfl (by kernel_rfl) ?_ ?_
              · intro γ W hW hge hat K hK
                obtain ⟨hcl, hfr⟩ := Reg.cells_at hat
                simp only [Act.put, List.setIfInBounds_toArray, List.set_cons_zero, List.set_cons_succ] at hK
                unfold Reg.Does
                go_simp
                exact hK _ (Reg.upd2 hat)
              simp only [Act.put, List.setIfInBounds_toArray, List.set_cons_zero, List.set_cons_succ, List.nil_append, List.cons_append, Nat.reduceAdd, Nat.zero_add]
              iterate 1
                apply Reg.SeqOK.val
                · intro γ W hW K hK
                  obtain ⟨hc, hf, _⟩ := bcell hW
                  simp only [Act.put, List.setIfInBounds_toArray, List.set_cons_zero, List.set_cons_succ] at hK
                  unfold Reg.Does
                  go_simp
                  try simp only [IntWalk.i64_left]
                  first
                    | exact hK _ (Below.refl _ _)
                simp only [Act.put, List.setIfInBounds_toArray, List.set_cons_zero, List.set_cons_succ, List.nil_append, List.cons_append, Nat.reduceAdd, Nat.zero_add]
              refine Reg.SeqOK.nil (by kernel_rfl) (fun γ W9 hW hBx hAp q3 => ?_)
              clear q3
              simp only [Reg.Boxes, Reg.Apart, Reg.Differ, and_true, true_and, World.size_alloc, Nat.reduceAdd, Nat.zero_add] at hBx hAp
              obtain ⟨⟨_, _, at14⟩, _, _, at15⟩ := hBx
              generalize γ 14 = gp at *
              generalize γ 15 = gq at *
              clear hAp γ l0 l1 l2 l3 l4 l5 l6 l7 lz c0 c1 c2 c3 c4 c5 c6 c7 cz cku fku zku ckv fkv zkv
              have kp : Reg.Blk gp _ _ W9 := at14
              have kq : Reg.Blk gq _ _ W9 := at15
              replace ku := ku.keep hW
              replace kv := kv.keep hW
              have PL6 := Lib.hid (PL5.out.below hW)
              have PA6 := Lib.hid (PA5.out.below hW)
              have PB6 := Lib.hid (PB5.out.below hW)
              have LOW5 := Lib.hid (LOW4.out.trans (hW.mono LOW4.out.size))
              clear hW at14 at15
              obtain ⟨l0, l1, l2, l3, l4, l5, l6, l7, lz⟩ := PL6.out.cells
              obtain ⟨c0, c1, c2, c3, c4, c5, c6, c7, cz⟩ := PB6.out.cells
              obtain ⟨cku, fku, zku⟩ := Reg.Blk.facts ku
              obtain ⟨ckv, fkv, zkv⟩ := Reg.Blk.facts kv
              obtain ⟨ckp, fkp, zkp⟩ := Reg.Blk.facts kp
              obtain ⟨ckq, fkq, zkq⟩ := Reg.Blk.facts kq
              rw [HFE.out]
              go_wp2_with fail
              refine Reg.wp_region_seq (by kernel_rfl) (by kernel_rfl) ?_
              simp only
              iterate 73
                apply Reg.SeqOK.val
                · intro γ W hW K hK
                  obtain ⟨hc, hf, _⟩ := bcell hW
                  simp only [Act.put, List.setIfInBounds_toArray, List.set_cons_zero, List.set_cons_succ] at hK
                  unfold Reg.Does
                  go_simp
                  try simp only [IntWalk.i64_left]
                  first
                    | exact hK _ (Below.refl _ _)
                    | (go_at_call 16; (with_reducible refine (turn_any _ _ _ _ _ _ _).mono ?_); rintro e w' ⟨rfl, hb⟩; exact hK _ hb)
                    | (go_at_call 18; (with_reducible refine (CDT.out _).mono ?_); rintro e w' ⟨rfl, hb⟩; exact hK _ hb)
                    | (go_at_call 18; (with_reducible refine (dist_any _ _ _ _ _).mono ?_); rintro e w' ⟨rfl, hb⟩; exact hK _ hb)
                    | (go_at_call 22; (with_reducible refine (CCT.out _).mono ?_); rintro e w' ⟨rfl, hb⟩; exact hK _ hb)
                    | (go_at_call 22; (with_reducible refine (cross_any _ _ _ _ _ _ _ _ _).mono ?_); rintro e w' ⟨rfl, hb⟩; exact hK _ hb)
                simp only [Act.put, List.setIfInBounds_toArray, List.set_cons_zero, List.set_cons_succ, List.nil_append, List.cons_append, Nat.reduceAdd, Nat.zero_add]
              refine Reg.SeqOK.nil (by kernel_rfl) (fun γ W10 hW q1 q2 q3 => ?_)
              clear q1 q2 q3 γ l0 l1 l2 l3 l4 l5 l6 l7 lz c0 c1 c2 c3 c4 c5 c6 c7 cz cku fku zku ckv fkv zkv hneq ckp fkp zkp ckq fkq zkq kp kq
              replace ku := ku.keep hW
              replace kv := kv.keep hW
              have PL7 := Lib.hid (PL6.out.below hW)
              have PA7 := Lib.hid (PA6.out.below hW)
              have PB7 := Lib.hid (PB6.out.below hW)
              have LOW6 := Lib.hid (LOW5.out.trans (hW.mono LOW5.out.size))
              clear hW
              go_wp2_with fail
              exact ⟨⟨2, by omega, by go_num, ku, kv, PL7.out, PA7.out, PB7.out, LOW6.out⟩, by simp [intOf]⟩
            · go_wp2_with fail
              go_ret
              exact ⟨rfl, LOW3.out⟩

end G
end Go.Proofs.Ythdmkkddhhbbgaa
