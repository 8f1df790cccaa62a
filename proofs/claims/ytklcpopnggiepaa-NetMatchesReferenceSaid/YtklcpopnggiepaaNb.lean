/- Net: 'New', 'Waiting', and 'Send' where nothing is sent. -/
import Derived.Test.YtklcpopnggiepaaNa
import Derived.Test.YtklcpopnggiepaaShelf
import Derived.Test.YtklcpopnggiepaaReh
set_option linter.unusedSimpArgs false
set_option linter.unusedVariables false
set_option maxRecDepth 100000
namespace Go.Proofs.Ytklcpopnggiepaa
open Go.RowKit
namespace N

theorem zero_bool (w : World) : (zeroValue 4).run Try.prog w = .ok (.bool false) w := Try.zeroValue4 w
theorem zero_row (w : World) : (zeroValue 22).run Try.prog w = .ok nilS w := Try.zeroValue22 w

section
variable {w : World} {B : Nat} {M : Nat → Prop} {g : Nat} {d : Nt} {bq bc : Nat} {fq fc : Int → Int → Option Value}
theorem IsN.look_cut (h : IsN w B M g d bq bc fq fc) {a b : Int} (ha : B64 a) (hb : B64 b) : (Instr.lookup 55 (.map (some bc)) (.agg #[.int .i64 a, .int .i64 b]) false).run Try.prog w = .ok (.bool (d.c a b)) w := by
  obtain ⟨l, hl⟩ := key_of ha hb
  have := h.mpc.lookup (T := 55) key_law Try.underlying55 (zero_bool w) hl
  rw [h.cut] at this
  exact this
theorem IsN.look_row (h : IsN w B M g d bq bc fq fc) {a b : Int} (ha : B64 a) (hb : B64 b) : (Instr.lookup 54 (.map (some bq)) (.agg #[.int .i64 a, .int .i64 b]) false).run Try.prog w = .ok (qv fq a b) w := by
  obtain ⟨l, hl⟩ := key_of ha hb
  exact h.mpq.lookup (T := 54) key_law Try.underlying54 (zero_row w) hl
/-- A queue's value. -/
theorem IsN.form (h : IsN w B M g d bq bc fq fc) (a b : Int) : ∃ A c, qv fq a b = .slice A (d.q a b).length c ∧ (d.q a b).length ≤ c ∧ c ≤ maxLen := by
  rcases (h.row a b).2 with ⟨e, hn⟩ | ⟨g', cap, cur, e, hb, hg, hc, hm, _⟩
  · exact ⟨none, 0, by rw [e, hn], by omega, by unfold maxLen; omega⟩
  · exact ⟨some ⟨g', 0, none⟩, cap, e, hc, hm⟩
end

/-! ### 'New' -/
theorem new_no (n : Int) (hn : n < 1 ∨ 8 < n) (w : World) : Calls Try.prog 11 #[.int .i64 n] w fun e w' => e = .returned (.tuple #[.pointer none, .int .i64 1]) ∧ Below w.heap.size w w' := by
  rcases hn with h | h
  · go_enter Try.func11, Try.ntmps11
    go_wp2
    go_ret2
    exact ⟨rfl, Below.refl _ _⟩
  · have h1 : decide (n < 1) = false := by simp; omega
    go_enter Try.func11, Try.ntmps11
    go_wp2
    go_ret2
    exact ⟨rfl, Below.refl _ _⟩
theorem new_yes (n : Int) (h1 : 1 ≤ n) (h8 : n ≤ 8) (w : World) (B : Nat) (hB : B ≤ w.heap.size) : Calls Try.prog 11 #[.int .i64 n] w fun e w' =>
    ∃ g M, e = .returned (.tuple #[.pointer (some ⟨g, 0, none⟩), .int .i64 0]) ∧ NetAt w' B M g (newN n) ∧ (∀ k, M k → w.heap.size ≤ k) ∧ Below w.heap.size w w' := by
  have g1 : decide (n < 1) = false := by simp; omega
  have g2 : decide (8 < n) = false := by simp; omega
  have hmm := @run_makeMap Try.prog
  go_enter Try.func11, Try.ntmps11
  go_wp2
  go_ret2
  refine ⟨_, fun k => w.heap.size ≤ k ∧ k < w.heap.size + 3, rfl, ⟨w.heap.size, w.heap.size + 1, fun _ _ => none, fun _ _ => none, ?_⟩, fun k h => h.1, ?_⟩
  · have m1 := mapIs_made Try.prog 59 w
    have m2 := mapIs_made Try.prog 59 (w.alloc (.map #[] 0))
    simp only [World.size_alloc] at m2
    have nilOwn : ∀ (W : World), W.ownsRow B 9 1 (qv (fun _ _ => none) 0 0) 0 [] := fun W => ⟨rfl, .inl ⟨rfl, rfl⟩⟩
    refine ⟨?_, ?_, ?_, fun _ _ => rfl, fun _ _ => nilOwn _, fun a b a' b' k h => by simp [qv, nilS, Value.ownBlock] at h, ?_, ?_, ?_, fun a b k h => by simp [qv, nilS, Value.ownBlock] at h, ?_, ?_⟩
    · have := Reg.Blk.new ((w.alloc (.map #[] 0)).alloc (.map #[] 0)) #[.int .i64 n, .map (some w.heap.size), .map (some (w.heap.size + 1))] 57
      simp only [World.size_alloc] at this
      exact this
    · exact (m1.same (Below.heap_alloc _ _ _ (by simp))).same (Below.heap_alloc _ _ _ (by simp; omega))
    · exact m2.same (Below.heap_alloc _ _ _ (by simp))
    · exact ⟨by omega, by omega⟩
    · exact ⟨by omega, by omega⟩
    · exact ⟨by omega, by omega⟩
    · rintro k ⟨k1, k2⟩; exact ⟨by omega, by simp; omega⟩
    · omega
  ·
    repeat (first | exact Below.refl _ _ | assumption | (refine Below.setCell ?_ (by first | (simp; done) | (simp; omega) | omega) _) | (refine Below.alloc ?_ (by first | (simp; done) | (simp; omega) | omega) _) | (refine Below.drew ?_))

end N
end Go.Proofs.Ytklcpopnggiepaa
