/- Law 'NetLines': the plain laws. -/
import Derived.Test.YtklcpopnggiepaaNm
set_option linter.unusedSimpArgs false
set_option linter.unusedVariables false
set_option maxRecDepth 100000
namespace Go.Proofs.Ytklcpopnggiepaa
namespace N

/-- Two networks that agree on a pair of nodes. -/
structure Pair (a b : Int) (d d' : Nt) : Prop where
  n : d.n = d'.n
  q : d.q a b = d'.q a b
  q' : d.q b a = d'.q b a
  c : d.c a b = d'.c a b
  c' : d.c b a = d'.c b a
theorem Pair.refl (a b : Int) (d : Nt) : Pair a b d d := ⟨rfl, rfl, rfl, rfl, rfl⟩
theorem Pair.swap {a b : Int} {d d' : Nt} (h : Pair a b d d') : Pair b a d d' := ⟨h.n, h.q', h.q, h.c', h.c⟩
def onS (a b : Int) (x : SV) : Bool := (x.a == a && x.b == b) || (x.a == b && x.b == a)
theorem onS_iff {a b : Int} {x : SV} : onS a b x = true ↔ (x.a = a ∧ x.b = b) ∨ (x.a = b ∧ x.b = a) := by simp [onS]
theorem Pair.send {a b : Int} {d d' : Nt} (h : Pair a b d d') (t : Tx) : (send d a b t).1 = (send d' a b t).1 ∧ Pair a b (send d a b t).2 (send d' a b t).2 := by
  unfold N.send
  rw [← h.n, ← h.c, ← h.q]
  split
  · exact ⟨rfl, h⟩
  · split
    · exact ⟨rfl, h⟩
    · split
      · exact ⟨rfl, h⟩
      · split
        · exact ⟨rfl, h⟩
        · exact ⟨rfl, rfl, by simp [at2], by simp only [at2]; split; rfl; exact h.q', h.c, h.c'⟩
theorem Pair.inQ {a b : Int} {d d' : Nt} (h : Pair a b d d') (k : Int) : inQ d a b k = inQ d' a b k := by unfold N.inQ; rw [h.n, h.q]
theorem Pair.deliver {a b : Int} {d d' : Nt} (h : Pair a b d d') (k : Int) (lost again : Bool) : (deliver d a b k lost again).1 = (deliver d' a b k lost again).1 ∧ Pair a b (deliver d a b k lost again).2 (deliver d' a b k lost again).2 := by
  unfold N.deliver
  refine ⟨?_, ?_⟩
  · show delT d a b k lost = delT d' a b k lost
    unfold delT; rw [h.inQ, h.q]
  · show Pair a b (delD d a b k lost again) (delD d' a b k lost again)
    unfold delD; rw [h.inQ]
    split
    · exact h
    · split
      · unfold cutD; rw [h.q]
        exact ⟨h.n, by simp [at2], by simp only [at2]; split; rfl; exact h.q', h.c, h.c'⟩
      · exact h
theorem Pair.turn {a b : Int} {d d' : Nt} (h : Pair a b d d') (cut : Bool) : (turn d a b cut).1 = (turn d' a b cut).1 ∧ Pair a b (turn d a b cut).2 (turn d' a b cut).2 := by
  unfold N.turn
  rw [← h.n, ← h.c]
  split
  · exact ⟨rfl, h⟩
  · split
    · exact ⟨rfl, h⟩
    · cases cut
      · exact ⟨rfl, rfl, h.q, h.q', by simp only [both, at2]; split; rfl; split; rfl; exact h.c, by simp only [both, at2]; split; rfl; split; rfl; exact h.c'⟩
      · exact ⟨rfl, rfl, by simp only [both, at2, if_true]; split; rfl; split; rfl; exact h.q, by simp only [both, at2, if_true]; split; rfl; split; rfl; exact h.q', by simp only [both, at2]; split; rfl; split; rfl; exact h.c, by simp only [both, at2]; split; rfl; split; rfl; exact h.c'⟩
theorem Pair.step {a b : Int} {d d' : Nt} (h : Pair a b d d') (x : SV) (ha : x.a = a) (hb : x.b = b) : (doN d x).1 = (doN d' x).1 ∧ Pair a b (doN d x).2 (doN d' x).2 := by
  obtain ⟨kind, _, _, n, text, lost, again⟩ := x
  simp only at ha hb
  subst ha hb
  unfold doN
  simp only
  split
  · have q := h.send text
    exact ⟨by rw [q.1], q.2⟩
  · split
    · have q := h.deliver n lost again
      exact ⟨by rw [q.1], q.2⟩
    · split
      · have q := h.turn true
        exact ⟨by rw [q.1], q.2⟩
      · have q := h.turn false
        exact ⟨by rw [q.1], q.2⟩
theorem Pair.on {a b : Int} {d d' : Nt} (h : Pair a b d d') {x : SV} (hx : onS a b x = true) : (doN d x).1 = (doN d' x).1 ∧ Pair a b (doN d x).2 (doN d' x).2 := by
  rcases onS_iff.1 hx with ⟨ha, hb⟩ | ⟨ha, hb⟩
  · exact h.step x ha hb
  · have q := h.swap.step x ha hb
    exact ⟨q.1, q.2.swap⟩
/-- What a step leaves as it is. -/
theorem doN_other (d : Nt) (x : SV) {p r : Int} (h1 : ¬ (p = x.a ∧ r = x.b)) (h2 : ¬ (p = x.b ∧ r = x.a)) : (doN d x).2.q p r = d.q p r ∧ (doN d x).2.c p r = d.c p r := by
  unfold doN
  split
  · unfold send; dsimp only
    split
    · exact ⟨rfl, rfl⟩
    · split
      · exact ⟨rfl, rfl⟩
      · split
        · exact ⟨rfl, rfl⟩
        · split
          · exact ⟨rfl, rfl⟩
          · exact ⟨at2_other _ _ _ _ h1, rfl⟩
  · split
    · show (delD d x.a x.b x.n x.lost x.again).q p r = d.q p r ∧ (delD d x.a x.b x.n x.lost x.again).c p r = d.c p r
      unfold delD
      split
      · exact ⟨rfl, rfl⟩
      · split
        · exact ⟨at2_other _ _ _ _ h1, rfl⟩
        · exact ⟨rfl, rfl⟩
    · have ht : ∀ cut, (turn d x.a x.b cut).2.q p r = d.q p r ∧ (turn d x.a x.b cut).2.c p r = d.c p r := fun cut => by
        unfold turn
        split
        · exact ⟨rfl, rfl⟩
        · split
          · exact ⟨rfl, rfl⟩
          · cases cut <;> simp [both, at2, h1, h2]
      split
      · exact ht true
      · exact ht false
theorem Pair.off {a b : Int} {d d' : Nt} (h : Pair a b d d') {x : SV} (hx : onS a b x = false) : Pair a b (doN d x).2 d' := by
  have hn : ¬ ((x.a = a ∧ x.b = b) ∨ (x.a = b ∧ x.b = a)) := fun hh => by rw [onS_iff.2 hh] at hx; cases hx
  have o1 := doN_other d x (p := a) (r := b) (by omega) (by omega)
  have o2 := doN_other d x (p := b) (r := a) (by omega) (by omega)
  exact ⟨(doN_n d x).trans h.n, o1.1.trans h.q, o2.1.trans h.q', o1.2.trans h.c, o2.2.trans h.c'⟩

def cutS (cut : Bool) (x : SV) (r : RV) : Bool := (cut && (x.kind == 0 || x.kind == 1 || x.kind == 2 || r.err != 0)) || (x.kind == 2 && r.err == 0)
structure Shut (a b : Int) (d : Nt) : Prop where
  q : d.q a b = []
  q' : d.q b a = []
  c : d.c a b = true
  c' : d.c b a = true
theorem Shut.swap {a b : Int} {d : Nt} (h : Shut a b d) : Shut b a d := ⟨h.q', h.q, h.c', h.c⟩
theorem shut_turn (d : Nt) (a b : Int) (he : (turn d a b true).1 = 0) : Shut a b (turn d a b true).2 := by
  unfold turn at he ⊢
  by_cases h1 : okP d.n a b = false
  · rw [if_pos h1] at he; cases he
  · rw [if_neg h1] at he ⊢
    by_cases h2 : d.c a b = true
    · rw [if_pos h2] at he; cases he
    · rw [if_neg h2] at he ⊢
      constructor <;> simp [both, at2]
theorem Shut.send {a b : Int} {d : Nt} (h : Shut a b d) (t : Tx) : Shut a b (send d a b t).2 := by
  unfold N.send
  rw [h.c]
  split
  · exact h
  · split
    · exact h
    · exact h
theorem Shut.deliver {a b : Int} {d : Nt} (h : Shut a b d) (k : Int) (lost again : Bool) : Shut a b (deliver d a b k lost again).2 := by
  show Shut a b (delD d a b k lost again)
  unfold delD
  rw [if_pos]
  · exact h
  · unfold inQ; rw [h.q]; simp
theorem turn_not (d : Nt) (a b : Int) (cut : Bool) (he : (turn d a b cut).1 ≠ 0) : (turn d a b cut).2 = d := by
  unfold turn at he ⊢
  split
  · rfl
  · split
    · rfl
    · rename_i h1 h2
      rw [if_neg h1, if_neg h2] at he
      exact absurd rfl he
theorem shut_step {a b : Int} {d : Nt} {cut : Bool} (h : cut = true → Shut a b d) (x : SV) (ha : x.a = a) (hb : x.b = b) (hc : cutS cut x (doN d x).1 = true) : Shut a b (doN d x).2 := by
  obtain ⟨kind, p, r, n, text, lost, again⟩ := x
  simp only at ha hb
  subst ha hb
  unfold cutS at hc
  unfold doN at hc ⊢
  simp only at hc ⊢
  by_cases k0 : kind = 0
  · rw [if_pos k0] at hc ⊢
    have : cut = true := by simp [k0] at hc; exact hc
    exact (h this).send text
  · rw [if_neg k0] at hc ⊢
    by_cases k1 : kind = 1
    · rw [if_pos k1] at hc ⊢
      have : cut = true := by simp [k1] at hc; exact hc
      exact (h this).deliver n lost again
    · rw [if_neg k1] at hc ⊢
      by_cases k2 : kind = 2
      · rw [if_pos k2] at hc ⊢
        by_cases he : (turn d p r true).1 = 0
        · exact shut_turn _ _ _ he
        · simp [k2, he] at hc
          rw [turn_not _ _ _ _ he]
          exact h hc
      · rw [if_neg k2] at hc ⊢
        simp [k0, k1, k2] at hc
        rw [turn_not _ _ _ _ hc.2]
        exact h hc.1
theorem shut_on {a b : Int} {d : Nt} {cut : Bool} (h : cut = true → Shut a b d) {x : SV} (hx : onS a b x = true) : cutS cut x (doN d x).1 = true → Shut a b (doN d x).2 := fun hc => by
  rcases onS_iff.1 hx with ⟨ha, hb⟩ | ⟨ha, hb⟩
  · exact shut_step h x ha hb hc
  · exact (shut_step (fun e => (h e).swap) x ha hb hc).swap
theorem shut_off {a b : Int} {d : Nt} {cut : Bool} (h : cut = true → Shut a b d) {x : SV} (hx : onS a b x = false) : cut = true → Shut a b (doN d x).2 := fun hc => by
  have hn : ¬ ((x.a = a ∧ x.b = b) ∨ (x.a = b ∧ x.b = a)) := fun hh => by rw [onS_iff.2 hh] at hx; cases hx
  have o1 := doN_other d x (p := a) (r := b) (by omega) (by omega)
  have o2 := doN_other d x (p := b) (r := a) (by omega) (by omega)
  have s := h hc
  exact ⟨o1.1.trans s.q, o2.1.trans s.q', o1.2.trans s.c, o2.2.trans s.c'⟩
theorem Shut.wait {a b : Int} {d : Nt} (h : Shut a b d) : waiting d a b = [] ∧ waiting d b a = [] := by
  unfold waiting
  rw [h.q, h.q']
  simp
theorem Pair.wait {a b : Int} {d d' : Nt} (h : Pair a b d d') : waiting d a b = waiting d' a b ∧ waiting d b a = waiting d' b a := by
  unfold waiting
  rw [h.n, h.q, h.q']
  exact ⟨rfl, rfl⟩

end N
end Go.Proofs.Ytklcpopnggiepaa
