/- Law 'NetHonest': the plain laws. -/
import Derived.Test.YtklcpopnggiepaaNm
set_option linter.unusedSimpArgs false
set_option linter.unusedVariables false
set_option maxRecDepth 100000
namespace Go.Proofs.Ytklcpopnggiepaa
namespace N

abbrev Rn := List (SV × RV)
def sentB (a b : Int) (p : SV × RV) : Bool := p.1.a == a && p.1.b == b && (p.1.kind == 0 && p.2.err == 0)
def gotB (a b : Int) (p : SV × RV) : Bool := p.1.a == a && p.1.b == b && (p.1.kind == 1 && p.2.ok && !p.1.again)
def knownB (a b : Int) (t : Tx) (p : SV × RV) : Bool := sentB a b p && p.1.text == t
/-- What was sent, and what is delivered or waits. -/
structure Inv (d : Nt) (L : Rn) : Prop where
  known : ∀ a b, ∀ t ∈ d.q a b, L.any (knownB a b t) = true
  count : ∀ a b, L.countP (gotB a b) + (d.q a b).length ≤ L.countP (sentB a b)
theorem inv_new (n : Int) : Inv (newN n) [] := ⟨fun _ _ t h => (by cases h), fun _ _ => Nat.le_refl _⟩
theorem any_snoc (L : Rn) (f : SV × RV → Bool) (p : SV × RV) : (L ++ [p]).any f = (L.any f || f p) := by simp
theorem count_snoc (L : Rn) (f : SV × RV → Bool) (p : SV × RV) : (L ++ [p]).countP f = L.countP f + if f p = true then 1 else 0 := by
  rw [List.countP_append]; simp [List.countP_cons]
/-- A step that sends nothing, and takes out of the queues what it counts. -/
theorem Inv.less {d d' : Nt} {L : Rn} (h : Inv d L) (p : SV × RV) (hk : ∀ a b, ∀ t ∈ d'.q a b, t ∈ d.q a b) (hc : ∀ a b, (if gotB a b p = true then 1 else 0) + (d'.q a b).length ≤ (d.q a b).length) : Inv d' (L ++ [p]) := by
  refine ⟨fun a b t ht => ?_, fun a b => ?_⟩
  · rw [any_snoc, h.known a b t (hk a b t ht)]; rfl
  · have h1 := h.count a b
    have h2 := hc a b
    rw [count_snoc, count_snoc]
    omega
theorem Inv.step {d : Nt} {L : Rn} (h : Inv d L) (x : SV) : Inv (doN d x).2 (L ++ [(x, (doN d x).1)]) := by
  obtain ⟨kind, a, b, n, text, lost, again⟩ := x
  unfold doN
  simp only
  by_cases k0 : kind = 0
  · subst k0
    rw [if_pos rfl]
    have hg : ∀ p r : Int, ∀ v : RV, gotB p r (⟨0, a, b, n, text, lost, again⟩, v) = false := fun p r v => by simp [gotB]
    have stay : ∀ e : Int, (send d a b text).2 = d → Inv (send d a b text).2 (L ++ [(⟨0, a, b, n, text, lost, again⟩, ⟨(send d a b text).1, [], false⟩)]) := fun e he => by
      rw [he]
      exact h.less _ (fun _ _ _ ht => ht) (fun p r => by rw [hg]; simp)
    by_cases he : (send d a b text).1 = 0
    · have e2 : (send d a b text).2 = { d with q := at2 d.q a b (d.q a b ++ [text]) } := by
        unfold send at he ⊢
        split
        · rename_i h1; rw [if_pos h1] at he; cases he
        · rename_i h1; rw [if_neg h1] at he
          split
          · rename_i h2; rw [if_pos h2] at he; cases he
          · rename_i h2; rw [if_neg h2] at he
            split
            · rename_i h3; rw [if_pos h3] at he; cases he
            · rename_i h3; rw [if_neg h3] at he
              split
              · rename_i h4; rw [if_pos h4] at he; cases he
              · rfl
      dsimp only
      rw [he, e2]
      refine ⟨fun p r t ht => ?_, fun p r => ?_⟩
      · rw [any_snoc]
        simp only [at2] at ht
        split at ht
        · rename_i hpr
          obtain ⟨rfl, rfl⟩ := hpr
          rcases List.mem_append.1 ht with ht | ht
          · rw [h.known _ _ t ht]; rfl
          · simp at ht; subst ht
            simp [knownB, sentB]
        · rw [h.known _ _ t ht]; rfl
      · rw [count_snoc, count_snoc, hg]
        have h1 := h.count p r
        simp only [at2, Bool.false_eq_true, if_false]
        by_cases hpr : p = a ∧ r = b
        · obtain ⟨rfl, rfl⟩ := hpr
          have hs : sentB p r (⟨0, p, r, n, text, lost, again⟩, ⟨0, [], false⟩) = true := by simp [sentB]
          rw [if_pos ⟨rfl, rfl⟩, if_pos hs, List.length_append, List.length_singleton]
          omega
        · rw [if_neg hpr]
          omega
    · apply stay 0
      unfold send at he ⊢
      split
      · rfl
      · rename_i h1; rw [if_neg h1] at he
        split
        · rfl
        · rename_i h2; rw [if_neg h2] at he
          split
          · rfl
          · rename_i h3; rw [if_neg h3] at he
            split
            · rfl
            · rename_i h4; rw [if_neg h4] at he; exact absurd rfl he
  · rw [if_neg k0]
    by_cases k1 : kind = 1
    · subst k1
      rw [if_pos rfl]
      refine h.less _ (fun p r t ht => ?_) (fun p r => ?_)
      · have ht' : t ∈ (delD d a b n lost again).q p r := ht
        unfold delD at ht'
        split at ht'
        · exact ht'
        · split at ht'
          · simp only [cutD, at2] at ht'
            split at ht'
            · rename_i hpr; obtain ⟨rfl, rfl⟩ := hpr; exact cutAt_mem ht'
            · exact ht'
          · exact ht'
      · show (if gotB p r (⟨1, a, b, n, text, lost, again⟩, ⟨0, (delT d a b n lost).1, (delT d a b n lost).2⟩) = true then 1 else 0) + ((delD d a b n lost again).q p r).length ≤ (d.q p r).length
        unfold delT delD
        by_cases hi : inQ d a b n = false
        · rw [if_pos hi, if_pos hi]; simp [gotB]
        · rw [if_neg hi, if_neg hi]
          have hi' : inQ d a b n = true := by simpa using hi
          unfold inQ at hi'
          simp only [Bool.and_eq_true, decide_eq_true_eq] at hi'
          obtain ⟨_, hn0, hnl⟩ := hi'
          have hcl : (cutAt (d.q a b) n.toNat).length + 1 = (d.q a b).length := by simp [cutAt]; omega
          cases lost <;> cases again <;> simp [gotB, cutD, at2]
          · split
            · rename_i hpr; obtain ⟨rfl, rfl⟩ := hpr; simp; omega
            · rename_i hpr
              rw [if_neg (fun hh => hpr ⟨hh.1.symm, hh.2.symm⟩)]
              simp
          · split
            · rename_i hpr; obtain ⟨rfl, rfl⟩ := hpr; omega
            · exact Nat.le_refl _
          · split
            · rename_i hpr; obtain ⟨rfl, rfl⟩ := hpr; omega
            · exact Nat.le_refl _
    · rw [if_neg k1]
      have ht : ∀ (cut : Bool) (v : RV), Inv (turn d a b cut).2 (L ++ [(⟨kind, a, b, n, text, lost, again⟩, v)]) := fun cut v => by
        have hq : ∀ p r, (turn d a b cut).2.q p r = d.q p r ∨ (turn d a b cut).2.q p r = [] := fun p r => by
          unfold turn
          split
          · exact .inl rfl
          · split
            · exact .inl rfl
            · cases cut
              · exact .inl rfl
              · simp only [both, at2, if_true]
                split
                · exact .inr rfl
                · split
                  · exact .inr rfl
                  · exact .inl rfl
        refine h.less _ (fun p r t htm => ?_) (fun p r => ?_)
        · rcases hq p r with e | e
          · rw [e] at htm; exact htm
          · rw [e] at htm; cases htm
        · have : gotB p r (⟨kind, a, b, n, text, lost, again⟩, v) = false := by simp [gotB, k1]
          rw [this]
          rcases hq p r with e | e <;> rw [e] <;> simp
      split
      · exact ht true _
      · exact ht false _
/-- What is delivered was sent before. -/
theorem Inv.ok {d : Nt} {L : Rn} (h : Inv d L) (x : SV) (hk : x.kind = 1) (ho : (doN d x).1.ok = true) : L.any (knownB x.a x.b (doN d x).1.text) = true := by
  obtain ⟨kind, a, b, n, text, lost, again⟩ := x
  simp only at hk
  subst hk
  have e1 : (doN d ⟨1, a, b, n, text, lost, again⟩).1 = ⟨0, (delT d a b n lost).1, (delT d a b n lost).2⟩ := by
    unfold doN; simp [deliver]
  rw [e1] at ho ⊢
  simp only at ho ⊢
  unfold delT at ho ⊢
  by_cases hi : inQ d a b n = false
  · rw [if_pos hi] at ho; cases ho
  · rw [if_neg hi] at ho ⊢
    cases lost
    · simp only [Bool.false_eq_true, if_false]
      apply h.known
      have hi' : inQ d a b n = true := by simpa using hi
      unfold inQ at hi'
      simp only [Bool.and_eq_true, decide_eq_true_eq] at hi'
      obtain ⟨_, hn0, hnl⟩ := hi'
      rw [List.getD_eq_getElem?_getD, List.getElem?_eq_getElem (by omega)]
      exact List.getElem_mem _
    · cases ho

end N
end Go.Proofs.Ytklcpopnggiepaa
