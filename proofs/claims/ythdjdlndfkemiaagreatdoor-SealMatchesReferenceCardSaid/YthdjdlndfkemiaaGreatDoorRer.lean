/- Regions that draw their order, inside a round of a range over a function. Printed in part by mkRer.py. -/
import Derived.Test.YthdjdlndfkemiaaGreatDoorReu
import Derived.Test.YthdjdlndfkemiaaGreatDoorRei
import Derived.Test.YthdjdlndfkemiaaGreatDoorRif
import Derived.RangeFuncCalls
set_option linter.unusedSimpArgs false
set_option linter.unusedVariables false
set_option maxRecDepth 100000
namespace Go.Proofs.YthdjdlndfkemiaaGreatDoor.RegR
open Go Go.RowKit Go.Proofs.YthdjdlndfkemiaaGreatDoor.Reg

/-- An end that is no other end than the normal one. -/
def NormQ (Q : Exit → Act → World → Prop) : Exit → Act → World → Prop := fun e a w => e = .normal ∧ Q .normal a w
theorem normQ_out {Q : Exit → Act → World → Prop} : ¬ LetsOut (NormQ Q) := by
  rintro ⟨a, w, h⟩
  exact absurd h.1 (by intro e; cases e)
theorem round_of {l N : Nat} {P : Program} {o : Oper} {a : Act} {w : World} {K : Act → World → Prop} {Q : Exit → Act → World → Prop} (hnd : ∀ c, o.op ≠ .defer c) (h : Oper.wp P o a w K Q) : Oper.wpIn (Fence.wide.inRound l) N P o a w K Q := by
  refine ⟨fun _ _ => trivial, ?_⟩
  have e : o.semAt (Fence.wide.inRound l).round a.eval = execOp a.eval o := Oper.semAt_some l _ _ hnd
  rw [e]
  unfold Oper.wp at h
  generalize (execOp a.eval o).run P w = r at *
  cases r with
  | ok n w' =>
    cases n <;> simp only [Oper.upon, Oper.uponIn] at h ⊢
    case value u => exact h
    case skip => exact h
    case defer d => exact h
    case enter f args => exact ⟨(fun h => by cases h), CallsIn.inRound l (callsIn_wide.2 h)⟩
    case row row args => exact ⟨(fun h => by cases h), fun c cs _ => let ⟨v, w1, r, s⟩ := h c cs; ⟨v, w1, r, stepsIn_wide.2 s⟩⟩
  | halt x w' =>
    cases x <;> simp only [Oper.upon, Oper.uponIn] at h ⊢
    case panic u => exact h
def isDefer : Op → Bool
  | .defer _ => true
  | _ => false
def noDefer (ops : Array Oper) : Bool := ops.toList.all fun o => !isDefer o.op
theorem noDefer_at {ops : Array Oper} (h : noDefer ops = true) {i : Nat} {o : Oper} (ho : ops[i]? = some o) : ∀ c, o.op ≠ .defer c := by
  intro c e
  have hm : o ∈ ops.toList := by
    obtain ⟨hi, hx⟩ := Array.getElem?_eq_some_iff.1 ho
    rw [← hx]; exact Array.getElem_mem_toList hi
  have := List.all_eq_true.1 h o hm
  rw [e] at this
  simp [isDefer] at this
section
variable {l N : Nat} {P : Program} {ops : Array Oper} {Q : Exit → Act → World → Prop}
theorem wpOp_round (hn : noDefer ops = true) (hQ : ¬ LetsOut Q) {i : Nat} {K K' : Act → World → Prop} {a : Act} {w : World} (hK : ∀ a w, K a w → K' a w) (h : wpOp P ops Q i K a w) : wpOpIn (Fence.wide.inRound l) N P ops Q i K' a w := by
  refine wpOpIn_mono hK ?_
  unfold wpOpIn
  unfold wpOp at h
  cases ho : ops[i]? with
  | none => simp only [ho] at h; exact h
  | some o =>
    simp only [ho] at h ⊢
    split
    · rename_i hw
      simp only [hw, if_true] at h
      rcases h with h | ⟨_, h⟩
      · exact round_of (noDefer_at hn ho) h
      · exact absurd h hQ
    · rename_i hw
      simp only [hw] at h
      exact ⟨fun _ _ => trivial, h⟩
theorem wpAny_round (hn : noDefer ops = true) (hQ : ¬ LetsOut Q) {md : Region.Mode} : ∀ (fuel : Nat) (listed : Array Bool) (a : Act) (w : World), wpAny P md ops Q fuel listed a w → wpAnyIn (Fence.wide.inRound l) N P md ops Q fuel listed a w
  | 0, _, _, _, h => h
  | fuel + 1, listed, a, w, h => ⟨h.1, fun i hi => wpOp_round hn hQ (fun a w => wpAny_round hn hQ fuel _ a w) (h.2 i hi)⟩
theorem to_round {id : Nat} {a : Act} {w : World} (hm : P.follows .mixedOrders = true) (hn : noDefer ops = true) (h : wpAny P .any ops (NormQ Q) ops.size (Array.replicate ops.size false) a { w with drawn := w.drawn + 1 }) : (Code.region id ops true).wpIn (Fence.wide.inRound l) N P Q a w :=
  wpIn_mono (wpIn_region_any hm (wpAny_round hn normQ_out _ _ _ _ h)) fun e a w hq => by
    obtain ⟨rfl, hq⟩ := hq
    exact hq
end

theorem round_region_eff {l N : Nat} (Rl : World → World → Prop) (F : Nat → Value → World → Prop) (T : List Value → World → Prop) {P : Program} {id : Nat} {ops : Array Oper} {Q : Exit → Act → World → Prop} {a : Act} {w : World} (hm : P.follows .mixedOrders = true) (hc : regCond ops = true) (hn : noDefer ops = true)
    (hRt : ∀ a b c, Rl a b → Rl b c → Rl a c) (hRb : ∀ w w', Below w.heap.size w w' → Rl w w') (hFs : ∀ d v w w', F d v w → Rl w w' → F d v w') (hTs : ∀ vs w w', T vs w → Below w.heap.size w w' → T vs w') (hT0 : T [] w.drew)
    (h : SeqE P ops (NormQ Q) Rl w F T 0 [] ops.toList [] (fun _ => a)) : (Code.region id ops true).wpIn (Fence.wide.inRound l) N P Q a w := by
  refine to_round hm hn ?_
  have hd : dstsOk ops = true := by unfold regCond at hc; rw [Bool.and_eq_true] at hc; exact hc.1
  obtain ⟨ks, es, hW⟩ := h.whole (a0 := a) hd (by simp) (Nat.zero_le _) rfl
    (fun δ => ⟨rfl, rfl, fun j o d u _ _ _ hj _ => by omega, fun k _ => rfl⟩) (fun i o u hi => by omega) (fun i prev hi => by simp at hi) (fun m i hi => by simp at hi) (fun m i e hi => by simp at hi)
  have hfalse : ∀ j, (Array.replicate ops.size false).getD j false ≠ true := fun j => by
    by_cases hj : j < ops.size <;> simp [hj]
  refine InvE.all hRt hRb hFs hTs hc hW ops.size (fun _ => undef) _ a w.drew ⟨by simp, fun i o _ hl => absurd hl (hfalse i), ⟨rfl, rfl, fun j o d u _ _ _ hj _ => absurd hj (hfalse j), fun k _ => rfl⟩, hRb _ _ (Below.drew (Below.refl _ _)), fun d hl => absurd hl (hfalse d),
    0, Nat.zero_le _, fun m i _ => ⟨fun h => absurd h (hfalse i), fun h => by omega⟩, by simpa using hT0⟩ ?_
  exact Nat.le_trans List.countP_le_length (by simp)

theorem round_region_last {l N : Nat} (M : Nat → Prop) (F : Nat → Value → World → Prop) (T : List Value → World → Prop) {P : Program} {id : Nat} {ops : Array Oper} {Q : Exit → Act → World → Prop} {a : Act} {w : World} (hm : P.follows .mixedOrders = true) (hc : regCond ops = true) (hn : noDefer ops = true)
    (hFs : ∀ d v w w', F d v w → Keep M w w' → F d v w') (hTs : ∀ vs w w', T vs w → Below w.heap.size w w' → T vs w') (hT0 : T [] w.drew)
    (h : SeqL P ops (NormQ Q) M w F T 0 [] ops.toList [] (fun _ => a)) : (Code.region id ops true).wpIn (Fence.wide.inRound l) N P Q a w := by
  refine to_round hm hn ?_
  have hd : dstsOk ops = true := by unfold regCond at hc; rw [Bool.and_eq_true] at hc; exact hc.1
  obtain ⟨ks, es, L, hW⟩ := h.whole (a0 := a) hd (by simp) (Nat.zero_le _) rfl
    (fun δ => ⟨rfl, rfl, fun j o d u _ _ _ hj _ => by omega, fun k _ => rfl⟩) (fun i o u hi => by omega) (fun i prev hi => by simp at hi) (fun m i hi => by simp at hi) (fun m i e hi => by simp at hi)
  have hfalse : ∀ j, (Array.replicate ops.size false).getD j false ≠ true := fun j => by
    by_cases hj : j < ops.size <;> simp [hj]
  refine InvE.allL hFs hTs hc hW ops.size (fun _ => undef) _ a w.drew ⟨by simp, fun i o _ hl => absurd hl (hfalse i), ⟨rfl, rfl, fun j o d u _ _ _ hj _ => absurd hj (hfalse j), fun k _ => rfl⟩, ⟨rfl, rfl, rfl, Nat.le_refl _, fun _ _ _ => rfl⟩, fun d hl => absurd hl (hfalse d),
    0, Nat.zero_le _, fun m i _ => ⟨fun h => absurd h (hfalse i), fun h => by omega⟩, by simpa using hT0⟩ (hfalse L) ?_
  exact Nat.le_trans List.countP_le_length (by simp)

end Go.Proofs.YthdjdlndfkemiaaGreatDoor.RegR
