/- A second law for a region that draws its order of evaluation: beside operations that yield a value it may hold effects, each of which waits for the one before it; the walk goes once, in the order of the text. -/
import Derived.Test.YthdjdlndfkemiaaGreatDoorReg
import Derived.Test.YthdjdlndfkemiaaGreatDoorReh
set_option linter.unusedSimpArgs false
set_option linter.unusedVariables false
set_option maxRecDepth 100000
namespace Go.Proofs.YthdjdlndfkemiaaGreatDoor.RegR
open Go Go.RowKit Go.Proofs.YthdjdlndfkemiaaGreatDoor.Reg

abbrev Vals := Nat → Value
inductive KindE where
  | pure (v : Vals → Value)
  | new
  | eff (prev : List Nat)
def KindE.at (j : Nat) (δ : Vals) : KindE → Value
  | .pure v => v δ
  | .new => δ j
  | .eff _ => δ j

structure HoldsE (ops : Array Oper) (ks : List KindE) (a0 : Act) (δ : Vals) (L : Nat → Prop) (a : Act) : Prop where
  defers : a.defers = a0.defers
  size : a.tmps.size = a0.tmps.size
  new : ∀ j o d k, ops[j]? = some o → ks[j]? = some k → o.dst = some d → L j → d < a0.tmps.size → a.tmps[d]? = some (k.at j δ)
  old : ∀ k, (∀ j o, ops[j]? = some o → o.dst = some k → ¬ L j) → a.tmps[k]? = a0.tmps[k]?

theorem HoldsE.put {ops : Array Oper} {ks : List KindE} {a0 : Act} {δ δ' : Vals} {L L' : Nat → Prop} {a : Act} {i : Nat} {o : Oper} {k : KindE}
    (hd : dstsOk ops = true) (h : HoldsE ops ks a0 δ L a) (ho : ops[i]? = some o) (hu : ks[i]? = some k) (hδ : ∀ j k, ks[j]? = some k → L j → k.at j δ' = k.at j δ) (hi : ¬ L i) (hL : ∀ j, L' j ↔ L j ∨ j = i) :
    HoldsE ops ks a0 δ' L' (a.put o.dst (k.at i δ')) := by
  refine ⟨(put_defers _ _ _).trans h.defers, (put_size _ _ _).trans h.size, ?_, ?_⟩
  · intro j oj d uj hj huj hdj hLj hlt
    rcases (hL j).1 hLj with hLj | rfl
    · have hji : j ≠ i := fun e => hi (e ▸ hLj)
      rw [put_far _ _ _ _ (dsts_ne hd hj ho hji d hdj), h.new j oj d uj hj huj hdj hLj hlt, hδ j uj huj hLj]
    · rw [ho] at hj
      obtain rfl : o = oj := by simpa using hj
      rw [hu] at huj
      obtain rfl : k = uj := by simpa using huj
      rw [hdj]
      exact put_at _ _ _ (by rw [h.size]; exact hlt)
  · intro m hm
    rw [put_far]
    · exact h.old m fun j oj hj hdj hLj => hm j oj hj hdj ((hL j).2 (.inl hLj))
    · exact fun e => hm i o ho e ((hL i).2 (.inr rfl))

theorem HoldsE.agree {ops : Array Oper} {ks : List KindE} {a0 : Act} {δ : Vals} {L M : Nat → Prop} {a b : Act} (hlen : ks.length = ops.size) (h : HoldsE ops ks a0 δ L a) (k : HoldsE ops ks a0 δ M b) (t : Nat)
    (hw : ∀ j o, ops[j]? = some o → o.dst = some t → (L j ↔ M j)) : a.tmps[t]? = b.tmps[t]? := by
  by_cases hlt : t < a0.tmps.size
  · by_cases hex : ∃ j o, ops[j]? = some o ∧ o.dst = some t ∧ L j
    · obtain ⟨j, o, hj, hdj, hLj⟩ := hex
      have lj : j < ops.size := (Array.getElem?_eq_some_iff.1 hj).1
      have hu : ks[j]? = some ks[j] := List.getElem?_eq_getElem (by omega)
      rw [h.new j o t _ hj hu hdj hLj hlt, k.new j o t _ hj hu hdj ((hw j o hj hdj).1 hLj) hlt]
    · rw [h.old t (fun j o hj hdj hLj => hex ⟨j, o, hj, hdj, hLj⟩), k.old t (fun j o hj hdj hMj => hex ⟨j, o, hj, hdj, (hw j o hj hdj).2 hMj⟩)]
  · rw [Array.getElem?_eq_none (by rw [h.size]; omega), Array.getElem?_eq_none (by rw [k.size]; omega)]

theorem Does.xferE {P : Program} {ops : Array Oper} {Q : Exit → Act → World → Prop} {i : Nat} {o : Oper} {act a : Act} {w : World} {R : Value → World → Prop} {K : Act → World → Prop}
    (ho : ops[i]? = some o) (hx : execOp a.eval o = execOp act.eval o) (hw : Region.wanted o (yielded ops a.tmps) = Region.wanted o (yielded ops act.tmps)) (hsz : a.tmps.size = act.tmps.size)
    (h : Does P ops o act w fun a' w' => ∃ v, a' = act.put o.dst v ∧ R v w') (hK : ∀ v w', R v w' → K (a.put o.dst v) w') : wpOp P ops Q i K a w := by
  have same : ∀ u v, act.put o.dst u = act.put o.dst v → a.put o.dst u = a.put o.dst v := by
    intro u v hu
    cases hd : o.dst with
    | none => rfl
    | some d =>
      rw [hd] at hu
      by_cases hlt : d < act.tmps.size
      · have h1 := put_at act d u hlt
        rw [hu, put_at act d v hlt] at h1
        obtain rfl : v = u := by simpa using h1
        rfl
      · simp [Act.put, Array.setIfInBounds, hsz, hlt]
  unfold wpOp
  simp only [ho]
  unfold Does at h
  rw [hw]
  split
  · rename_i hw1
    simp only [hw1, if_true] at h
    refine .inl ?_
    unfold Oper.wp at *
    rw [hx]
    generalize (execOp act.eval o).run P w = r at *
    cases r with
    | ok n w' =>
      cases n <;> simp only [Oper.upon] at h ⊢
      case value u => obtain ⟨v, e, hR⟩ := h; rw [same u v e]; exact hK _ _ hR
      case skip => obtain ⟨v, e, hR⟩ := h; rw [same _ v e]; exact hK _ _ hR
      case defer d =>
        obtain ⟨v, e, hR⟩ := h
        exfalso
        have h1 := congrArg (fun x : Act => x.defers.length) e
        simp [put_defers] at h1
      case enter f args =>
        refine Calls.mono h fun e w'' he => ?_
        cases e with
        | returned u => obtain ⟨v, e, hR⟩ := he; show K (a.put o.dst u) w''; rw [same u v e]; exact hK _ _ hR
        | panicked c => exact (he : False).elim
        | outgrown => obtain ⟨_, _, hf⟩ := he; exact (hf : False).elim
      case row row args => exact Rows.mono h fun u w'' he => by obtain ⟨v, e, hR⟩ := he; rw [same u v e]; exact hK _ _ hR
    | halt x w' =>
      cases x <;> simp only [Oper.upon] at h ⊢
      case panic u => exact (h : False).elim
  · rename_i hw1
    simp only [hw1] at h
    obtain ⟨v, e, hR⟩ := h
    rw [same _ v e]; exact hK _ _ hR

/-- What is known of the operations that n waits for. -/
def Known (ops : Array Oper) (F : Nat → Value → World → Prop) (n : Nat) (δ : Vals) (w : World) : Prop := ∀ d, reach ops 12 n d = true → F d (δ d) w
def Local (ops : Array Oper) (n : Nat) (v : Vals → Value) : Prop := ∀ δ δ' : Vals, (∀ d, reach ops 12 n d = true → δ d = δ' d) → v δ = v δ'

def DoesPure (P : Program) (ops : Array Oper) (Rl : World → World → Prop) (w0 : World) (F : Nat → Value → World → Prop) (n : Nat) (o : Oper) (af : Vals → Act) (v : Vals → Value) : Prop :=
  ∀ δ w, Rl w0 w → Known ops F n δ w → ∀ K : Act → World → Prop, (∀ w', Below w.heap.size w w' → K ((af δ).put o.dst (v δ)) w') → Does P ops o (af δ) w K
def DoesNew (P : Program) (ops : Array Oper) (Rl : World → World → Prop) (w0 : World) (F : Nat → Value → World → Prop) (n : Nat) (o : Oper) (af : Vals → Act) : Prop :=
  ∀ δ w, Rl w0 w → Known ops F n δ w → ∀ K : Act → World → Prop, (∀ x w', Below w.heap.size w w' → F n x w' → K ((af δ).put o.dst x) w') → Does P ops o (af δ) w K
def DoesEff (P : Program) (ops : Array Oper) (Rl : World → World → Prop) (w0 : World) (F : Nat → Value → World → Prop) (T : List Value → World → Prop) (n : Nat) (es : List Nat) (o : Oper) (af : Vals → Act) : Prop :=
  ∀ δ w, Rl w0 w → Known ops F n δ w → T (es.map δ) w → ∀ K : Act → World → Prop, (∀ x w', Rl w w' → F n x w' → T (es.map δ ++ [x]) w' → K ((af δ).put o.dst x) w') → Does P ops o (af δ) w K

inductive SeqE (P : Program) (ops : Array Oper) (Q : Exit → Act → World → Prop) (Rl : World → World → Prop) (w0 : World) (F : Nat → Value → World → Prop) (T : List Value → World → Prop) : Nat → List Nat → List Oper → List KindE → (Vals → Act) → Prop
  | nil {n : Nat} {es : List Nat} {ks : List KindE} {af : Vals → Act} (h : ∀ δ w, Rl w0 w → (∀ d, d < n → F d (δ d) w) → T (es.map δ) w → Q .normal (af δ) w) : SeqE P ops Q Rl w0 F T n es [] ks af
  | val {n : Nat} {es : List Nat} {o : Oper} {rest : List Oper} {ks : List KindE} {af : Vals → Act} (v : Vals → Value) (hv : Local ops n v) (hF : ∀ x w, F n x w) (h : DoesPure P ops Rl w0 F n o af v)
      (hr : SeqE P ops Q Rl w0 F T (n + 1) es rest (ks ++ [.pure v]) (fun δ => (af δ).put o.dst (v δ))) : SeqE P ops Q Rl w0 F T n es (o :: rest) ks af
  | new {n : Nat} {es : List Nat} {o : Oper} {rest : List Oper} {ks : List KindE} {af : Vals → Act} (h : DoesNew P ops Rl w0 F n o af)
      (hr : SeqE P ops Q Rl w0 F T (n + 1) es rest (ks ++ [.new]) (fun δ => (af δ).put o.dst (δ n))) : SeqE P ops Q Rl w0 F T n es (o :: rest) ks af
  | eff {n : Nat} {es : List Nat} {o : Oper} {rest : List Oper} {ks : List KindE} {af : Vals → Act} (hp : ∀ e, es.getLast? = some e → reach ops 12 n e = true) (h : DoesEff P ops Rl w0 F T n es o af)
      (hr : SeqE P ops Q Rl w0 F T (n + 1) (es ++ [n]) rest (ks ++ [.eff es]) (fun δ => (af δ).put o.dst (δ n))) : SeqE P ops Q Rl w0 F T n es (o :: rest) ks af

def StepE (P : Program) (ops : Array Oper) (Rl : World → World → Prop) (w0 : World) (F : Nat → Value → World → Prop) (T : List Value → World → Prop) (n : Nat) (o : Oper) (af : Vals → Act) : KindE → Prop
  | .pure v => Local ops n v ∧ (∀ x w, F n x w) ∧ DoesPure P ops Rl w0 F n o af v
  | .new => DoesNew P ops Rl w0 F n o af
  | .eff es => DoesEff P ops Rl w0 F T n es o af

structure WholeE (P : Program) (ops : Array Oper) (Q : Exit → Act → World → Prop) (Rl : World → World → Prop) (w0 : World) (F : Nat → Value → World → Prop) (T : List Value → World → Prop) (a0 : Act) (ks : List KindE) (es : List Nat) : Prop where
  len : ks.length = ops.size
  step : ∀ i o k, ops[i]? = some o → ks[i]? = some k → ∃ af, (∀ δ, HoldsE ops ks a0 δ (· < i) (af δ)) ∧ StepE P ops Rl w0 F T i o af k
  isEff : ∀ (i : Nat) (prev : List Nat), ks[i]? = some (KindE.eff prev) → ∃ m, es[m]? = some i ∧ prev = es.take m
  effIs : ∀ (m i : Nat), es[m]? = some i → ∃ prev : List Nat, ks[i]? = some (KindE.eff prev)
  chain : ∀ (m i e : Nat), es[m + 1]? = some i → es[m]? = some e → reach ops 12 i e = true
  final : ∃ af : Vals → Act, (∀ δ, HoldsE ops ks a0 δ (· < ops.size) (af δ)) ∧ ∀ δ w, Rl w0 w → (∀ d, d < ops.size → F d (δ d) w) → T (es.map δ) w → Q .normal (af δ) w

theorem HoldsE.more {ops : Array Oper} {ks ks' : List KindE} {a0 : Act} {δ : Vals} {n : Nat} {a : Act} (h : HoldsE ops ks a0 δ (· < n) a) (hp : ∀ j, j < n → ks'[j]? = ks[j]?) : HoldsE ops ks' a0 δ (· < n) a :=
  ⟨h.defers, h.size, fun j o d u hj hu hd hL hlt => h.new j o d u hj (by rw [← hp j hL]; exact hu) hd hL hlt, h.old⟩

theorem part {α : Type} {l : List α} {u v : α} {k : Nat} (hk : (l ++ [u])[k]? = some v) : l[k]? = some v ∨ (k = l.length ∧ u = v) := by
  rcases Nat.lt_or_ge k l.length with h1 | h1
  · rw [List.getElem?_append_left h1] at hk; exact .inl hk
  · rw [List.getElem?_append_right h1] at hk
    cases hd : k - l.length with
    | zero => rw [hd] at hk; exact .inr ⟨by omega, by simpa using hk⟩
    | succ m => rw [hd] at hk; simp at hk
theorem lts {α : Type} {l : List α} {v : α} {k : Nat} (hk : l[k]? = some v) : k < l.length := (List.getElem?_eq_some_iff.1 hk).1

theorem SeqE.whole {P : Program} {ops : Array Oper} {Q : Exit → Act → World → Prop} {Rl : World → World → Prop} {w0 : World} {F : Nat → Value → World → Prop} {T : List Value → World → Prop} {a0 : Act} (hd : dstsOk ops = true) {n : Nat} {es : List Nat} {rest : List Oper} {ks : List KindE} {af : Vals → Act}
    (h : SeqE P ops Q Rl w0 F T n es rest ks af) : rest = ops.toList.drop n → n ≤ ops.size → ks.length = n → (∀ δ, HoldsE ops ks a0 δ (· < n) (af δ)) →
      (∀ i o k, i < n → ops[i]? = some o → ks[i]? = some k → ∃ af, (∀ δ, HoldsE ops ks a0 δ (· < i) (af δ)) ∧ StepE P ops Rl w0 F T i o af k) →
      (∀ (i : Nat) (prev : List Nat), ks[i]? = some (KindE.eff prev) → ∃ m, es[m]? = some i ∧ prev = es.take m) → (∀ (m i : Nat), es[m]? = some i → ∃ prev : List Nat, ks[i]? = some (KindE.eff prev)) → (∀ (m i e : Nat), es[m + 1]? = some i → es[m]? = some e → reach ops 12 i e = true) →
      ∃ ksF esF, WholeE P ops Q Rl w0 F T a0 ksF esF := by
  have next : ∀ {n : Nat} {ks : List KindE} {k : KindE} {o : Oper} {rest : List Oper} {af : Vals → Act}, o :: rest = ops.toList.drop n → ks.length = n → (∀ δ, HoldsE ops ks a0 δ (· < n) (af δ)) →
      ops[n]? = some o ∧ rest = ops.toList.drop (n + 1) ∧ n + 1 ≤ ops.size ∧ (ks ++ [k])[n]? = some k ∧ (∀ δ, HoldsE ops (ks ++ [k]) a0 δ (· < n) (af δ)) ∧ (∀ δ, HoldsE ops (ks ++ [k]) a0 δ (· < n + 1) ((af δ).put o.dst (k.at n δ))) := by
    intro n ks k o rest af hr hl hh
    have hn : n < ops.toList.length := by
      rcases Nat.lt_or_ge n ops.toList.length with h | h
      · exact h
      · rw [List.drop_eq_nil_of_le h] at hr; cases hr
    rw [List.drop_eq_getElem_cons hn] at hr
    have e1 := (List.cons.inj hr).1
    have e2 := (List.cons.inj hr).2
    have ho : ops[n]? = some o := by
      rw [e1]; simp
    have hu : (ks ++ [k])[n]? = some k := by simp [← hl]
    have hm : ∀ δ, HoldsE ops (ks ++ [k]) a0 δ (· < n) (af δ) := fun δ => (hh δ).more fun j hj => List.getElem?_append_left (by omega)
    exact ⟨ho, e2, by simp at hn; omega, hu, hm, fun δ => (hm δ).put hd ho hu (fun _ _ _ _ => rfl) (by omega) (fun j => by omega)⟩
  have ext : ∀ {n : Nat} {ks : List KindE} {k : KindE} {o : Oper} {af : Vals → Act}, ks.length = n → ops[n]? = some o → (ks ++ [k])[n]? = some k → (∀ δ, HoldsE ops (ks ++ [k]) a0 δ (· < n) (af δ)) → StepE P ops Rl w0 F T n o af k →
      (∀ i o k, i < n → ops[i]? = some o → ks[i]? = some k → ∃ af, (∀ δ, HoldsE ops ks a0 δ (· < i) (af δ)) ∧ StepE P ops Rl w0 F T i o af k) →
      (∀ i o' k', i < n + 1 → ops[i]? = some o' → (ks ++ [k])[i]? = some k' → ∃ af, (∀ δ, HoldsE ops (ks ++ [k]) a0 δ (· < i) (af δ)) ∧ StepE P ops Rl w0 F T i o' af k') := by
    intro n ks k o af hl ho hu hm hs hold i o' u' hi hio hiu
    by_cases hin : i = n
    · subst hin
      rw [ho] at hio; rw [hu] at hiu
      obtain rfl : o = o' := by simpa using hio
      obtain rfl : k = u' := by simpa using hiu
      exact ⟨af, hm, hs⟩
    · have hlt : i < n := by omega
      have hpre : ∀ j, j < n → (ks ++ [k])[j]? = ks[j]? := fun j hj => List.getElem?_append_left (by omega)
      obtain ⟨af', h1, h2⟩ := hold i o' u' hlt hio (by rw [← hiu]; exact (hpre i hlt).symm)
      exact ⟨af', fun δ => (h1 δ).more fun j hj => hpre j (by omega), h2⟩
  induction h with
  | @nil n es ks af h =>
    intro hr hn hl hh hold h1 h2 h3
    have hnn : n = ops.size := by
      rcases Nat.lt_or_ge n ops.size with h1 | h1
      · have h2 := congrArg List.length hr
        simp at h2; omega
      · omega
    subst hnn
    exact ⟨ks, es, hl, fun i o k ho hk => hold i o k (Array.getElem?_eq_some_iff.1 ho).1 ho hk, h1, h2, h3, af, hh, h⟩
  | @val n es o rest ks af v hv hF h hr ih =>
    intro hrest hn hl hh hold h1 h2 h3
    obtain ⟨ho, e2, hn', hu, hm, hm'⟩ := next (k := .pure v) hrest hl hh
    refine ih e2 hn' (by simp [hl]) hm' (ext hl ho hu hm ⟨hv, hF, h⟩ hold) (fun i prev hi => ?_) (fun m i hi => ?_) h3
    · rcases part hi with hi | ⟨_, e⟩
      · exact h1 i prev hi
      · cases e
    · obtain ⟨prev, hp⟩ := h2 m i hi
      exact ⟨prev, by rw [List.getElem?_append_left (lts hp)]; exact hp⟩
  | @new n es o rest ks af h hr ih =>
    intro hrest hn hl hh hold h1 h2 h3
    obtain ⟨ho, e2, hn', hu, hm, hm'⟩ := next (k := .new) hrest hl hh
    refine ih e2 hn' (by simp [hl]) hm' (ext hl ho hu hm h hold) (fun i prev hi => ?_) (fun m i hi => ?_) h3
    · rcases part hi with hi | ⟨_, e⟩
      · exact h1 i prev hi
      · cases e
    · obtain ⟨prev, hp⟩ := h2 m i hi
      exact ⟨prev, by rw [List.getElem?_append_left (lts hp)]; exact hp⟩
  | @eff n es o rest ks af hp h hr ih =>
    intro hrest hn hl hh hold h1 h2 h3
    obtain ⟨ho, e2, hn', hu, hm, hm'⟩ := next (k := .eff es) hrest hl hh
    refine ih e2 hn' (by simp [hl]) hm' (ext hl ho hu hm h hold) (fun i prev hi => ?_) (fun m i hi => ?_) (fun m i e hi he => ?_)
    · rcases part hi with hi | ⟨hi9, e⟩
      · obtain ⟨m, hm1, hm2⟩ := h1 i prev hi
        have := lts hm1
        exact ⟨m, by rw [List.getElem?_append_left this]; exact hm1, by rw [List.take_append_of_le_length (by omega)]; exact hm2⟩
      · cases e
        exact ⟨es.length, by rw [List.getElem?_append_right (Nat.le_refl _)]; rw [hi9, hl]; simp, by rw [List.take_append_of_le_length (Nat.le_refl _), List.take_length]⟩
    · rcases part hi with hi | ⟨_, e⟩
      · obtain ⟨prev, hp⟩ := h2 m i hi
        exact ⟨prev, by rw [List.getElem?_append_left (lts hp)]; exact hp⟩
      · subst e; exact ⟨es, hu⟩
    · rcases part hi with hi | ⟨hi9, e'⟩
      · rcases part he with he | ⟨he9, _⟩
        · exact h3 m i e hi he
        · have := lts hi; omega
      · subst e'
        rcases part he with he | ⟨he9, _⟩
        · exact hp e (by rw [List.getLast?_eq_getElem?, show es.length - 1 = m from by omega]; exact he)
        · omega

structure InvE (ops : Array Oper) (ks : List KindE) (es : List Nat) (a0 : Act) (Rl : World → World → Prop) (w0 : World) (F : Nat → Value → World → Prop) (T : List Value → World → Prop) (δ : Vals) (listed : Array Bool) (a : Act) (w : World) : Prop where
  size : listed.size = ops.size
  closed : ∀ i o, ops[i]? = some o → listed.getD i false = true → ∀ e ∈ o.after, Region.binds .any e = true → listed.getD e.on false = true
  holds : HoldsE ops ks a0 δ (fun j => listed.getD j false = true) a
  keep : Rl w0 w
  facts : ∀ d, listed.getD d false = true → F d (δ d) w
  stage : ∃ j, j ≤ es.length ∧ (∀ m i, es[m]? = some i → (listed.getD i false = true ↔ m < j)) ∧ T ((es.take j).map δ) w

theorem InvE.step {P : Program} {ops : Array Oper} {Q : Exit → Act → World → Prop} {Rl : World → World → Prop} {w0 : World} {F : Nat → Value → World → Prop} {T : List Value → World → Prop} {a0 : Act} {ks : List KindE} {es : List Nat}
    (hRt : ∀ a b c, Rl a b → Rl b c → Rl a c) (hRb : ∀ w w', Below w.heap.size w w' → Rl w w') (hFs : ∀ d v w w', F d v w → Rl w w' → F d v w') (hTs : ∀ vs w w', T vs w → Below w.heap.size w w' → T vs w') (hc : regCond ops = true) (hW : WholeE P ops Q Rl w0 F T a0 ks es)
    {δ : Vals} {listed : Array Bool} {a : Act} {w : World} (hI : InvE ops ks es a0 Rl w0 F T δ listed a w) {i : Nat} (hr : i ∈ Region.ready .any ops listed) {K : Act → World → Prop}
    (hK : ∀ δ' a' w', InvE ops ks es a0 Rl w0 F T δ' (listed.setIfInBounds i true) a' w' → K a' w') : wpOp P ops Q i K a w := by
  have hd : dstsOk ops = true := by unfold regCond at hc; rw [Bool.and_eq_true] at hc; exact hc.1
  obtain ⟨hun, o, ho, hpre⟩ := mem_ready.1 hr
  have li : i < ops.size := (Array.getElem?_eq_some_iff.1 ho).1
  have lis : i < listed.size := by rw [hI.size]; exact li
  have hnot : listed.getD i false ≠ true := by
    simp [lis] at hun ⊢
    exact hun
  obtain ⟨hsel, hedge, hlook⟩ := condOf hc ho
  have hu : ks[i]? = some (ks[i]'(by rw [hW.len]; exact li)) := List.getElem?_eq_getElem _
  generalize ks[i]'(by rw [hW.len]; exact li) = k at hu
  obtain ⟨af, hH, hS⟩ := hW.step i o k ho hu
  have hpre' : ∀ o', ops[i]? = some o' → ∀ e ∈ o'.after, Region.binds .any e = true → listed.getD e.on false = true := fun o' ho' e he hb => by
    rw [ho] at ho'
    obtain rfl : o = o' := by simpa using ho'
    exact hpre e he hb
  have reached : ∀ (f j : Nat), reach ops f i j = true → listed.getD j false = true := fun f j h => reach_listed hI.closed f i j h hpre'
  have agree : ∀ t ∈ o.looksAt ops, a.tmps[t]? = (af δ).tmps[t]? := fun t ht => hI.holds.agree hW.len (hH δ) t fun j oj hj hdj => by
    rcases hlook t ht j oj hj hdj with rfl | ⟨hlt, hre⟩ | ⟨hlt, hre⟩
    · exact ⟨fun h => absurd h hnot, fun h => by omega⟩
    · exact ⟨fun _ => hlt, fun _ => reached 4 j hre⟩
    · exact ⟨fun h => absurd (reach_listed hI.closed 4 j i hre fun o' ho' => hI.closed j o' ho' h) hnot, fun h => by omega⟩
  have hx : execOp a.eval o = execOp (af δ).eval o := execOp_congr o hsel fun x hx => by
    cases x with
    | tmp t =>
      have := agree t (List.mem_append_left _ (List.mem_filterMap.2 ⟨.tmp t, by simpa using hx, rfl⟩))
      simp only [Act.eval, Array.getD_eq_getD_getElem?, this]
    | const v => rfl
    | global g => rfl
    | func f => rfl
  have hwn : Region.wanted o (yielded ops a.tmps) = Region.wanted o (yielded ops (af δ).tmps) := by
    unfold Region.wanted
    cases hg : o.guard with
    | none => rfl
    | some gw =>
      obtain ⟨g, want⟩ := gw
      have : yielded ops a.tmps g = yielded ops (af δ).tmps g := by
        unfold yielded
        cases ht : (ops[g]?).bind (·.dst) with
        | none => rfl
        | some t =>
          have h1 := agree t (List.mem_append_right _ (by simp [hg, ht]))
          simp only [Option.bind_some]
          rw [h1]
      simp only [this]
  have hsz : a.tmps.size = (af δ).tmps.size := hI.holds.size.trans (hH δ).size.symm
  have closed' : ∀ j oj, ops[j]? = some oj → (listed.setIfInBounds i true).getD j false = true → ∀ e ∈ oj.after, Region.binds .any e = true → (listed.setIfInBounds i true).getD e.on false = true := by
    intro j oj hj hl e he hb
    rw [getD_true lis] at hl ⊢
    rcases hl with hl | rfl
    · exact .inl (hI.closed j oj hj hl e he hb)
    · exact .inl (hpre' oj hj e he hb)
  have size' : (listed.setIfInBounds i true).size = ops.size := by simp [hI.size]
  have known : Known ops F i δ w := fun d hd => hI.facts d (reached 12 d hd)
  have iff := fun j => getD_true (listed := listed) (i := i) (j := j) lis
  let up : Value → Vals := fun x j => if j = i then x else δ j
  have upi : ∀ x, up x i = x := fun x => by simp [up]
  have upj : ∀ x j, listed.getD j false = true → up x j = δ j := fun x j hl => by
    have : j ≠ i := fun e => hnot (e ▸ hl)
    simp [up, this]
  have loc : ∀ x j k, ks[j]? = some k → listed.getD j false = true → k.at j (up x) = k.at j δ := fun x j k hk hl => by
    cases k with
    | new => exact upj x j hl
    | eff prev => exact upj x j hl
    | pure v =>
      have hj : j < ops.size := by rw [← hW.len]; exact (List.getElem?_eq_some_iff.1 hk).1
      obtain ⟨_, _, hSj⟩ := hW.step j _ _ (Array.getElem?_eq_getElem hj) hk
      exact hSj.1 (up x) δ fun d hd => upj x d (reach_listed hI.closed 12 j d hd fun o' ho' => hI.closed j o' ho' hl)
  have facts' : ∀ x w', Rl w w' → F i x w' → ∀ d, (listed.setIfInBounds i true).getD d false = true → F d (up x d) w' := fun x w' hk hf d hl => by
    rw [iff] at hl
    rcases hl with hl | rfl
    · rw [upj x d hl]; exact hFs _ _ _ _ (hI.facts d hl) hk
    · rw [upi]; exact hf
  obtain ⟨j0, hj0, hst, hT⟩ := hI.stage
  have stage' : (∀ prev, k ≠ .eff prev) → ∀ x w', Below w.heap.size w w' → ∃ j, j ≤ es.length ∧ (∀ m e, es[m]? = some e → ((listed.setIfInBounds i true).getD e false = true ↔ m < j)) ∧ T ((es.take j).map (up x)) w' := fun hne x w' hb => by
    have hie : ∀ m e, es[m]? = some e → e ≠ i := fun m e hm h => by
      obtain ⟨prev, hp⟩ := hW.effIs m e hm
      rw [h, hu] at hp
      exact hne prev (by simpa using hp)
    refine ⟨j0, hj0, fun m e hm => ?_, ?_⟩
    · rw [iff]
      constructor
      · rintro (h | h)
        · exact (hst m e hm).1 h
        · exact absurd h (hie m e hm)
      · exact fun h => .inl ((hst m e hm).2 h)
    · have : (es.take j0).map (up x) = (es.take j0).map δ := List.map_congr_left fun e he => by
        obtain ⟨m, hm⟩ := List.getElem?_of_mem he
        have hm' : es[m]? = some e := by
          rw [List.getElem?_take] at hm; split at hm
          · exact hm
          · cases hm
        have := hie m e hm'
        simp [up, this]
      rw [this]
      exact hTs _ _ _ hT hb
  cases k with
  | pure v =>
    obtain ⟨hv, hF0, hD⟩ := hS
    refine Does.xferE (act := af δ) (R := fun x w' => x = v δ ∧ Below w.heap.size w w') ho hx hwn hsz (hD δ w hI.keep known _ fun w' hb => ⟨_, rfl, rfl, hb⟩) fun x w' ⟨hxv, hb⟩ => hK (up x) _ w' ?_
    have hat : (KindE.pure v).at i (up x) = x := by
      rw [hxv]
      exact hv (up (v δ)) δ fun d hd => upj _ d (reached 12 d hd)
    have hput := hI.holds.put (δ' := up x) hd ho hu (loc x) hnot iff
    rw [hat] at hput
    exact ⟨size', closed', hput, hRt _ _ _ hI.keep (hRb _ _ hb), facts' x w' (hRb _ _ hb) (hF0 _ _), stage' (fun _ e => by cases e) x w' hb⟩
  | new =>
    refine Does.xferE (act := af δ) (R := fun x w' => Below w.heap.size w w' ∧ F i x w') ho hx hwn hsz (hS δ w hI.keep known _ fun x w' hb hf => ⟨_, rfl, hb, hf⟩) fun x w' ⟨hb, hf⟩ => hK (up x) _ w' ?_
    have hput := hI.holds.put (δ' := up x) hd ho hu (loc x) hnot iff
    simp only [KindE.at, upi] at hput
    exact ⟨size', closed', hput, hRt _ _ _ hI.keep (hRb _ _ hb), facts' x w' (hRb _ _ hb) hf, stage' (fun _ e => by cases e) x w' hb⟩
  | eff prev =>
    obtain ⟨m, hm, rfl⟩ := hW.isEff i prev hu
    have hjm : j0 = m := by
      have h1 : ¬ m < j0 := fun h => hnot ((hst m i hm).2 h)
      rcases Nat.lt_or_ge j0 m with h2 | h2
      · exfalso
        obtain ⟨m', rfl⟩ : ∃ m', m = m' + 1 := ⟨m - 1, by omega⟩
        have hlm : m' < es.length := by have := (List.getElem?_eq_some_iff.1 hm).1; omega
        have he : es[m']? = some es[m'] := List.getElem?_eq_getElem hlm
        have := (hst m' _ he).1 (reached 12 _ (hW.chain m' i _ hm he))
        omega
      · omega
    subst hjm
    refine Does.xferE (act := af δ) (R := fun x w' => Rl w w' ∧ F i x w' ∧ T ((es.take j0).map δ ++ [x]) w') ho hx hwn hsz (hS δ w hI.keep known hT _ fun x w' hb hf ht => ⟨_, rfl, hb, hf, ht⟩) fun x w' ⟨hb, hf, ht⟩ => hK (up x) _ w' ?_
    have hput := hI.holds.put (δ' := up x) hd ho hu (loc x) hnot iff
    simp only [KindE.at, upi] at hput
    have hlm : j0 < es.length := (List.getElem?_eq_some_iff.1 hm).1
    refine ⟨size', closed', hput, hRt _ _ _ hI.keep hb, facts' x w' hb hf, j0 + 1, by omega, fun q e hq => ?_, ?_⟩
    · rw [iff, hst q e hq]
      constructor
      · rintro (h | h)
        · omega
        · subst h
          rcases Nat.lt_or_ge q (j0 + 1) with h5 | h5
          · exact h5
          · exfalso
            -- two places for one effect: the later one waits for the former
            obtain ⟨q', rfl⟩ : ∃ q', q = q' + 1 := ⟨q - 1, by omega⟩
            have hlq : q' < es.length := by have := (List.getElem?_eq_some_iff.1 hq).1; omega
            have he : es[q']? = some es[q'] := List.getElem?_eq_getElem hlq
            have := (hst q' _ he).1 (reached 12 _ (hW.chain q' e _ hq he))
            omega
      · intro h
        rcases Nat.lt_or_ge q j0 with h5 | h5
        · exact .inl h5
        · obtain rfl : q = j0 := by omega
          rw [hm] at hq
          exact .inr (by simpa using hq.symm)
    · rw [List.take_add_one, hm, List.map_append]
      simp only [Option.toList, List.map_cons, List.map_nil, upi]
      have : (es.take j0).map (up x) = (es.take j0).map δ := List.map_congr_left fun e he => by
        obtain ⟨q, hq⟩ := List.getElem?_of_mem he
        rw [List.getElem?_take] at hq
        split at hq
        · rename_i hlt
          exact upj x e ((hst q e hq).2 hlt)
        · cases hq
      rw [this]
      exact ht

theorem InvE.all {P : Program} {ops : Array Oper} {Q : Exit → Act → World → Prop} {Rl : World → World → Prop} {w0 : World} {F : Nat → Value → World → Prop} {T : List Value → World → Prop} {a0 : Act} {ks : List KindE} {es : List Nat}
    (hRt : ∀ a b c, Rl a b → Rl b c → Rl a c) (hRb : ∀ w w', Below w.heap.size w w' → Rl w w') (hFs : ∀ d v w w', F d v w → Rl w w' → F d v w') (hTs : ∀ vs w w', T vs w → Below w.heap.size w w' → T vs w') (hc : regCond ops = true) (hW : WholeE P ops Q Rl w0 F T a0 ks es) :
    ∀ (fuel : Nat) (δ : Vals) (listed : Array Bool) (a : Act) (w : World), InvE ops ks es a0 Rl w0 F T δ listed a w → (listed.toList.countP (· == false)) ≤ fuel → wpAny P .any ops Q fuel listed a w := by
  have all : ∀ (listed : Array Bool), listed.size = ops.size → Region.ready .any ops listed = [] → ∀ n i, i < n → i < ops.size → listed.getD i false = true := by
    intro listed hsize hr n
    induction n with
    | zero => intro i h; omega
    | succ n ih =>
      intro i hi hio
      by_cases hl : listed.getD i false = true
      · exact hl
      · exfalso
        have hos : ops[i]? = some ops[i] := Array.getElem?_eq_getElem hio
        have : i ∈ Region.ready .any ops listed := mem_ready.2 ⟨by
          have lis : i < listed.size := by rw [hsize]; exact hio
          simp [lis] at hl ⊢
          exact hl, _, hos, fun e he hb => ih e.on (by have := (condOf hc hos).2.1 e he hb; omega) (by have := (condOf hc hos).2.1 e he hb; omega)⟩
        rw [hr] at this
        cases this
  have done : ∀ (δ : Vals) (listed : Array Bool) (a : Act) (w : World), InvE ops ks es a0 Rl w0 F T δ listed a w → Region.ready .any ops listed = [] → Q .normal a w := by
    intro δ listed a w hI hr
    have hall : ∀ i, i < ops.size → listed.getD i false = true := fun i h => all listed hI.size hr (i + 1) i (by omega) h
    obtain ⟨af, hH, hF⟩ := hW.final
    have ea : a = af δ := by
      have ht : a.tmps = (af δ).tmps := by
        apply Array.ext_getElem?
        intro k
        exact hI.holds.agree hW.len (hH δ) k fun j oj hj _ => by
          have := (Array.getElem?_eq_some_iff.1 hj).1
          exact ⟨fun _ => this, fun _ => hall j this⟩
      have hdf := hI.holds.defers.trans (hH δ).defers.symm
      revert ht hdf
      generalize af δ = b
      cases a; cases b
      simp only
      rintro rfl rfl
      rfl
    rw [ea]
    obtain ⟨j, hj, hst, hT⟩ := hI.stage
    have hje : j = es.length := by
      rcases Nat.lt_or_ge j es.length with h | h
      · exfalso
        have he : es[j]? = some es[j] := List.getElem?_eq_getElem h
        obtain ⟨prev, hp⟩ := hW.effIs j _ he
        have hlt := (List.getElem?_eq_some_iff.1 hp).1
        rw [hW.len] at hlt
        have := (hst j _ he).1 (hall _ hlt)
        omega
      · omega
    subst hje
    rw [List.take_length] at hT
    exact hF δ w hI.keep (fun d hd => hI.facts d (hall d hd)) hT
  intro fuel
  induction fuel with
  | zero =>
    intro δ listed a w hI hcnt
    have hr : Region.ready .any ops listed = [] := by
      rw [List.eq_nil_iff_forall_not_mem]
      intro i hi
      obtain ⟨hun, o, ho, _⟩ := mem_ready.1 hi
      have li : i < listed.size := by rw [hI.size]; exact (Array.getElem?_eq_some_iff.1 ho).1
      have h0 : listed.toList.countP (· == false) = 0 := by omega
      rw [List.countP_eq_zero] at h0
      have := h0 listed[i] (by simp)
      simp [li] at hun
      simp [hun] at this
    exact ⟨hr, done δ listed a w hI hr⟩
  | succ fuel ih =>
    intro δ listed a w hI hcnt
    refine ⟨fun hr => done δ listed a w hI hr, fun i hi => ?_⟩
    refine hI.step hRt hRb hFs hTs hc hW hi fun δ' a' w' hI' => ih δ' _ a' w' hI' ?_
    obtain ⟨hun, o, ho, _⟩ := mem_ready.1 hi
    have li : i < listed.size := by rw [hI.size]; exact (Array.getElem?_eq_some_iff.1 ho).1
    have hf : listed[i] = false := by simpa [li] using hun
    have hset : (listed.setIfInBounds i true).toList = listed.toList.set i true := by simp
    rw [hset]
    have hc1 : (listed.toList.set i true).countP (· == false) + 1 = listed.toList.countP (· == false) := by
      have li' : i < listed.toList.length := by simpa using li
      rw [List.countP_set li']
      have h7 : listed.toList[i] = false := by simpa using hf
      have hpos : 0 < listed.toList.countP (· == false) := List.countP_pos_iff.2 ⟨false, by rw [← h7]; exact List.getElem_mem _, rfl⟩
      rw [h7]
      simp only [beq_self_eq_true, if_true]
      have h8 : ((true : Bool) == false) = false := rfl
      simp only [h8, Bool.false_eq_true, if_false]
      omega
    omega

/-- THE LAW. -/
theorem wp_region_eff (Rl : World → World → Prop) (F : Nat → Value → World → Prop) (T : List Value → World → Prop) {P : Program} {id : Nat} {ops : Array Oper} {Q : Exit → Act → World → Prop} {a : Act} {w : World} (hm : P.follows .mixedOrders = true) (hc : regCond ops = true)
    (hRt : ∀ a b c, Rl a b → Rl b c → Rl a c) (hRb : ∀ w w', Below w.heap.size w w' → Rl w w') (hFs : ∀ d v w w', F d v w → Rl w w' → F d v w') (hTs : ∀ vs w w', T vs w → Below w.heap.size w w' → T vs w') (hT0 : T [] w.drew)
    (h : SeqE P ops Q Rl w F T 0 [] ops.toList [] (fun _ => a)) : (Code.region id ops true).wp P Q a w := by
  refine wp_region_any hm ?_
  have hd : dstsOk ops = true := by unfold regCond at hc; rw [Bool.and_eq_true] at hc; exact hc.1
  obtain ⟨ks, es, hW⟩ := h.whole (a0 := a) hd (by simp) (Nat.zero_le _) rfl
    (fun δ => ⟨rfl, rfl, fun j o d u _ _ _ hj _ => by omega, fun k _ => rfl⟩) (fun i o u hi => by omega) (fun i prev hi => by simp at hi) (fun m i hi => by simp at hi) (fun m i e hi => by simp at hi)
  have hfalse : ∀ j, (Array.replicate ops.size false).getD j false ≠ true := fun j => by
    by_cases hj : j < ops.size <;> simp [hj]
  refine InvE.all hRt hRb hFs hTs hc hW ops.size (fun _ => undef) _ a w.drew ⟨by simp, fun i o _ hl => absurd hl (hfalse i), ⟨rfl, rfl, fun j o d u _ _ _ hj _ => absurd hj (hfalse j), fun k _ => rfl⟩, hRb _ _ (Below.drew (Below.refl _ _)), fun d hl => absurd hl (hfalse d),
    0, Nat.zero_le _, fun m i _ => ⟨fun h => absurd h (hfalse i), fun h => by omega⟩, by simpa using hT0⟩ ?_
  exact Nat.le_trans List.countP_le_length (by simp)

end Go.Proofs.YthdjdlndfkemiaaGreatDoor.RegR
