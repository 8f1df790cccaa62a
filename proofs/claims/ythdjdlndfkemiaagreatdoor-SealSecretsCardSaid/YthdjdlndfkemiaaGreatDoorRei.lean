/- A region with effects whose last operation waits for all others: it may write what the others read. Printed by mkRei.py out of XReh. -/
import Derived.Test.YthdjdlndfkemiaaGreatDoorReh
set_option linter.unusedSimpArgs false
set_option linter.unusedVariables false
set_option maxRecDepth 100000
namespace Go.Proofs.YthdjdlndfkemiaaGreatDoor.Reg
open Go Go.RowKit

def lastE (ops : Array Oper) (L : Nat) : Bool := decide (L + 1 = ops.size) && (List.range L).all fun j => reach ops 12 L j
structure WholeL (P : Program) (ops : Array Oper) (Q : Exit → Act → World → Prop) (M : Nat → Prop) (w0 : World) (F : Nat → Value → World → Prop) (T : List Value → World → Prop) (a0 : Act) (ks : List KindE) (es : List Nat) (L : Nat) : Prop where
  last : L + 1 = ops.size
  all : ∀ j, j < L → reach ops 12 L j = true
  len : ks.length = ops.size
  step : ∀ i, i < L → ∀ o k, ops[i]? = some o → ks[i]? = some k → ∃ af, (∀ δ, HoldsE ops ks a0 δ (· < i) (af δ)) ∧ StepE P ops M w0 F T i o af k
  isEff : ∀ (i : Nat) (prev : List Nat), ks[i]? = some (KindE.eff prev) → ∃ m, es[m]? = some i ∧ prev = es.take m
  effIs : ∀ (m i : Nat), es[m]? = some i → ∃ prev : List Nat, ks[i]? = some (KindE.eff prev)
  chain : ∀ (m i e : Nat), es[m + 1]? = some i → es[m]? = some e → reach ops 12 i e = true
  effLt : ∀ (m i : Nat), es[m]? = some i → i < L
  final : ∃ (o : Oper) (af : Vals → Act), ops[L]? = some o ∧ (∀ δ, HoldsE ops ks a0 δ (· < L) (af δ)) ∧ ∀ δ w, Keep M w0 w → (∀ d, d < L → F d (δ d) w) → T (es.map δ) w → Does P ops o (af δ) w fun a' w' => ∃ x, a' = (af δ).put o.dst x ∧ Q .normal ((af δ).put o.dst x) w'

theorem InvE.stepL {P : Program} {ops : Array Oper} {Q : Exit → Act → World → Prop} {M : Nat → Prop} {w0 : World} {F : Nat → Value → World → Prop} {T : List Value → World → Prop} {a0 : Act} {ks : List KindE} {es : List Nat}
    (hFs : ∀ d v w w', F d v w → Keep M w w' → F d v w') (hTs : ∀ vs w w', T vs w → Below w.heap.size w w' → T vs w') (hc : regCond ops = true) {L : Nat} (hW : WholeL P ops Q M w0 F T a0 ks es L)
    {δ : Vals} {listed : Array Bool} {a : Act} {w : World} (hI : InvE ops ks es a0 M w0 F T δ listed a w) {i : Nat} (hr : i ∈ Region.ready .any ops listed) (hiL : i < L) (hnl : listed.getD L false ≠ true) {K : Act → World → Prop}
    (hK : ∀ δ' a' w', InvE ops ks es a0 M w0 F T δ' (listed.setIfInBounds i true) a' w' → K a' w') : wpOp P ops Q i K a w := by
  have hd : dstsOk ops = true := by unfold regCond at hc; rw [Bool.and_eq_true] at hc; exact hc.1
  obtain ⟨hun, o, ho, hpre⟩ := mem_ready.1 hr
  have li : i < ops.size := (Array.getElem?_eq_some_iff.1 ho).1
  have lis : i < listed.size := by rw [hI.size]; exact li
  have hnot : listed.getD i false ≠ true := by
    simp [lis] at hun ⊢
    exact hun
  obtain ⟨hsel, hedge, hlook⟩ := condOf hc ho
  have hu : ks[i]? = some (ks[i]'(by rw [hW.len]; exact li)) := List.getElem?_eq_getElem _
  generalize ks[i]'(by rw [hW.len]; exact li) = k at hu
  obtain ⟨af, hH, hS⟩ := hW.step i hiL o k ho hu
  have hpre' : ∀ o', ops[i]? = some o' → ∀ e ∈ o'.after, Region.binds .any e = true → listed.getD e.on false = true := fun o' ho' e he hb => by
    rw [ho] at ho'
    obtain rfl : o = o' := by simpa using ho'
    exact hpre e he hb
  have reached : ∀ (f j : Nat), reach ops f i j = true → listed.getD j false = true := fun f j h => reach_listed hI.closed f i j h hpre'
  have agree : ∀ t ∈ o.looksAt ops, a.tmps[t]? = (af δ).tmps[t]? := fun t ht => hI.holds.agree hW.len (hH δ) t fun j oj hj hdj => by
    rcases hlook t ht j oj hj hdj with rfl | ⟨hlt, hre⟩ | ⟨hlt, hre⟩
    · exact ⟨fun h => absurd h hnot, fun h => by omega⟩
    · exact ⟨fun _ => hlt, fun _ => reached 4 j hre⟩
    · exact ⟨fun h => absurd (reach_listed hI.closed 4 j i hre fun o' ho' => hI.closed j o' ho' h) hnot, fun h => by omega⟩
  have hx : execOp a.eval o = execOp (af δ).eval o := execOp_congr o hsel fun x hx => by
    cases x with
    | tmp t =>
      have := agree t (List.mem_append_left _ (List.mem_filterMap.2 ⟨.tmp t, by simpa using hx, rfl⟩))
      simp only [Act.eval, Array.getD_eq_getD_getElem?, this]
    | const v => rfl
    | global g => rfl
    | func f => rfl
  have hwn : Region.wanted o (yielded ops a.tmps) = Region.wanted o (yielded ops (af δ).tmps) := by
    unfold Region.wanted
    cases hg : o.guard with
    | none => rfl
    | some gw =>
      obtain ⟨g, want⟩ := gw
      have : yielded ops a.tmps g = yielded ops (af δ).tmps g := by
        unfold yielded
        cases ht : (ops[g]?).bind (·.dst) with
        | none => rfl
        | some t =>
          have h1 := agree t (List.mem_append_right _ (by simp [hg, ht]))
          simp only [Option.bind_some]
          rw [h1]
      simp only [this]
  have hsz : a.tmps.size = (af δ).tmps.size := hI.holds.size.trans (hH δ).size.symm
  have closed' : ∀ j oj, ops[j]? = some oj → (listed.setIfInBounds i true).getD j false = true → ∀ e ∈ oj.after, Region.binds .any e = true → (listed.setIfInBounds i true).getD e.on false = true := by
    intro j oj hj hl e he hb
    rw [getD_true lis] at hl ⊢
    rcases hl with hl | rfl
    · exact .inl (hI.closed j oj hj hl e he hb)
    · exact .inl (hpre' oj hj e he hb)
  have size' : (listed.setIfInBounds i true).size = ops.size := by simp [hI.size]
  have known : Known ops F i δ w := fun d hd => hI.facts d (reached 12 d hd)
  have iff := fun j => getD_true (listed := listed) (i := i) (j := j) lis
  let up : Value → Vals := fun x j => if j = i then x else δ j
  have upi : ∀ x, up x i = x := fun x => by simp [up]
  have upj : ∀ x j, listed.getD j false = true → up x j = δ j := fun x j hl => by
    have : j ≠ i := fun e => hnot (e ▸ hl)
    simp [up, this]
  have loc : ∀ x j k, ks[j]? = some k → listed.getD j false = true → k.at j (up x) = k.at j δ := fun x j k hk hl => by
    cases k with
    | new => exact upj x j hl
    | eff prev => exact upj x j hl
    | pure v =>
      have hj : j < ops.size := by rw [← hW.len]; exact (List.getElem?_eq_some_iff.1 hk).1
      obtain ⟨_, _, hSj⟩ := hW.step j (by have := hW.last; have : j ≠ L := fun e => hnl (e ▸ hl); omega) _ _ (Array.getElem?_eq_getElem hj) hk
      exact hSj.1 (up x) δ fun d hd => upj x d (reach_listed hI.closed 12 j d hd fun o' ho' => hI.closed j o' ho' hl)
  have facts' : ∀ x w', Keep M w w' → F i x w' → ∀ d, (listed.setIfInBounds i true).getD d false = true → F d (up x d) w' := fun x w' hk hf d hl => by
    rw [iff] at hl
    rcases hl with hl | rfl
    · rw [upj x d hl]; exact hFs _ _ _ _ (hI.facts d hl) hk
    · rw [upi]; exact hf
  obtain ⟨j0, hj0, hst, hT⟩ := hI.stage
  have stage' : (∀ prev, k ≠ .eff prev) → ∀ x w', Below w.heap.size w w' → ∃ j, j ≤ es.length ∧ (∀ m e, es[m]? = some e → ((listed.setIfInBounds i true).getD e false = true ↔ m < j)) ∧ T ((es.take j).map (up x)) w' := fun hne x w' hb => by
    have hie : ∀ m e, es[m]? = some e → e ≠ i := fun m e hm h => by
      obtain ⟨prev, hp⟩ := hW.effIs m e hm
      rw [h, hu] at hp
      exact hne prev (by simpa using hp)
    refine ⟨j0, hj0, fun m e hm => ?_, ?_⟩
    · rw [iff]
      constructor
      · rintro (h | h)
        · exact (hst m e hm).1 h
        · exact absurd h (hie m e hm)
      · exact fun h => .inl ((hst m e hm).2 h)
    · have : (es.take j0).map (up x) = (es.take j0).map δ := List.map_congr_left fun e he => by
        obtain ⟨m, hm⟩ := List.getElem?_of_mem he
        have hm' : es[m]? = some e := by
          rw [List.getElem?_take] at hm; split at hm
          · exact hm
          · cases hm
        have := hie m e hm'
        simp [up, this]
      rw [this]
      exact hTs _ _ _ hT hb
  cases k with
  | pure v =>
    obtain ⟨hv, hF0, hD⟩ := hS
    refine Does.xferE (act := af δ) (R := fun x w' => x = v δ ∧ Below w.heap.size w w') ho hx hwn hsz (hD δ w hI.keep known _ fun w' hb => ⟨_, rfl, rfl, hb⟩) fun x w' ⟨hxv, hb⟩ => hK (up x) _ w' ?_
    have hat : (KindE.pure v).at i (up x) = x := by
      rw [hxv]
      exact hv (up (v δ)) δ fun d hd => upj _ d (reached 12 d hd)
    have hput := hI.holds.put (δ' := up x) hd ho hu (loc x) hnot iff
    rw [hat] at hput
    exact ⟨size', closed', hput, hI.keep.trans (.ofBelow hb), facts' x w' (.ofBelow hb) (hF0 _ _), stage' (fun _ e => by cases e) x w' hb⟩
  | new =>
    refine Does.xferE (act := af δ) (R := fun x w' => Below w.heap.size w w' ∧ F i x w') ho hx hwn hsz (hS δ w hI.keep known _ fun x w' hb hf => ⟨_, rfl, hb, hf⟩) fun x w' ⟨hb, hf⟩ => hK (up x) _ w' ?_
    have hput := hI.holds.put (δ' := up x) hd ho hu (loc x) hnot iff
    simp only [KindE.at, upi] at hput
    exact ⟨size', closed', hput, hI.keep.trans (.ofBelow hb), facts' x w' (.ofBelow hb) hf, stage' (fun _ e => by cases e) x w' hb⟩
  | eff prev =>
    obtain ⟨m, hm, rfl⟩ := hW.isEff i prev hu
    have hjm : j0 = m := by
      have h1 : ¬ m < j0 := fun h => hnot ((hst m i hm).2 h)
      rcases Nat.lt_or_ge j0 m with h2 | h2
      · exfalso
        obtain ⟨m', rfl⟩ : ∃ m', m = m' + 1 := ⟨m - 1, by omega⟩
        have hlm : m' < es.length := by have := (List.getElem?_eq_some_iff.1 hm).1; omega
        have he : es[m']? = some es[m'] := List.getElem?_eq_getElem hlm
        have := (hst m' _ he).1 (reached 12 _ (hW.chain m' i _ hm he))
        omega
      · omega
    subst hjm
    refine Does.xferE (act := af δ) (R := fun x w' => Keep M w w' ∧ F i x w' ∧ T ((es.take j0).map δ ++ [x]) w') ho hx hwn hsz (hS δ w hI.keep known hT _ fun x w' hb hf ht => ⟨_, rfl, hb, hf, ht⟩) fun x w' ⟨hb, hf, ht⟩ => hK (up x) _ w' ?_
    have hput := hI.holds.put (δ' := up x) hd ho hu (loc x) hnot iff
    simp only [KindE.at, upi] at hput
    have hlm : j0 < es.length := (List.getElem?_eq_some_iff.1 hm).1
    refine ⟨size', closed', hput, hI.keep.trans hb, facts' x w' hb hf, j0 + 1, by omega, fun q e hq => ?_, ?_⟩
    · rw [iff, hst q e hq]
      constructor
      · rintro (h | h)
        · omega
        · subst h
          rcases Nat.lt_or_ge q (j0 + 1) with h5 | h5
          · exact h5
          · exfalso
            -- two places for one effect: the later one waits for the former
            obtain ⟨q', rfl⟩ : ∃ q', q = q' + 1 := ⟨q - 1, by omega⟩
            have hlq : q' < es.length := by have := (List.getElem?_eq_some_iff.1 hq).1; omega
            have he : es[q']? = some es[q'] := List.getElem?_eq_getElem hlq
            have := (hst q' _ he).1 (reached 12 _ (hW.chain q' e _ hq he))
            omega
      · intro h
        rcases Nat.lt_or_ge q j0 with h5 | h5
        · exact .inl h5
        · obtain rfl : q = j0 := by omega
          rw [hm] at hq
          exact .inr (by simpa using hq.symm)
    · rw [List.take_add_one, hm, List.map_append]
      simp only [Option.toList, List.map_cons, List.map_nil, upi]
      have : (es.take j0).map (up x) = (es.take j0).map δ := List.map_congr_left fun e he => by
        obtain ⟨q, hq⟩ := List.getElem?_of_mem he
        rw [List.getElem?_take] at hq
        split at hq
        · rename_i hlt
          exact upj x e ((hst q e hq).2 hlt)
        · cases hq
      rw [this]
      exact ht


theorem InvE.allL {P : Program} {ops : Array Oper} {Q : Exit → Act → World → Prop} {M : Nat → Prop} {w0 : World} {F : Nat → Value → World → Prop} {T : List Value → World → Prop} {a0 : Act} {ks : List KindE} {es : List Nat}
    (hFs : ∀ d v w w', F d v w → Keep M w w' → F d v w') (hTs : ∀ vs w w', T vs w → Below w.heap.size w w' → T vs w') (hc : regCond ops = true) {L : Nat} (hW : WholeL P ops Q M w0 F T a0 ks es L) :
    ∀ (fuel : Nat) (δ : Vals) (listed : Array Bool) (a : Act) (w : World), InvE ops ks es a0 M w0 F T δ listed a w → listed.getD L false ≠ true → (listed.toList.countP (· == false)) ≤ fuel → wpAny P .any ops Q fuel listed a w := by
  have hLl := hW.last
  have all : ∀ (listed : Array Bool), listed.size = ops.size → Region.ready .any ops listed = [] → ∀ n i, i < n → i < ops.size → listed.getD i false = true := by
    intro listed hsize hr n
    induction n with
    | zero => intro i h; omega
    | succ n ih =>
      intro i hi hio
      by_cases hl : listed.getD i false = true
      · exact hl
      · exfalso
        have hos : ops[i]? = some ops[i] := Array.getElem?_eq_getElem hio
        have : i ∈ Region.ready .any ops listed := mem_ready.2 ⟨by
          have lis : i < listed.size := by rw [hsize]; exact hio
          simp [lis] at hl ⊢
          exact hl, _, hos, fun e he hb => ih e.on (by have := (condOf hc hos).2.1 e he hb; omega) (by have := (condOf hc hos).2.1 e he hb; omega)⟩
        rw [hr] at this
        cases this
  intro fuel
  induction fuel with
  | zero =>
    intro δ listed a w hI hnl hcnt
    exfalso
    have li : L < listed.size := by rw [hI.size]; omega
    have h0 : listed.toList.countP (· == false) = 0 := by omega
    rw [List.countP_eq_zero] at h0
    have := h0 listed[L] (by simp)
    simp [li] at hnl
    simp [hnl] at this
  | succ fuel ih =>
    intro δ listed a w hI hnl hcnt
    refine ⟨fun hr => absurd (all listed hI.size hr (L + 1) L (by omega) (by omega)) hnl, fun i hi => ?_⟩
    obtain ⟨hun, o, ho, hpre⟩ := mem_ready.1 hi
    have li : i < listed.size := by rw [hI.size]; exact (Array.getElem?_eq_some_iff.1 ho).1
    have hio : i < ops.size := (Array.getElem?_eq_some_iff.1 ho).1
    have hf : listed[i] = false := by simpa [li] using hun
    have hset : (listed.setIfInBounds i true).toList = listed.toList.set i true := by simp
    have hcount : ((listed.setIfInBounds i true).toList).countP (· == false) ≤ fuel := by
      rw [hset]
      have hc1 : (listed.toList.set i true).countP (· == false) + 1 = listed.toList.countP (· == false) := by
        have li' : i < listed.toList.length := by simpa using li
        rw [List.countP_set li']
        have h7 : listed.toList[i] = false := by simpa using hf
        have hpos : 0 < listed.toList.countP (· == false) := List.countP_pos_iff.2 ⟨false, by rw [← h7]; exact List.getElem_mem _, rfl⟩
        rw [h7]
        simp only [beq_self_eq_true, if_true]
        have h8 : ((true : Bool) == false) = false := rfl
        simp only [h8, Bool.false_eq_true, if_false]
        omega
      omega
    rcases Nat.lt_or_ge i L with hiL | hiL
    · refine hI.stepL hFs hTs hc hW hi hiL hnl fun δ' a' w' hI' => ih δ' _ a' w' hI' ?_ hcount
      intro h
      rw [getD_true li] at h
      rcases h with h | h
      · exact hnl h
      · omega
    · obtain rfl : i = L := by omega
      have hpre' : ∀ o', ops[i]? = some o' → ∀ e ∈ o'.after, Region.binds .any e = true → listed.getD e.on false = true := fun o' ho' e he hb => by
        rw [ho] at ho'
        obtain rfl : o = o' := by simpa using ho'
        exact hpre e he hb
      have hall : ∀ j, j < i → listed.getD j false = true := fun j hj => reach_listed hI.closed 12 i j (hW.all j hj) hpre'
      obtain ⟨o', af, ho', hH, hF⟩ := hW.final
      rw [ho] at ho'
      obtain rfl : o = o' := by simpa using ho'
      have ea : a = af δ := by
        have ht : a.tmps = (af δ).tmps := by
          apply Array.ext_getElem?
          intro k
          exact hI.holds.agree hW.len (hH δ) k fun j oj hj _ => by
            have hjs := (Array.getElem?_eq_some_iff.1 hj).1
            refine ⟨fun hl => ?_, fun hl => hall j hl⟩
            rcases Nat.lt_or_ge j i with h | h
            · exact h
            · obtain rfl : j = i := by omega
              exact absurd hl hnl
        have hdf := hI.holds.defers.trans (hH δ).defers.symm
        revert ht hdf
        generalize af δ = b
        cases a; cases b
        simp only
        rintro rfl rfl
        rfl
      obtain ⟨j, hj, hst, hT⟩ := hI.stage
      have hje : j = es.length := by
        rcases Nat.lt_or_ge j es.length with h | h
        · exfalso
          have he : es[j]? = some es[j] := List.getElem?_eq_getElem h
          have := (hst j _ he).1 (hall _ (hW.effLt j _ he))
          omega
        · omega
      subst hje
      rw [List.take_length] at hT
      have hD := hF δ w hI.keep (fun d hd => hI.facts d (hall d hd)) hT
      rw [← ea] at hD
      refine Does.xferE (act := a) (R := fun x w' => Q .normal (a.put o.dst x) w') ho rfl rfl rfl hD fun x w' hq => ?_
      have hnone : Region.ready .any ops (listed.setIfInBounds i true) = [] := by
        rw [List.eq_nil_iff_forall_not_mem]
        intro j hj
        obtain ⟨hunj, oj, hoj, _⟩ := mem_ready.1 hj
        have hjs := (Array.getElem?_eq_some_iff.1 hoj).1
        have : (listed.setIfInBounds i true).getD j false = true := by
          rw [getD_true li]
          rcases Nat.lt_or_ge j i with h | h
          · exact .inl (hall j h)
          · exact .inr (by omega)
        have lj : j < (listed.setIfInBounds i true).size := by simp [hI.size]; exact hjs
        generalize listed.setIfInBounds i true = l2 at hunj this lj
        have hnot : l2.getD j false ≠ true := by
          simp [lj] at hunj ⊢
          exact hunj
        exact hnot this
      cases fuel with
      | zero => exact ⟨hnone, hq⟩
      | succ n => exact ⟨fun _ => hq, fun j hj => by rw [hnone] at hj; cases hj⟩

inductive SeqL (P : Program) (ops : Array Oper) (Q : Exit → Act → World → Prop) (M : Nat → Prop) (w0 : World) (F : Nat → Value → World → Prop) (T : List Value → World → Prop) : Nat → List Nat → List Oper → List KindE → (Vals → Act) → Prop
  | last {n : Nat} {es : List Nat} {o : Oper} {ks : List KindE} {af : Vals → Act} (hl : lastE ops n = true) (h : ∀ δ w, Keep M w0 w → (∀ d, d < n → F d (δ d) w) → T (es.map δ) w → Does P ops o (af δ) w fun a' w' => ∃ x, a' = (af δ).put o.dst x ∧ Q .normal ((af δ).put o.dst x) w') : SeqL P ops Q M w0 F T n es [o] ks af
  | val {n : Nat} {es : List Nat} {o : Oper} {rest : List Oper} {ks : List KindE} {af : Vals → Act} (v : Vals → Value) (hv : Local ops n v) (hF : ∀ x w, F n x w) (h : DoesPure P ops M w0 F n o af v)
      (hr : SeqL P ops Q M w0 F T (n + 1) es rest (ks ++ [.pure v]) (fun δ => (af δ).put o.dst (v δ))) : SeqL P ops Q M w0 F T n es (o :: rest) ks af
  | new {n : Nat} {es : List Nat} {o : Oper} {rest : List Oper} {ks : List KindE} {af : Vals → Act} (h : DoesNew P ops M w0 F n o af)
      (hr : SeqL P ops Q M w0 F T (n + 1) es rest (ks ++ [.new]) (fun δ => (af δ).put o.dst (δ n))) : SeqL P ops Q M w0 F T n es (o :: rest) ks af
  | eff {n : Nat} {es : List Nat} {o : Oper} {rest : List Oper} {ks : List KindE} {af : Vals → Act} (hp : ∀ e, es.getLast? = some e → reach ops 12 n e = true) (h : DoesEff P ops M w0 F T n es o af)
      (hr : SeqL P ops Q M w0 F T (n + 1) (es ++ [n]) rest (ks ++ [.eff es]) (fun δ => (af δ).put o.dst (δ n))) : SeqL P ops Q M w0 F T n es (o :: rest) ks af

theorem SeqL.whole {P : Program} {ops : Array Oper} {Q : Exit → Act → World → Prop} {M : Nat → Prop} {w0 : World} {F : Nat → Value → World → Prop} {T : List Value → World → Prop} {a0 : Act} (hd : dstsOk ops = true) {n : Nat} {es : List Nat} {rest : List Oper} {ks : List KindE} {af : Vals → Act}
    (h : SeqL P ops Q M w0 F T n es rest ks af) : rest = ops.toList.drop n → n ≤ ops.size → ks.length = n → (∀ δ, HoldsE ops ks a0 δ (· < n) (af δ)) →
      (∀ i o k, i < n → ops[i]? = some o → ks[i]? = some k → ∃ af, (∀ δ, HoldsE ops ks a0 δ (· < i) (af δ)) ∧ StepE P ops M w0 F T i o af k) →
      (∀ (i : Nat) (prev : List Nat), ks[i]? = some (KindE.eff prev) → ∃ m, es[m]? = some i ∧ prev = es.take m) → (∀ (m i : Nat), es[m]? = some i → ∃ prev : List Nat, ks[i]? = some (KindE.eff prev)) → (∀ (m i e : Nat), es[m + 1]? = some i → es[m]? = some e → reach ops 12 i e = true) →
      ∃ ksF esF L, WholeL P ops Q M w0 F T a0 ksF esF L := by
  have next : ∀ {n : Nat} {ks : List KindE} {k : KindE} {o : Oper} {rest : List Oper} {af : Vals → Act}, o :: rest = ops.toList.drop n → ks.length = n → (∀ δ, HoldsE ops ks a0 δ (· < n) (af δ)) →
      ops[n]? = some o ∧ rest = ops.toList.drop (n + 1) ∧ n + 1 ≤ ops.size ∧ (ks ++ [k])[n]? = some k ∧ (∀ δ, HoldsE ops (ks ++ [k]) a0 δ (· < n) (af δ)) ∧ (∀ δ, HoldsE ops (ks ++ [k]) a0 δ (· < n + 1) ((af δ).put o.dst (k.at n δ))) := by
    intro n ks k o rest af hr hl hh
    have hn : n < ops.toList.length := by
      rcases Nat.lt_or_ge n ops.toList.length with h | h
      · exact h
      · rw [List.drop_eq_nil_of_le h] at hr; cases hr
    rw [List.drop_eq_getElem_cons hn] at hr
    have e1 := (List.cons.inj hr).1
    have e2 := (List.cons.inj hr).2
    have ho : ops[n]? = some o := by
      rw [e1]; simp
    have hu : (ks ++ [k])[n]? = some k := by simp [← hl]
    have hm : ∀ δ, HoldsE ops (ks ++ [k]) a0 δ (· < n) (af δ) := fun δ => (hh δ).more fun j hj => List.getElem?_append_left (by omega)
    exact ⟨ho, e2, by simp at hn; omega, hu, hm, fun δ => (hm δ).put hd ho hu (fun _ _ _ _ => rfl) (by omega) (fun j => by omega)⟩
  have ext : ∀ {n : Nat} {ks : List KindE} {k : KindE} {o : Oper} {af : Vals → Act}, ks.length = n → ops[n]? = some o → (ks ++ [k])[n]? = some k → (∀ δ, HoldsE ops (ks ++ [k]) a0 δ (· < n) (af δ)) → StepE P ops M w0 F T n o af k →
      (∀ i o k, i < n → ops[i]? = some o → ks[i]? = some k → ∃ af, (∀ δ, HoldsE ops ks a0 δ (· < i) (af δ)) ∧ StepE P ops M w0 F T i o af k) →
      (∀ i o' k', i < n + 1 → ops[i]? = some o' → (ks ++ [k])[i]? = some k' → ∃ af, (∀ δ, HoldsE ops (ks ++ [k]) a0 δ (· < i) (af δ)) ∧ StepE P ops M w0 F T i o' af k') := by
    intro n ks k o af hl ho hu hm hs hold i o' u' hi hio hiu
    by_cases hin : i = n
    · subst hin
      rw [ho] at hio; rw [hu] at hiu
      obtain rfl : o = o' := by simpa using hio
      obtain rfl : k = u' := by simpa using hiu
      exact ⟨af, hm, hs⟩
    · have hlt : i < n := by omega
      have hpre : ∀ j, j < n → (ks ++ [k])[j]? = ks[j]? := fun j hj => List.getElem?_append_left (by omega)
      obtain ⟨af', h1, h2⟩ := hold i o' u' hlt hio (by rw [← hiu]; exact (hpre i hlt).symm)
      exact ⟨af', fun δ => (h1 δ).more fun j hj => hpre j (by omega), h2⟩
  induction h with
  | @last n es o ks af hla h =>
    intro hr hn hl hh hold h1 h2 h3
    unfold lastE at hla
    rw [Bool.and_eq_true, decide_eq_true_eq, List.all_eq_true] at hla
    obtain ⟨ho, _, _, _, hm, _⟩ := next (k := .new) hr hl hh
    refine ⟨ks ++ [.new], es, n, hla.1, fun j hj => hla.2 j (List.mem_range.2 hj), by simp [hl]; exact hla.1, fun i hi o' k' hio hiu => ?_, fun i prev hi => ?_, fun m i hi => ?_, h3, fun m i hi => ?_, o, af, ho, hm, h⟩
    · have hpre : ∀ j, j < n → (ks ++ [KindE.new])[j]? = ks[j]? := fun j hj => List.getElem?_append_left (by omega)
      obtain ⟨af', q1, q2⟩ := hold i o' k' hi hio (by rw [← hiu]; exact (hpre i hi).symm)
      exact ⟨af', fun δ => (q1 δ).more fun j hj => hpre j (by omega), q2⟩
    · rcases part hi with hi | ⟨_, e⟩
      · exact h1 i prev hi
      · cases e
    · obtain ⟨prev, hp⟩ := h2 m i hi
      exact ⟨prev, by rw [List.getElem?_append_left (lts hp)]; exact hp⟩
    · obtain ⟨prev, hp⟩ := h2 m i hi
      rw [← hl]; exact lts hp
  | @val n es o rest ks af v hv hF h hr ih =>
    intro hrest hn hl hh hold h1 h2 h3
    obtain ⟨ho, e2, hn', hu, hm, hm'⟩ := next (k := .pure v) hrest hl hh
    refine ih e2 hn' (by simp [hl]) hm' (ext hl ho hu hm ⟨hv, hF, h⟩ hold) (fun i prev hi => ?_) (fun m i hi => ?_) h3
    · rcases part hi with hi | ⟨_, e⟩
      · exact h1 i prev hi
      · cases e
    · obtain ⟨prev, hp⟩ := h2 m i hi
      exact ⟨prev, by rw [List.getElem?_append_left (lts hp)]; exact hp⟩
  | @new n es o rest ks af h hr ih =>
    intro hrest hn hl hh hold h1 h2 h3
    obtain ⟨ho, e2, hn', hu, hm, hm'⟩ := next (k := .new) hrest hl hh
    refine ih e2 hn' (by simp [hl]) hm' (ext hl ho hu hm h hold) (fun i prev hi => ?_) (fun m i hi => ?_) h3
    · rcases part hi with hi | ⟨_, e⟩
      · exact h1 i prev hi
      · cases e
    · obtain ⟨prev, hp⟩ := h2 m i hi
      exact ⟨prev, by rw [List.getElem?_append_left (lts hp)]; exact hp⟩
  | @eff n es o rest ks af hp h hr ih =>
    intro hrest hn hl hh hold h1 h2 h3
    obtain ⟨ho, e2, hn', hu, hm, hm'⟩ := next (k := .eff es) hrest hl hh
    refine ih e2 hn' (by simp [hl]) hm' (ext hl ho hu hm h hold) (fun i prev hi => ?_) (fun m i hi => ?_) (fun m i e hi he => ?_)
    · rcases part hi with hi | ⟨hi9, e⟩
      · obtain ⟨m, hm1, hm2⟩ := h1 i prev hi
        have := lts hm1
        exact ⟨m, by rw [List.getElem?_append_left this]; exact hm1, by rw [List.take_append_of_le_length (by omega)]; exact hm2⟩
      · cases e
        exact ⟨es.length, by rw [List.getElem?_append_right (Nat.le_refl _)]; rw [hi9, hl]; simp, by rw [List.take_append_of_le_length (Nat.le_refl _), List.take_length]⟩
    · rcases part hi with hi | ⟨_, e⟩
      · obtain ⟨prev, hp⟩ := h2 m i hi
        exact ⟨prev, by rw [List.getElem?_append_left (lts hp)]; exact hp⟩
      · subst e; exact ⟨es, hu⟩
    · rcases part hi with hi | ⟨hi9, e'⟩
      · rcases part he with he | ⟨he9, _⟩
        · exact h3 m i e hi he
        · have := lts hi; omega
      · subst e'
        rcases part he with he | ⟨he9, _⟩
        · exact hp e (by rw [List.getLast?_eq_getElem?, show es.length - 1 = m from by omega]; exact he)
        · omega


theorem SeqL.fin {P : Program} {ops : Array Oper} {Q : Exit → Act → World → Prop} {M : Nat → Prop} {w0 : World} {F : Nat → Value → World → Prop} {T : List Value → World → Prop} {n : Nat} {es : List Nat} {o : Oper} {ks : List KindE} {af : Vals → Act} (hl : lastE ops n = true)
    (h : ∀ δ w, Keep M w0 w → (∀ d, d < n → F d (δ d) w) → T (es.map δ) w → ∀ K : Act → World → Prop, (∀ x w', Q .normal ((af δ).put o.dst x) w' → K ((af δ).put o.dst x) w') → Does P ops o (af δ) w K) : SeqL P ops Q M w0 F T n es [o] ks af :=
  .last hl fun δ w h1 h2 h3 => h δ w h1 h2 h3 _ fun x _ q => ⟨x, rfl, q⟩
/-- THE LAW. -/
theorem wp_region_last (M : Nat → Prop) (F : Nat → Value → World → Prop) (T : List Value → World → Prop) {P : Program} {id : Nat} {ops : Array Oper} {Q : Exit → Act → World → Prop} {a : Act} {w : World} (hm : P.follows .mixedOrders = true) (hc : regCond ops = true)
    (hFs : ∀ d v w w', F d v w → Keep M w w' → F d v w') (hTs : ∀ vs w w', T vs w → Below w.heap.size w w' → T vs w') (hT0 : T [] w.drew)
    (h : SeqL P ops Q M w F T 0 [] ops.toList [] (fun _ => a)) : (Code.region id ops true).wp P Q a w := by
  refine wp_region_any hm ?_
  have hd : dstsOk ops = true := by unfold regCond at hc; rw [Bool.and_eq_true] at hc; exact hc.1
  obtain ⟨ks, es, L, hW⟩ := h.whole (a0 := a) hd (by simp) (Nat.zero_le _) rfl
    (fun δ => ⟨rfl, rfl, fun j o d u _ _ _ hj _ => by omega, fun k _ => rfl⟩) (fun i o u hi => by omega) (fun i prev hi => by simp at hi) (fun m i hi => by simp at hi) (fun m i e hi => by simp at hi)
  have hfalse : ∀ j, (Array.replicate ops.size false).getD j false ≠ true := fun j => by
    by_cases hj : j < ops.size <;> simp [hj]
  refine InvE.allL hFs hTs hc hW ops.size (fun _ => undef) _ a w.drew ⟨by simp, fun i o _ hl => absurd hl (hfalse i), ⟨rfl, rfl, fun j o d u _ _ _ hj _ => absurd hj (hfalse j), fun k _ => rfl⟩, ⟨rfl, rfl, rfl, Nat.le_refl _, fun _ _ _ => rfl⟩, fun d hl => absurd hl (hfalse d),
    0, Nat.zero_le _, fun m i _ => ⟨fun h => absurd h (hfalse i), fun h => by omega⟩, by simpa using hT0⟩ (hfalse L) ?_
  exact Nat.le_trans List.countP_le_length (by simp)

end Go.Proofs.YthdjdlndfkemiaaGreatDoor.Reg
