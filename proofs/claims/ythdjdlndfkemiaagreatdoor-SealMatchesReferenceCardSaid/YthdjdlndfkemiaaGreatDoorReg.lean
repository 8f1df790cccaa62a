/- A law for a region that draws its order of evaluation: one walk in the order of the text serves every order, if each operation yields one value and at most adds blocks, makes a block of its own, or fills a block that the region made. Condition on the operations: 'regCond'. -/
import Derived.Orders
import Derived.Below
import Derived.WalkKit
set_option linter.unusedSimpArgs false
set_option linter.unusedVariables false
set_option maxRecDepth 100000
namespace Go.Proofs.YthdjdlndfkemiaaGreatDoor.Reg
open Go Go.RowKit

inductive Out where
  | val (v : Value)
  | box (c0 c1 : Array Value) (T : TypeId) (s : Nat)
  | st (b : Nat)
  | fin
  | old (g : Nat) (c0 c1 : Array Value) (T : TypeId)

def Out.at (γ : Nat → Nat) (i : Nat) : Out → Value
  | .val v => v
  | .box .. => .pointer (some ⟨γ i, 0, none⟩)
  | .st _ => undef
  | .fin => undef
  | .old .. => undef

def reach (ops : Array Oper) : Nat → Nat → Nat → Bool
  | 0, _, _ => false
  | f + 1, i, j => match ops[i]? with
    | none => false
    | some o => o.after.toList.any fun e => Region.binds .any e && (e.on == j || reach ops f e.on j)

def selB : Op → Bool
  | .select _ _ => true
  | _ => false

def dstsOk (ops : Array Oper) : Bool :=
  (List.range ops.size).all fun i => (List.range ops.size).all fun j => match ops[i]?, ops[j]? with
    | some a, some b => i == j || a.dst.isNone || a.dst != b.dst
    | _, _ => true

def regCond (ops : Array Oper) : Bool :=
  dstsOk ops && (List.range ops.size).all fun i => match ops[i]? with
    | none => true
    | some o => !selB o.op && (o.after.all fun e => !Region.binds .any e || decide (e.on < i)) &&
      (o.looksAt ops).all fun k => (List.range ops.size).all fun j => match ops[j]? with
        | none => true
        | some oj => oj.dst != some k || i == j || (if j < i then reach ops 4 i j else reach ops 4 j i)

/-- From n on the operations come in the order of the text, whatever the draw. -/
def tailOk (ops : Array Oper) (n : Nat) : Bool := (decide (n < ops.size) && (List.range n).all fun j => reach ops 12 n j) && (List.range ops.size).all fun t => decide (t ≤ n) || reach ops 12 t (t - 1)
def lastOk (ops : Array Oper) (n : Nat) : Bool := decide (n + 1 = ops.size) && tailOk ops n

def NoQ : Exit → Act → World → Prop := fun _ _ _ => False

/-- An operation in the act 'act', as the walk shows it. -/
def Does (P : Program) (ops : Array Oper) (o : Oper) (act : Act) (w : World) (K : Act → World → Prop) : Prop :=
  if Region.wanted o (yielded ops act.tmps) = true then Oper.wp P o act w K NoQ else K (act.put o.dst undef) w

/-- Operations one after the other. -/
def Tail (P : Program) (ops : Array Oper) (Q : Exit → Act → World → Prop) : List Oper → Act → World → Prop
  | [], a, w => Q .normal a w
  | o :: r, a, w => Does P ops o a w (Tail P ops Q r)

theorem tail_cons {P : Program} {ops : Array Oper} {Q : Exit → Act → World → Prop} {o : Oper} {r : List Oper} {a : Act} {w : World} (h : Does P ops o a w (Tail P ops Q r)) : Tail P ops Q (o :: r) a w := h
theorem tail_nil {P : Program} {ops : Array Oper} {Q : Exit → Act → World → Prop} {a : Act} {w : World} (h : Q .normal a w) : Tail P ops Q [] a w := h

structure Upd (g : Nat) (c : Array Value) (T : TypeId) (w w' : World) : Prop where
  at_ : w'.heap[g]? = some (.cells c T (0, 0))
  size : w'.heap.size = w.heap.size
  far : ∀ k, k ≠ g → w'.heap[k]? = w.heap[k]?
  os : w'.os = w.os
  tape : w'.tape = w.tape
  output : w'.output = w.output

/-- What stays true of the world while blocks are added, and blocks of the region's own are written. -/
structure Stable (S : World → Prop) (w0 : World) : Prop where
  below : ∀ w w', S w → w0.heap.size ≤ w.heap.size → Below w.heap.size w w' → S w'
  upd : ∀ w w' g c T, S w → w0.heap.size ≤ g → Upd g c T w w' → S w'

def StepVal (P : Program) (ops : Array Oper) (S : World → Prop) (w0 : World) (o : Oper) (af : (Nat → Nat) → Act) (v : Value) : Prop :=
  ∀ γ w, S w → ∀ K : Act → World → Prop, (∀ w', Below w.heap.size w w' → K ((af γ).put o.dst v) w') → Does P ops o (af γ) w K

/-- What is known of the blocks that the region has made and filled ahead of operation i. -/
def Filled (ops : Array Oper) (outs : List Out) (i : Nat) (γ : Nat → Nat) (w : World) : Prop :=
  ∀ b c0 c1 T s, outs[b]? = some (Out.box c0 c1 T s) → reach ops 4 i s = true → w.heap[γ b]? = some (.cells c1 T (0, 0))
def StepLd (P : Program) (ops : Array Oper) (S : World → Prop) (w0 : World) (o : Oper) (af : (Nat → Nat) → Act) (v : Value) (outs : List Out) (i : Nat) : Prop :=
  ∀ γ w, S w → Filled ops outs i γ w → ∀ K : Act → World → Prop, (∀ w', Below w.heap.size w w' → K ((af γ).put o.dst v) w') → Does P ops o (af γ) w K

def StepBox (P : Program) (ops : Array Oper) (S : World → Prop) (w0 : World) (o : Oper) (af : (Nat → Nat) → Act) (c0 : Array Value) (T : TypeId) : Prop :=
  ∀ γ w, S w → ∀ K : Act → World → Prop, K ((af γ).put o.dst (.pointer (some ⟨w.heap.size, 0, none⟩))) (w.alloc (.cells c0 T)) → Does P ops o (af γ) w K

def StepSt (P : Program) (ops : Array Oper) (S : World → Prop) (w0 : World) (o : Oper) (af : (Nat → Nat) → Act) (b : Nat) (c0 c1 : Array Value) (T : TypeId) : Prop :=
  ∀ γ w, S w → w0.heap.size ≤ γ b → w.heap[γ b]? = some (.cells c0 T (0, 0)) → ∀ K : Act → World → Prop,
    (∀ w', Upd (γ b) c1 T w w' → K ((af γ).put o.dst undef) w') → Does P ops o (af γ) w K

def StepOld (P : Program) (ops : Array Oper) (S : World → Prop) (w0 : World) (o : Oper) (af : (Nat → Nat) → Act) (g : Nat) (c0 c1 : Array Value) (T : TypeId) : Prop :=
  ∀ γ w, S w → w.heap[g]? = some (.cells c0 T (0, 0)) → ∀ K : Act → World → Prop,
    (∀ w', Upd g c1 T w w' → K ((af γ).put o.dst undef) w') → Does P ops o (af γ) w K

/-- What is known of the older blocks that the region wrote. -/
def Olds (w : World) : List Out → Prop
  | [] => True
  | .old g _ c1 T :: r => w.heap[g]? = some (.cells c1 T (0, 0)) ∧ Olds w r
  | _ :: r => Olds w r
def NotOld (g : Nat) : List Out → Prop
  | [] => True
  | .old g' _ _ _ :: r => g' ≠ g ∧ NotOld g r
  | _ :: r => NotOld g r

/-- What is known of the blocks that the region made. -/
def Boxes (γ : Nat → Nat) (w0 w : World) : Nat → List Out → Prop
  | _, [] => True
  | n, .box _ c1 T _ :: r => (w0.heap.size ≤ γ n ∧ γ n < w.heap.size ∧ w.heap[γ n]? = some (.cells c1 T (0, 0))) ∧ Boxes γ w0 w (n + 1) r
  | n, _ :: r => Boxes γ w0 w (n + 1) r

/-- They are different blocks. -/
def Differ (γ : Nat → Nat) (i : Nat) : Nat → List Out → Prop
  | _, [] => True
  | n, .box .. :: r => γ i ≠ γ n ∧ Differ γ i (n + 1) r
  | n, _ :: r => Differ γ i (n + 1) r
def Apart (γ : Nat → Nat) : Nat → List Out → Prop
  | _, [] => True
  | n, .box .. :: r => Differ γ n (n + 1) r ∧ Apart γ (n + 1) r
  | n, _ :: r => Apart γ (n + 1) r

def storesOk (outs : List Out) : Bool :=
  (List.range outs.length).all fun b => match outs[b]? with
    | some (.box _ _ _ s) => (match outs[s]? with
      | some (.st b') => b' == b
      | _ => false)
    | _ => true

inductive SeqOK (P : Program) (ops : Array Oper) (Q : Exit → Act → World → Prop) (S : World → Prop) (w0 : World) : Nat → List Oper → List Out → ((Nat → Nat) → Act) → Prop
  | nil {n : Nat} {outs : List Out} {af : (Nat → Nat) → Act}
      (hs : storesOk outs = true)
      (h : ∀ γ w, S w → Boxes γ w0 w 0 outs → Apart γ 0 outs → Olds w outs → Q .normal (af γ) w) : SeqOK P ops Q S w0 n [] outs af
  | val {n : Nat} {o : Oper} {rest : List Oper} {outs : List Out} {af : (Nat → Nat) → Act} (v : Value)
      (h : StepVal P ops S w0 o af v) (hr : SeqOK P ops Q S w0 (n + 1) rest (outs ++ [.val v]) (fun γ => (af γ).put o.dst v)) : SeqOK P ops Q S w0 n (o :: rest) outs af
  /-- a value that is read out of a block that the region has made and filled -/
  | ld {n : Nat} {o : Oper} {rest : List Oper} {outs : List Out} {af : (Nat → Nat) → Act} (v : Value) (b : Nat) (c0 c1 : Array Value) (T : TypeId) (s : Nat)
      (hb : outs[b]? = some (.box c0 c1 T s)) (hreach : reach ops 4 n s = true)
      (h : ∀ γ w, S w → w.heap[γ b]? = some (.cells c1 T (0, 0)) → ∀ K : Act → World → Prop, (∀ w', Below w.heap.size w w' → K ((af γ).put o.dst v) w') → Does P ops o (af γ) w K)
      (hr : SeqOK P ops Q S w0 (n + 1) rest (outs ++ [.val v]) (fun γ => (af γ).put o.dst v)) : SeqOK P ops Q S w0 n (o :: rest) outs af
  | box {n : Nat} {o : Oper} {rest : List Oper} {outs : List Out} {af : (Nat → Nat) → Act} (c0 c1 : Array Value) (T : TypeId) (s : Nat)
      (h : StepBox P ops S w0 o af c0 T) (hr : SeqOK P ops Q S w0 (n + 1) rest (outs ++ [.box c0 c1 T s]) (fun γ => (af γ).put o.dst (.pointer (some ⟨γ n, 0, none⟩)))) : SeqOK P ops Q S w0 n (o :: rest) outs af
  | st {n : Nat} {o : Oper} {rest : List Oper} {outs : List Out} {af : (Nat → Nat) → Act} (b : Nat) (c0 c1 : Array Value) (T : TypeId)
      (hb : outs[b]? = some (.box c0 c1 T n)) (hreach : reach ops 4 n b = true) (h : StepSt P ops S w0 o af b c0 c1 T) (hr : SeqOK P ops Q S w0 (n + 1) rest (outs ++ [.st b]) (fun γ => (af γ).put o.dst undef)) : SeqOK P ops Q S w0 n (o :: rest) outs af
  /-- a store into a block that was there -/
  | old {n : Nat} {o : Oper} {rest : List Oper} {outs : List Out} {af : (Nat → Nat) → Act} (g : Nat) (c0 c1 : Array Value) (T : TypeId)
      (hB : ∀ w w' c T, S w → Upd g c T w w' → S w') (hg : w0.heap[g]? = some (.cells c0 T (0, 0))) (hne : NotOld g outs) (h : StepOld P ops S w0 o af g c0 c1 T)
      (hr : SeqOK P ops Q S w0 (n + 1) rest (outs ++ [.old g c0 c1 T]) (fun γ => (af γ).put o.dst undef)) : SeqOK P ops Q S w0 n (o :: rest) outs af
  /-- the operations that come last in every order, one after the other -/
  | tail {n : Nat} {rest : List Oper} {outs : List Out} {af : (Nat → Nat) → Act} (hs : storesOk outs = true) (hl : tailOk ops n = true)
      (h : ∀ γ w, S w → Boxes γ w0 w 0 outs → Apart γ 0 outs → Olds w outs → Tail P ops Q rest (af γ) w) : SeqOK P ops Q S w0 n rest outs af

/-- the one operation that comes last in every order -/
theorem SeqOK.last {P : Program} {ops : Array Oper} {Q : Exit → Act → World → Prop} {S : World → Prop} {w0 : World} {n : Nat} {o : Oper} {outs : List Out} {af : (Nat → Nat) → Act} (hs : storesOk outs = true) (hl : lastOk ops n = true)
    (h : ∀ γ w, S w → Boxes γ w0 w 0 outs → Apart γ 0 outs → Olds w outs → Does P ops o (af γ) w (Q .normal)) : SeqOK P ops Q S w0 n [o] outs af :=
  SeqOK.tail hs (by unfold lastOk at hl; rw [Bool.and_eq_true] at hl; exact hl.2) h

/-! ### The proof -/

theorem storesOk_spec {outs : List Out} (h : storesOk outs = true) (b : Nat) (c0 c1 : Array Value) (T : TypeId) (s : Nat) (hb : outs[b]? = some (Out.box c0 c1 T s)) : outs[s]? = some (Out.st b) := by
  have lb : b < outs.length := by
    rcases Nat.lt_or_ge b outs.length with h5 | h5
    · exact h5
    · rw [List.getElem?_eq_none h5] at hb; cases hb
  have h1 := List.all_eq_true.1 h b (List.mem_range.2 lb)
  simp only [hb] at h1
  cases hs : outs[s]? with
  | none => simp [hs] at h1
  | some u =>
    cases u with
    | val v => simp [hs] at h1
    | box c0 c1 T s => simp [hs] at h1
    | fin => simp [hs] at h1
    | old g c0 c1 T => simp [hs] at h1
    | st b' =>
      simp only [hs, beq_iff_eq] at h1
      rw [h1]


/-- What the act holds when exactly the operations 'L' have come up. -/
structure Holds (ops : Array Oper) (outs : List Out) (a0 : Act) (γ : Nat → Nat) (L : Nat → Prop) (a : Act) : Prop where
  defers : a.defers = a0.defers
  size : a.tmps.size = a0.tmps.size
  new : ∀ j o d u, ops[j]? = some o → outs[j]? = some u → o.dst = some d → L j → d < a0.tmps.size → a.tmps[d]? = some (u.at γ j)
  old : ∀ k, (∀ j o, ops[j]? = some o → o.dst = some k → ¬ L j) → a.tmps[k]? = a0.tmps[k]?

theorem put_size (a : Act) (d : Option Tmp) (v : Value) : (a.put d v).tmps.size = a.tmps.size := by
  cases d <;> simp [Act.put]
theorem put_defers (a : Act) (d : Option Tmp) (v : Value) : (a.put d v).defers = a.defers := by
  cases d <;> rfl
theorem put_at (a : Act) (d : Tmp) (v : Value) (h : d < a.tmps.size) : (a.put (some d) v).tmps[d]? = some v := by
  simp [Act.put, h]
theorem put_far (a : Act) (d : Option Tmp) (v : Value) (k : Nat) (h : d ≠ some k) : (a.put d v).tmps[k]? = a.tmps[k]? := by
  cases d with
  | none => rfl
  | some d =>
    have : d ≠ k := fun e => h (by rw [e])
    simp [Act.put, Array.getElem?_setIfInBounds_ne this]

theorem dsts_ne {ops : Array Oper} (h : dstsOk ops = true) {i j : Nat} {a b : Oper} (hi : ops[i]? = some a) (hj : ops[j]? = some b) (hne : i ≠ j) (d : Tmp) (ha : a.dst = some d) : b.dst ≠ some d := by
  intro hb
  have li : i < ops.size := (Array.getElem?_eq_some_iff.1 hi).1
  have lj : j < ops.size := (Array.getElem?_eq_some_iff.1 hj).1
  have h1 := List.all_eq_true.1 (List.all_eq_true.1 h i (List.mem_range.2 li)) j (List.mem_range.2 lj)
  simp only [hi, hj] at h1
  simp [hne, ha, hb] at h1

theorem Holds.put {ops : Array Oper} {outs : List Out} {a0 : Act} {γ γ' : Nat → Nat} {L L' : Nat → Prop} {a : Act} {i : Nat} {o : Oper} {u : Out}
    (hd : dstsOk ops = true) (h : Holds ops outs a0 γ L a) (ho : ops[i]? = some o) (hu : outs[i]? = some u) (hγ : ∀ j, L j → γ' j = γ j) (hi : ¬ L i) (hL : ∀ j, L' j ↔ L j ∨ j = i) :
    Holds ops outs a0 γ' L' (a.put o.dst (u.at γ' i)) := by
  refine ⟨(put_defers _ _ _).trans h.defers, (put_size _ _ _).trans h.size, ?_, ?_⟩
  · intro j oj d uj hj huj hdj hLj hlt
    rcases (hL j).1 hLj with hLj | rfl
    · have hji : j ≠ i := fun e => hi (e ▸ hLj)
      rw [put_far _ _ _ _ (dsts_ne hd hj ho hji d hdj), h.new j oj d uj hj huj hdj hLj hlt]
      cases uj <;> simp [Out.at, hγ j hLj]
    · rw [ho] at hj
      obtain rfl : o = oj := by simpa using hj
      rw [hu] at huj
      obtain rfl : u = uj := by simpa using huj
      rw [hdj]
      exact put_at _ _ _ (by rw [h.size]; exact hlt)
  · intro k hk
    rw [put_far]
    · exact h.old k fun j oj hj hdj hLj => hk j oj hj hdj ((hL j).2 (.inl hLj))
    · exact fun e => hk i o ho e ((hL i).2 (.inr rfl))

/-- Two acts that hold what has come up agree. -/
theorem Holds.agree {ops : Array Oper} {outs : List Out} {a0 : Act} {γ : Nat → Nat} {L M : Nat → Prop} {a b : Act} (hlen : outs.length = ops.size) (h : Holds ops outs a0 γ L a) (k : Holds ops outs a0 γ M b) (t : Nat)
    (hw : ∀ j o, ops[j]? = some o → o.dst = some t → (L j ↔ M j)) : a.tmps[t]? = b.tmps[t]? := by
  by_cases hlt : t < a0.tmps.size
  · by_cases hex : ∃ j o, ops[j]? = some o ∧ o.dst = some t ∧ L j
    · obtain ⟨j, o, hj, hdj, hLj⟩ := hex
      have lj : j < ops.size := (Array.getElem?_eq_some_iff.1 hj).1
      have hu : outs[j]? = some outs[j] := List.getElem?_eq_getElem (by omega)
      rw [h.new j o t _ hj hu hdj hLj hlt, k.new j o t _ hj hu hdj ((hw j o hj hdj).1 hLj) hlt]
    · rw [h.old t (fun j o hj hdj hLj => hex ⟨j, o, hj, hdj, hLj⟩), k.old t (fun j o hj hdj hMj => hex ⟨j, o, hj, hdj, (hw j o hj hdj).2 hMj⟩)]
  · rw [Array.getElem?_eq_none (by rw [h.size]; omega), Array.getElem?_eq_none (by rw [k.size]; omega)]

theorem Does.xfer {P : Program} {ops : Array Oper} {Q : Exit → Act → World → Prop} {i : Nat} {o : Oper} {act a : Act} {w : World} {v : Value} {R : World → Prop} {K : Act → World → Prop}
    (ho : ops[i]? = some o) (hx : execOp a.eval o = execOp act.eval o) (hw : Region.wanted o (yielded ops a.tmps) = Region.wanted o (yielded ops act.tmps)) (hsz : a.tmps.size = act.tmps.size)
    (h : Does P ops o act w fun a' w' => a' = act.put o.dst v ∧ R w') (hK : ∀ w', R w' → K (a.put o.dst v) w') : wpOp P ops Q i K a w := by
  have same : ∀ u, act.put o.dst u = act.put o.dst v → a.put o.dst u = a.put o.dst v := by
    intro u hu
    cases hd : o.dst with
    | none => rfl
    | some d =>
      rw [hd] at hu
      by_cases hlt : d < act.tmps.size
      · have h1 := put_at act d u hlt
        rw [hu, put_at act d v hlt] at h1
        obtain rfl : v = u := by simpa using h1
        rfl
      · simp [Act.put, Array.setIfInBounds, hsz, hlt]
  unfold wpOp
  simp only [ho]
  unfold Does at h
  rw [hw]
  split
  · rename_i hw1
    simp only [hw1, if_true] at h
    refine .inl ?_
    unfold Oper.wp at *
    rw [hx]
    generalize (execOp act.eval o).run P w = r at *
    cases r with
    | ok n w' =>
      cases n <;> simp only [Oper.upon] at h ⊢
      case value u => rw [same u h.1]; exact hK _ h.2
      case skip => rw [same _ h.1]; exact hK _ h.2
      case defer d =>
        exfalso
        have h1 := congrArg (fun x : Act => x.defers.length) h.1
        simp [put_defers] at h1
      case enter f args =>
        refine Calls.mono h fun e w'' he => ?_
        cases e with
        | returned u => simp only at he ⊢; rw [same u he.1]; exact hK _ he.2
        | panicked c => exact (he : False).elim
        | outgrown => obtain ⟨_, _, hf⟩ := he; exact (hf : False).elim
      case row row args => exact Rows.mono h fun u w'' he => by rw [same u he.1]; exact hK _ he.2
    | halt x w' =>
      cases x <;> simp only [Oper.upon] at h ⊢
      case panic u => exact (h : False).elim
  · rename_i hw1
    simp only [hw1] at h
    rw [same _ h.1]; exact hK _ h.2

theorem Does.toQ {P : Program} {ops : Array Oper} {Q : Exit → Act → World → Prop} {i : Nat} {o : Oper} {a : Act} {w : World} {K K' : Act → World → Prop} (ho : ops[i]? = some o) (h : Does P ops o a w K) (hK : ∀ a w, K a w → K' a w) : wpOp P ops Q i K' a w := by
  unfold wpOp
  simp only [ho]
  unfold Does at h
  split
  · rename_i hw1
    simp only [hw1, if_true] at h
    refine .inl ?_
    unfold Oper.wp at *
    generalize (execOp a.eval o).run P w = r at *
    cases r with
    | ok n w' =>
      cases n <;> simp only [Oper.upon] at h ⊢
      case value u => exact hK _ _ h
      case skip => exact hK _ _ h
      case defer d => exact hK _ _ h
      case enter f args =>
        refine Calls.mono h fun e w'' he => ?_
        cases e with
        | returned u => exact hK _ _ he
        | panicked c => exact (he : False).elim
        | outgrown => obtain ⟨_, _, hf⟩ := he; exact (hf : False).elim
      case row row args => exact Rows.mono h fun u w'' he => hK _ _ he
    | halt x w' =>
      cases x <;> simp only [Oper.upon] at h ⊢
      case panic u => exact (h : False).elim
  · rename_i hw1
    simp only [hw1] at h
    exact hK _ _ h

/-- What one operation does, by its kind. -/
def StepAt (P : Program) (ops : Array Oper) (S : World → Prop) (w0 : World) (o : Oper) (af : (Nat → Nat) → Act) (outs : List Out) (i : Nat) : Out → Prop
  | .val v => StepLd P ops S w0 o af v outs i
  | .box c0 _ T _ => StepBox P ops S w0 o af c0 T
  | .st b => ∃ c0 c1 T, b < i ∧ reach ops 4 i b = true ∧ outs[b]? = some (.box c0 c1 T i) ∧ StepSt P ops S w0 o af b c0 c1 T
  | .fin => True
  | .old g c0 c1 T => (∀ w w' c T, S w → Upd g c T w w' → S w') ∧ w0.heap[g]? = some (.cells c0 T (0, 0)) ∧ StepOld P ops S w0 o af g c0 c1 T

structure Whole (P : Program) (ops : Array Oper) (Q : Exit → Act → World → Prop) (S : World → Prop) (w0 : World) (a0 : Act) (outs : List Out) : Prop where
  len : outs.length = ops.size
  step : ∀ i o u, ops[i]? = some o → outs[i]? = some u → u ≠ .fin → ∃ af, (∀ γ, Holds ops outs a0 γ (· < i) (af γ)) ∧ StepAt P ops S w0 o af outs i u
  stores : ∀ b c0 c1 T s, outs[b]? = some (Out.box c0 c1 T s) → outs[s]? = some (Out.st b)
  oldsNe : ∀ (i j g : Nat) (c0 c1 : Array Value) (T : TypeId) (g' : Nat) (c0' c1' : Array Value) (T' : TypeId), outs[i]? = some (Out.old g c0 c1 T) → outs[j]? = some (Out.old g' c0' c1' T') → i ≠ j → g ≠ g'
  final : ((∀ i : Nat, outs[i]? ≠ some Out.fin) ∧ ∃ af : (Nat → Nat) → Act, (∀ γ, Holds ops outs a0 γ (· < ops.size) (af γ)) ∧ ∀ γ w, S w → Boxes γ w0 w 0 outs → Apart γ 0 outs → Olds w outs → Q .normal (af γ) w) ∨
    ∃ (n : Nat) (outs' : List Out) (af : (Nat → Nat) → Act), outs = outs' ++ List.replicate (ops.size - n) Out.fin ∧ outs'.length = n ∧ n < ops.size ∧ tailOk ops n = true ∧ (∀ i : Nat, outs'[i]? ≠ some Out.fin) ∧ storesOk outs' = true ∧
      (∀ γ, Holds ops outs a0 γ (· < n) (af γ)) ∧ ∀ γ w, S w → Boxes γ w0 w 0 outs' → Apart γ 0 outs' → Olds w outs' → Tail P ops Q (ops.toList.drop n) (af γ) w

theorem Holds.more {ops : Array Oper} {outs outs' : List Out} {a0 : Act} {γ : Nat → Nat} {n : Nat} {a : Act} (h : Holds ops outs a0 γ (· < n) a) (hp : ∀ j, j < n → outs'[j]? = outs[j]?) : Holds ops outs' a0 γ (· < n) a :=
  ⟨h.defers, h.size, fun j o d u hj hu hd hL hlt => h.new j o d u hj (by rw [← hp j hL]; exact hu) hd hL hlt, h.old⟩

theorem NotOld.spec {g : Nat} : ∀ {l : List Out}, NotOld g l → ∀ (i g' : Nat) (c0 c1 : Array Value) (T : TypeId), l[i]? = some (Out.old g' c0 c1 T) → g' ≠ g
  | [], _, i, _, _, _, _, h => by simp at h
  | u :: r, hn, 0, g', c0, c1, T, h => by
    obtain rfl : u = .old g' c0 c1 T := by simpa using h
    exact hn.1
  | u :: r, hn, i + 1, g', c0, c1, T, h => by
    have hr : NotOld g r := by
      cases u with
      | old => exact hn.2
      | _ => exact hn
    exact hr.spec i g' c0 c1 T (by simpa using h)

theorem SeqOK.whole {P : Program} {ops : Array Oper} {Q : Exit → Act → World → Prop} {S : World → Prop} {w0 : World} {a0 : Act} (hd : dstsOk ops = true) {n : Nat} {rest : List Oper} {outs : List Out} {af : (Nat → Nat) → Act}
    (h : SeqOK P ops Q S w0 n rest outs af) : rest = ops.toList.drop n → n ≤ ops.size → outs.length = n → (∀ γ, Holds ops outs a0 γ (· < n) (af γ)) →
      (∀ i o u, i < n → ops[i]? = some o → outs[i]? = some u → ∃ af, (∀ γ, Holds ops outs a0 γ (· < i) (af γ)) ∧ StepAt P ops S w0 o af outs i u) → (∀ i : Nat, outs[i]? ≠ some Out.fin) →
      (∀ (i j g : Nat) (c0 c1 : Array Value) (T : TypeId) (g' : Nat) (c0' c1' : Array Value) (T' : TypeId), outs[i]? = some (Out.old g c0 c1 T) → outs[j]? = some (Out.old g' c0' c1' T') → i ≠ j → g ≠ g') →
      ∃ outsF, Whole P ops Q S w0 a0 outsF := by
  have growL : ∀ {n : Nat} {outs : List Out} {l : List Out} {i : Nat} {o : Oper} {v : Out}, outs.length = n → i < n → (∃ af, (∀ γ, Holds ops outs a0 γ (· < i) (af γ)) ∧ StepAt P ops S w0 o af outs i v) →
      ∃ af, (∀ γ, Holds ops (outs ++ l) a0 γ (· < i) (af γ)) ∧ StepAt P ops S w0 o af (outs ++ l) i v := by
    intro n outs l i o v hl hi ⟨af, h1, h2⟩
    have hp : ∀ j, j < i → (outs ++ l)[j]? = outs[j]? := fun j hj => List.getElem?_append_left (by omega)
    refine ⟨af, fun γ => ?_, ?_⟩
    · have := h1 γ
      exact ⟨this.defers, this.size, fun j oj d uj hj hu hd hL hlt => this.new j oj d uj hj (by rw [← hp j hL]; exact hu) hd hL hlt, this.old⟩
    · cases v with
      | val v => exact fun γ w hs hf => h2 γ w hs fun b c0 c1 T s hb hr => hf b c0 c1 T s ((List.getElem?_append_left (List.getElem?_eq_some_iff.1 hb).1).trans hb) hr
      | box c0 c1 T s => exact h2
      | fin => exact h2
      | old g c0 c1 T => exact h2
      | st b => obtain ⟨c0, c1, T, hb, hrc, h3, h4⟩ := h2; exact ⟨c0, c1, T, hb, hrc, by rw [hp b hb]; exact h3, h4⟩
  have next : ∀ {n : Nat} {outs : List Out} {u : Out} {o : Oper} {rest : List Oper} {af : (Nat → Nat) → Act}, o :: rest = ops.toList.drop n → outs.length = n → (∀ γ, Holds ops outs a0 γ (· < n) (af γ)) →
      ops[n]? = some o ∧ rest = ops.toList.drop (n + 1) ∧ n + 1 ≤ ops.size ∧ (outs ++ [u])[n]? = some u ∧ (∀ γ, Holds ops (outs ++ [u]) a0 γ (· < n) (af γ)) ∧ (∀ γ, Holds ops (outs ++ [u]) a0 γ (· < n + 1) ((af γ).put o.dst (u.at γ n))) := by
    intro n outs u o rest af hr hl hh
    have hn : n < ops.toList.length := by
      rcases Nat.lt_or_ge n ops.toList.length with h | h
      · exact h
      · rw [List.drop_eq_nil_of_le h] at hr; cases hr
    rw [List.drop_eq_getElem_cons hn] at hr
    have e1 := (List.cons.inj hr).1
    have e2 := (List.cons.inj hr).2
    have ho : ops[n]? = some o := by
      rw [e1]; simp
    have hu : (outs ++ [u])[n]? = some u := by simp [← hl]
    have hm : ∀ γ, Holds ops (outs ++ [u]) a0 γ (· < n) (af γ) := fun γ => (hh γ).more fun j hj => List.getElem?_append_left (by omega)
    refine ⟨ho, e2, by simp at hn; omega, hu, hm, fun γ => ?_⟩
    exact (hm γ).put hd ho hu (fun _ _ => rfl) (by omega) (fun j => by omega)
  have ext : ∀ {n : Nat} {outs : List Out} {u : Out} {o : Oper} {af : (Nat → Nat) → Act}, outs.length = n → ops[n]? = some o → (outs ++ [u])[n]? = some u → (∀ γ, Holds ops (outs ++ [u]) a0 γ (· < n) (af γ)) → StepAt P ops S w0 o af (outs ++ [u]) n u →
      (∀ i o u, i < n → ops[i]? = some o → outs[i]? = some u → ∃ af, (∀ γ, Holds ops outs a0 γ (· < i) (af γ)) ∧ StepAt P ops S w0 o af outs i u) →
      (∀ i o' u', i < n + 1 → ops[i]? = some o' → (outs ++ [u])[i]? = some u' → ∃ af, (∀ γ, Holds ops (outs ++ [u]) a0 γ (· < i) (af γ)) ∧ StepAt P ops S w0 o' af (outs ++ [u]) i u') := by
    intro n outs u o af hl ho hu hm hs hold i o' u' hi hio hiu
    by_cases hin : i = n
    · subst hin
      rw [ho] at hio; rw [hu] at hiu
      obtain rfl : o = o' := by simpa using hio
      obtain rfl : u = u' := by simpa using hiu
      exact ⟨af, hm, hs⟩
    · have hlt : i < n := by omega
      exact growL hl hlt (hold i o' u' hlt hio (by rw [← hiu]; exact (List.getElem?_append_left (by omega)).symm))
  have nf : ∀ {outs : List Out} {u : Out}, (∀ i : Nat, outs[i]? ≠ some Out.fin) → u ≠ .fin → ∀ i : Nat, (outs ++ [u])[i]? ≠ some Out.fin := by
    intro outs u h hu i hi
    rcases Nat.lt_or_ge i outs.length with h1 | h1
    · rw [List.getElem?_append_left h1] at hi; exact h i hi
    · rw [List.getElem?_append_right h1] at hi
      cases hk : i - outs.length with
      | zero => rw [hk] at hi; exact hu (by simpa using hi)
      | succ k => rw [hk] at hi; simp at hi
  have keepOld : ∀ {outs : List Out} {u : Out}, (∀ (i j g : Nat) (c0 c1 : Array Value) (T : TypeId) (g' : Nat) (c0' c1' : Array Value) (T' : TypeId), outs[i]? = some (Out.old g c0 c1 T) → outs[j]? = some (Out.old g' c0' c1' T') → i ≠ j → g ≠ g') →
      (∀ g c0 c1 T, u = Out.old g c0 c1 T → NotOld g outs) → ∀ (i j g : Nat) (c0 c1 : Array Value) (T : TypeId) (g' : Nat) (c0' c1' : Array Value) (T' : TypeId), (outs ++ [u])[i]? = some (Out.old g c0 c1 T) → (outs ++ [u])[j]? = some (Out.old g' c0' c1' T') → i ≠ j → g ≠ g' := by
    intro outs u h hu i j g c0 c1 T g' c0' c1' T' hi hj hne
    have part : ∀ {k : Nat} {v : Out}, (outs ++ [u])[k]? = some v → outs[k]? = some v ∨ (k = outs.length ∧ u = v) := by
      intro k v hk
      rcases Nat.lt_or_ge k outs.length with h1 | h1
      · rw [List.getElem?_append_left h1] at hk; exact .inl hk
      · rw [List.getElem?_append_right h1] at hk
        cases hd : k - outs.length with
        | zero => rw [hd] at hk; exact .inr ⟨by omega, by simpa using hk⟩
        | succ m => rw [hd] at hk; simp at hk
    rcases part hi with hi | ⟨hi, e⟩
    · rcases part hj with hj | ⟨hj, e⟩
      · exact h i j g c0 c1 T g' c0' c1' T' hi hj hne
      · exact (hu _ _ _ _ e).spec i g c0 c1 T hi
    · rcases part hj with hj | ⟨hj, e'⟩
      · exact fun e2 => (hu _ _ _ _ e).spec j g' c0' c1' T' hj e2.symm
      · omega
  induction h with
  | @old n o rest outs af g c0 c1 T hB hg hne h hr ih =>
    intro hrest hn hl hh hold hnf hol
    obtain ⟨ho, e2, hn', hu, hm, hm'⟩ := next (u := .old g c0 c1 T) hrest hl hh
    exact ih e2 hn' (by simp [hl]) hm' (ext hl ho hu hm ⟨hB, hg, h⟩ hold) (nf hnf (by simp)) (keepOld hol (fun g' c0' c1' T' e => by simp only [Out.old.injEq] at e; rw [← e.1]; exact hne))
  | @tail n rest outs af hs hlast h =>
    intro hr hn hl hh hold hnf hol
    have hsz : n < ops.size := by
      unfold tailOk at hlast
      rw [Bool.and_eq_true, Bool.and_eq_true] at hlast
      simpa using hlast.1.1
    have hpre : ∀ j, j < n → (outs ++ List.replicate (ops.size - n) Out.fin)[j]? = outs[j]? := fun j hj => List.getElem?_append_left (by omega)
    have hfin : ∀ j u, n ≤ j → (outs ++ List.replicate (ops.size - n) Out.fin)[j]? = some u → u = .fin := fun j u hj hu => by
      rw [List.getElem?_append_right (by omega)] at hu
      have := List.mem_of_getElem? hu
      exact (List.mem_replicate.1 this).2
    have inl : ∀ {j : Nat} {u : Out}, (outs ++ List.replicate (ops.size - n) Out.fin)[j]? = some u → u ≠ .fin → j < n ∧ outs[j]? = some u := fun {j u} hu hne => by
      rcases Nat.lt_or_ge j n with h1 | h1
      · exact ⟨h1, by rw [← hpre j h1]; exact hu⟩
      · exact absurd (hfin j u h1 hu) hne
    refine ⟨outs ++ List.replicate (ops.size - n) .fin, by simp [hl]; omega, fun i oi u hoi hui hne => ?_, ?_, ?_, .inr ⟨n, outs, af, rfl, hl, hsz, hlast, hnf, hs, fun γ => (hh γ).more hpre, ?_⟩⟩
    · obtain ⟨hin, hu'⟩ := inl hui hne
      exact growL hl hin (hold i oi u hin hoi hu')
    · intro b c0 c1 T s hb
      obtain ⟨hbn, hb'⟩ := inl hb (by intro e; cases e)
      have h2 := storesOk_spec hs b c0 c1 T s hb'
      have ls : s < outs.length := by
        rcases Nat.lt_or_ge s outs.length with h1 | h1
        · exact h1
        · rw [List.getElem?_eq_none h1] at h2; cases h2
      rw [List.getElem?_append_left ls]
      exact h2
    · intro i j g c0 c1 T g' c0' c1' T' hi hj hne
      exact hol i j g c0 c1 T g' c0' c1' T' (inl hi (by intro e; cases e)).2 (inl hj (by intro e; cases e)).2 hne
    · rw [← hr]; exact h
  | @nil n outs af hs h =>
    intro hr hn hl hh hold hnf hol
    have hnn : n = ops.size := by
      rcases Nat.lt_or_ge n ops.size with h1 | h1
      · have h2 := congrArg List.length hr
        simp at h2; omega
      · omega
    subst hnn
    exact ⟨outs, hl, fun i o u ho hu _ => hold i o u (Array.getElem?_eq_some_iff.1 ho).1 ho hu, storesOk_spec hs, hol, .inl ⟨hnf, af, hh, h⟩⟩
  | @val n o rest outs af v h hr ih =>
    intro hrest hn hl hh hold hnf hol
    obtain ⟨ho, e2, hn', hu, hm, hm'⟩ := next (u := .val v) hrest hl hh
    exact ih e2 hn' (by simp [hl]) hm' (ext hl ho hu hm (fun γ w hs _ => h γ w hs) hold) (nf hnf (by simp)) (keepOld hol (fun g' c0' c1' T' e => by cases e))
  | @ld n o rest outs af v b c0 c1 T s hb hrc h hr ih =>
    intro hrest hn hl hh hold hnf hol
    obtain ⟨ho, e2, hn', hu, hm, hm'⟩ := next (u := .val v) hrest hl hh
    exact ih e2 hn' (by simp [hl]) hm' (ext hl ho hu hm (fun γ w hs hf => h γ w hs (hf b c0 c1 T s ((List.getElem?_append_left (List.getElem?_eq_some_iff.1 hb).1).trans hb) hrc)) hold) (nf hnf (by simp)) (keepOld hol (fun g' c0' c1' T' e => by cases e))
  | @box n o rest outs af c0 c1 T s h hr ih =>
    intro hrest hn hl hh hold hnf hol
    obtain ⟨ho, e2, hn', hu, hm, hm'⟩ := next (u := .box c0 c1 T s) hrest hl hh
    exact ih e2 hn' (by simp [hl]) hm' (ext hl ho hu hm h hold) (nf hnf (by simp)) (keepOld hol (fun g' c0' c1' T' e => by cases e))
  | @st n o rest outs af b c0 c1 T hb hrc h hr ih =>
    intro hrest hn hl hh hold hnf hol
    obtain ⟨ho, e2, hn', hu, hm, hm'⟩ := next (u := .st b) hrest hl hh
    have hbn : b < n := by
      rcases Nat.lt_or_ge b outs.length with h1 | h1
      · omega
      · rw [List.getElem?_eq_none h1] at hb; cases hb
    exact ih e2 hn' (by simp [hl]) hm' (ext hl ho hu hm ⟨c0, c1, T, hbn, hrc, (List.getElem?_append_left (by omega)).trans hb, h⟩ hold) (nf hnf (by simp)) (keepOld hol (fun g' c0' c1' T' e => by cases e))

theorem reach_listed {ops : Array Oper} {listed : Array Bool} (hdc : ∀ i o, ops[i]? = some o → listed.getD i false = true → ∀ e ∈ o.after, Region.binds .any e = true → listed.getD e.on false = true) :
    ∀ (f i j : Nat), reach ops f i j = true → (∀ o, ops[i]? = some o → ∀ e ∈ o.after, Region.binds .any e = true → listed.getD e.on false = true) → listed.getD j false = true := by
  intro f
  induction f with
  | zero => intro i j h; simp [reach] at h
  | succ f ih =>
    intro i j h hi
    unfold reach at h
    cases ho : ops[i]? with
    | none => simp [ho] at h
    | some o =>
      simp only [ho, List.any_eq_true, Bool.and_eq_true, Bool.or_eq_true, beq_iff_eq, Array.mem_toList_iff] at h
      obtain ⟨e, he, hb, h⟩ := h
      have hl := hi o ho e he hb
      rcases h with rfl | h
      · exact hl
      · exact ih e.on j h fun o' ho' => hdc e.on o' ho' hl

structure Inv (ops : Array Oper) (outs : List Out) (a0 : Act) (S : World → Prop) (w0 : World) (γ : Nat → Nat) (listed : Array Bool) (a : Act) (w : World) : Prop where
  size : listed.size = ops.size
  nofin : ∀ i : Nat, outs[i]? = some Out.fin → listed.getD i false ≠ true
  closed : ∀ i o, ops[i]? = some o → listed.getD i false = true → ∀ e ∈ o.after, Region.binds .any e = true → listed.getD e.on false = true
  holds : Holds ops outs a0 γ (fun j => listed.getD j false = true) a
  below : S w
  start : w0.heap.size ≤ w.heap.size
  olds : ∀ (i g : Nat) (c0 c1 : Array Value) (T : TypeId), outs[i]? = some (Out.old g c0 c1 T) → w.heap[g]? = some (.cells (if listed.getD i false = true then c1 else c0) T (0, 0))
  oldLt : ∀ (i g : Nat) (c0 c1 : Array Value) (T : TypeId), outs[i]? = some (Out.old g c0 c1 T) → g < w0.heap.size
  boxes : ∀ i c0 c1 T s, outs[i]? = some (.box c0 c1 T s) → listed.getD i false = true → w0.heap.size ≤ γ i ∧ γ i < w.heap.size ∧ w.heap[γ i]? = some (.cells (if listed.getD s false = true then c1 else c0) T (0, 0))
  apart : ∀ i j c0 c1 T s c0' c1' T' s', outs[i]? = some (.box c0 c1 T s) → outs[j]? = some (.box c0' c1' T' s') → listed.getD i false = true → listed.getD j false = true → i ≠ j → γ i ≠ γ j

theorem getD_true {listed : Array Bool} {i j : Nat} (hi : i < listed.size) : (listed.setIfInBounds i true).getD j false = true ↔ listed.getD j false = true ∨ j = i := by
  by_cases h : i = j
  · subst h; simp [hi]
  · rw [getD_set_ne false h]
    constructor
    · exact .inl
    · rintro (h1 | rfl)
      · exact h1
      · exact absurd rfl h

theorem condOf {ops : Array Oper} (hc : regCond ops = true) {i : Nat} {o : Oper} (ho : ops[i]? = some o) :
    (∀ cs b, o.op ≠ .select cs b) ∧ (∀ e ∈ o.after, Region.binds .any e = true → e.on < i) ∧
    ∀ k ∈ o.looksAt ops, ∀ j oj, ops[j]? = some oj → oj.dst = some k → i = j ∨ (j < i ∧ reach ops 4 i j = true) ∨ (i < j ∧ reach ops 4 j i = true) := by
  have li : i < ops.size := (Array.getElem?_eq_some_iff.1 ho).1
  unfold regCond at hc
  rw [Bool.and_eq_true] at hc
  have h1 := List.all_eq_true.1 hc.2 i (List.mem_range.2 li)
  simp only [ho, Bool.and_eq_true] at h1
  obtain ⟨⟨h1, h2⟩, h3⟩ := h1
  refine ⟨fun cs b e => ?_, fun e he hb => ?_, fun k hk j oj hj hd => ?_⟩
  · simp [e, selB] at h1
  · have := (Array.all_eq_true_iff_forall_mem.1 h2) e he
    simpa [hb] using this
  · have lj : j < ops.size := (Array.getElem?_eq_some_iff.1 hj).1
    have h4 := List.all_eq_true.1 (List.all_eq_true.1 h3 k hk) j (List.mem_range.2 lj)
    simp only [hj, hd, Bool.or_eq_true] at h4
    rcases h4 with (h4 | h4) | h4
    · simp at h4
    · exact .inl (by simpa using h4)
    · by_cases hlt : j < i
      · simp only [hlt, if_true] at h4
        exact .inr (.inl ⟨hlt, h4⟩)
      · simp only [hlt, if_false] at h4
        rcases Nat.lt_or_ge i j with h5 | h5
        · exact .inr (.inr ⟨h5, h4⟩)
        · exact .inl (by omega)

/-- One operation, in whatever order. -/
theorem Inv.step {P : Program} {ops : Array Oper} {Q : Exit → Act → World → Prop} {S : World → Prop} {w0 : World} {a0 : Act} {outs : List Out} (hS' : Stable S w0) (hc : regCond ops = true) (hW : Whole P ops Q S w0 a0 outs)
    {γ : Nat → Nat} {listed : Array Bool} {a : Act} {w : World} (hI : Inv ops outs a0 S w0 γ listed a w) {i : Nat} (hr : i ∈ Region.ready .any ops listed) (hnf : outs[i]? ≠ some Out.fin) {K : Act → World → Prop}
    (hK : ∀ γ' a' w', Inv ops outs a0 S w0 γ' (listed.setIfInBounds i true) a' w' → K a' w') : wpOp P ops Q i K a w := by
  have hd : dstsOk ops = true := by unfold regCond at hc; rw [Bool.and_eq_true] at hc; exact hc.1
  obtain ⟨hun, o, ho, hpre⟩ := mem_ready.1 hr
  have li : i < ops.size := (Array.getElem?_eq_some_iff.1 ho).1
  have lis : i < listed.size := by rw [hI.size]; exact li
  have hnot : listed.getD i false ≠ true := by
    simp [lis] at hun ⊢
    exact hun
  obtain ⟨hsel, hedge, hlook⟩ := condOf hc ho
  have hu : outs[i]? = some (outs[i]'(by rw [hW.len]; exact li)) := List.getElem?_eq_getElem _
  generalize outs[i]'(by rw [hW.len]; exact li) = u at hu
  obtain ⟨af, hH, hS⟩ := hW.step i o u ho hu (fun e => hnf (e ▸ hu))
  have agree : ∀ k ∈ o.looksAt ops, a.tmps[k]? = (af γ).tmps[k]? := fun k hk => hI.holds.agree hW.len (hH γ) k fun j oj hj hdj => by
    rcases hlook k hk j oj hj hdj with rfl | ⟨hlt, hre⟩ | ⟨hlt, hre⟩
    · exact ⟨fun h => absurd h hnot, fun h => by omega⟩
    · exact ⟨fun _ => hlt, fun _ => reach_listed hI.closed 4 i j hre fun o' ho' e he hb => by
        rw [ho] at ho'
        obtain rfl : o = o' := by simpa using ho'
        exact hpre e he hb⟩
    · exact ⟨fun h => absurd (reach_listed hI.closed 4 j i hre fun o' ho' => hI.closed j o' ho' h) hnot, fun h => by omega⟩
  have hx : execOp a.eval o = execOp (af γ).eval o := execOp_congr o hsel fun x hx => by
    cases x with
    | tmp t =>
      have := agree t (List.mem_append_left _ (List.mem_filterMap.2 ⟨.tmp t, by simpa using hx, rfl⟩))
      simp only [Act.eval, Array.getD_eq_getD_getElem?, this]
    | const v => rfl
    | global g => rfl
    | func f => rfl
  have hwn : Region.wanted o (yielded ops a.tmps) = Region.wanted o (yielded ops (af γ).tmps) := by
    unfold Region.wanted
    cases hg : o.guard with
    | none => rfl
    | some gw =>
      obtain ⟨g, want⟩ := gw
      have : yielded ops a.tmps g = yielded ops (af γ).tmps g := by
        unfold yielded
        cases ht : (ops[g]?).bind (·.dst) with
        | none => rfl
        | some t =>
          have h1 := agree t (List.mem_append_right _ (by simp [hg, ht]))
          simp only [Option.bind_some]
          rw [h1]
      simp only [this]
  have hsz : a.tmps.size = (af γ).tmps.size := hI.holds.size.trans (hH γ).size.symm
  have closed' : ∀ j oj, ops[j]? = some oj → (listed.setIfInBounds i true).getD j false = true → ∀ e ∈ oj.after, Region.binds .any e = true → (listed.setIfInBounds i true).getD e.on false = true := by
    intro j oj hj hl e he hb
    rw [getD_true lis] at hl ⊢
    rcases hl with hl | rfl
    · exact .inl (hI.closed j oj hj hl e he hb)
    · rw [ho] at hj
      obtain rfl : o = oj := by simpa using hj
      exact .inl (hpre e he hb)
  have size' : (listed.setIfInBounds i true).size = ops.size := by simp [hI.size]
  have nofin' : ∀ j, outs[j]? = some Out.fin → (listed.setIfInBounds i true).getD j false ≠ true := fun j hj hl => by
    rw [getD_true lis] at hl
    rcases hl with hl | rfl
    · exact hI.nofin j hj hl
    · exact hnf hj
  cases u with
  | fin => exact absurd hu hnf
  | val v =>
    have hfl : Filled ops outs i γ w := fun b c0 c1 T s hb hre => by
      have hls : listed.getD s false = true := reach_listed hI.closed 4 i s hre fun o' ho' e he hb => by
        rw [ho] at ho'
        obtain rfl : o = o' := by simpa using ho'
        exact hpre e he hb
      have h4 := hW.stores b c0 c1 T s hb
      have ls : s < ops.size := by
        rcases Nat.lt_or_ge s outs.length with h5 | h5
        · rw [← hW.len]; exact h5
        · rw [List.getElem?_eq_none h5] at h4; cases h4
      have hos : ops[s]? = some ops[s] := Array.getElem?_eq_getElem ls
      obtain ⟨_, _, hSs⟩ := hW.step s _ _ hos h4 (by intro e; cases e)
      obtain ⟨_, _, _, _, hre2, _, _⟩ := hSs
      have hlb : listed.getD b false = true := reach_listed hI.closed 4 s b hre2 fun o' ho' => hI.closed s o' ho' hls
      obtain ⟨_, _, h3⟩ := hI.boxes b c0 c1 T s hb hlb
      rw [h3, if_pos hls]
    refine Does.xfer (act := af γ) (v := v) (R := fun w' => Below w.heap.size w w') ho hx hwn hsz (hS γ w hI.below hfl _ fun w' hb => ⟨rfl, hb⟩) fun w' hb => hK γ _ w' ?_
    refine ⟨size', nofin', closed', hI.holds.put hd ho hu (fun _ _ => rfl) hnot (fun j => getD_true lis), hS'.below _ _ hI.below hI.start hb, Nat.le_trans hI.start hb.size, ?_, hI.oldLt, ?_, ?_⟩
    · intro j g c0 c1 T hj
      have hlt := hI.oldLt j g c0 c1 T hj
      have hji : i ≠ j := fun e => by rw [← e, hu] at hj; cases hj
      rw [hb.block _ (Nat.lt_of_lt_of_le hlt hI.start), hI.olds j g c0 c1 T hj, getD_set_ne false hji]
    · intro j c0 c1 T s hj hl
      rw [getD_true lis] at hl
      rcases hl with hl | rfl
      · obtain ⟨h1, h2, h3⟩ := hI.boxes j c0 c1 T s hj hl
        refine ⟨h1, Nat.lt_of_lt_of_le h2 hb.size, ?_⟩
        rw [hb.block _ h2, h3]
        have hsi : s ≠ i := fun e => by
          have h4 := hW.stores j c0 c1 T s hj
          rw [e, hu] at h4
          cases h4
        rw [getD_set_ne false (Ne.symm hsi)]
      · rw [hu] at hj; cases hj
    · intro j k c0 c1 T s c0' c1' T' s' hj hk hlj hlk hne
      rw [getD_true lis] at hlj hlk
      rcases hlj with hlj | rfl
      · rcases hlk with hlk | rfl
        · exact hI.apart j k c0 c1 T s c0' c1' T' s' hj hk hlj hlk hne
        · rw [hu] at hk; cases hk
      · rw [hu] at hj; cases hj
  | box c0 c1 T s =>
    refine Does.xfer (act := af γ) (v := .pointer (some ⟨w.heap.size, 0, none⟩)) (R := fun w' => w' = w.alloc (.cells c0 T)) ho hx hwn hsz (hS γ w hI.below _ ⟨rfl, rfl⟩) fun w' hb => ?_
    subst hb
    let γ' : Nat → Nat := fun j => if j = i then w.heap.size else γ j
    have hγi : γ' i = w.heap.size := by simp [γ']
    have hγj : ∀ j, listed.getD j false = true → γ' j = γ j := fun j hl => by
      have : j ≠ i := fun e => hnot (e ▸ hl)
      simp [γ', this]
    refine hK γ' _ _ ?_
    have hput := hI.holds.put (γ' := γ') hd ho hu hγj hnot (fun j => getD_true lis)
    simp only [Out.at, hγi] at hput
    refine ⟨size', nofin', closed', hput, hS'.below _ _ hI.below hI.start ((Below.refl _ _).alloc (Nat.le_refl _) _), Nat.le_trans hI.start (by simp), ?_, hI.oldLt, ?_, ?_⟩
    · intro j g d0 d1 T' hj
      have hlt := hI.oldLt j g d0 d1 T' hj
      have hji : i ≠ j := fun e => by rw [← e, hu] at hj; cases hj
      rw [Below.heap_alloc _ _ _ (Nat.lt_of_lt_of_le hlt hI.start), hI.olds j g d0 d1 T' hj, getD_set_ne false hji]
    · intro j d0 d1 T' s' hj hl
      rw [getD_true lis] at hl
      rcases hl with hl | rfl
      · obtain ⟨h1, h2, h3⟩ := hI.boxes j d0 d1 T' s' hj hl
        rw [hγj j hl]
        refine ⟨h1, by simp; omega, ?_⟩
        rw [Below.heap_alloc _ _ _ h2, h3]
        have hsi : s' ≠ i := fun e => by
          have h4 := hW.stores j d0 d1 T' s' hj
          rw [e, hu] at h4
          cases h4
        rw [getD_set_ne false (Ne.symm hsi)]
      · rw [hu] at hj
        simp only [Option.some.injEq, Out.box.injEq] at hj
        obtain ⟨rfl, rfl, rfl, rfl⟩ := hj
        rw [hγi]
        refine ⟨hI.start, by simp, ?_⟩
        have hsj : (listed.setIfInBounds j true).getD s false ≠ true := by
          intro hl
          rw [getD_true lis] at hl
          have h4 := hW.stores j c0 c1 T s hu
          rcases hl with hl | rfl
          · have ls : s < ops.size := by
              rcases Nat.lt_or_ge s outs.length with h5 | h5
              · rw [← hW.len]; exact h5
              · rw [List.getElem?_eq_none h5] at h4; cases h4
            have hos : ops[s]? = some ops[s] := Array.getElem?_eq_getElem ls
            obtain ⟨_, _, hSs⟩ := hW.step s _ _ hos h4 (by intro e; cases e)
            obtain ⟨_, _, _, _, hre, _, _⟩ := hSs
            exact hnot (reach_listed hI.closed 4 s j hre fun o' ho' => hI.closed s o' ho' hl)
          · rw [hu] at h4; cases h4
        simp only [hsj, World.alloc, Array.getElem?_push_size]
        rfl
    · intro j k d0 d1 T1 s1 d0' d1' T2 s2 hj hk hlj hlk hne
      rw [getD_true lis] at hlj hlk
      rcases hlj with hlj | rfl
      · rcases hlk with hlk | rfl
        · rw [hγj j hlj, hγj k hlk]; exact hI.apart j k _ _ _ _ _ _ _ _ hj hk hlj hlk hne
        · rw [hγj j hlj, hγi]
          have := (hI.boxes j _ _ _ _ hj hlj).2.1
          omega
      · rcases hlk with hlk | rfl
        · rw [hγj k hlk, hγi]
          have := (hI.boxes k _ _ _ _ hk hlk).2.1
          omega
        · exact absurd rfl hne
  | st b =>
    obtain ⟨c0, c1, T, hbi, hre, hb, hS⟩ := hS
    have hlb : listed.getD b false = true := reach_listed hI.closed 4 i b hre fun o' ho' e he hb => by
      rw [ho] at ho'
      obtain rfl : o = o' := by simpa using ho'
      exact hpre e he hb
    obtain ⟨b1, b2, b3⟩ := hI.boxes b c0 c1 T i hb hlb
    simp only [hnot] at b3
    refine Does.xfer (act := af γ) (v := undef) (R := fun w' => Upd (γ b) c1 T w w') ho hx hwn hsz (hS γ w hI.below b1 b3 _ fun w' hb => ⟨rfl, hb⟩) fun w' hup => hK γ _ w' ?_
    have below' : S w' := hS'.upd _ _ _ _ _ hI.below b1 hup
    refine ⟨size', nofin', closed', hI.holds.put hd ho hu (fun _ _ => rfl) hnot (fun j => getD_true lis), below', by rw [hup.size]; exact hI.start, ?_, hI.oldLt, ?_, ?_⟩
    · intro j g d0 d1 T' hj
      have hlt := hI.oldLt j g d0 d1 T' hj
      have hji : i ≠ j := fun e => by rw [← e, hu] at hj; cases hj
      rw [hup.far _ (by omega), hI.olds j g d0 d1 T' hj, getD_set_ne false hji]
    · intro j d0 d1 T' s hj hl
      rw [getD_true lis] at hl
      rcases hl with hl | rfl
      · obtain ⟨h1, h2, h3⟩ := hI.boxes j d0 d1 T' s hj hl
        refine ⟨h1, by rw [hup.size]; exact h2, ?_⟩
        by_cases hjb : j = b
        · subst hjb
          rw [hb] at hj
          simp only [Option.some.injEq, Out.box.injEq] at hj
          obtain ⟨rfl, rfl, rfl, rfl⟩ := hj
          rw [if_pos (by simp [lis])]
          exact hup.at_
        · rw [hup.far _ (hI.apart j b _ _ _ _ _ _ _ _ hj hb hl hlb hjb), h3]
          have hsi : s ≠ i := fun e => by
            have h4 := hW.stores j d0 d1 T' s hj
            rw [e, hu] at h4
            simp only [Option.some.injEq, Out.st.injEq] at h4
            exact hjb h4.symm
          rw [getD_set_ne false (Ne.symm hsi)]
      · rw [hu] at hj; cases hj
    · intro j k d0 d1 T1 s1 d0' d1' T2 s2 hj hk hlj hlk hne
      rw [getD_true lis] at hlj hlk
      rcases hlj with hlj | rfl
      · rcases hlk with hlk | rfl
        · exact hI.apart j k _ _ _ _ _ _ _ _ hj hk hlj hlk hne
        · rw [hu] at hk; cases hk
      · rw [hu] at hj; cases hj
  | old g c0 c1 T =>
    obtain ⟨hBg, hg0, hS⟩ := hS
    have hat := hI.olds i g c0 c1 T hu
    simp only [hnot] at hat
    have hglt := hI.oldLt i g c0 c1 T hu
    refine Does.xfer (act := af γ) (v := undef) (R := fun w' => Upd g c1 T w w') ho hx hwn hsz (hS γ w hI.below hat _ fun w' hb => ⟨rfl, hb⟩) fun w' hup => hK γ _ w' ?_
    have below' : S w' := hBg _ _ _ _ hI.below hup
    refine ⟨size', nofin', closed', hI.holds.put hd ho hu (fun _ _ => rfl) hnot (fun j => getD_true lis), below', by rw [hup.size]; exact hI.start, ?_, hI.oldLt, ?_, ?_⟩
    · intro j g' d0 d1 T' hj
      by_cases hji : i = j
      · subst hji
        rw [hu] at hj
        simp only [Option.some.injEq, Out.old.injEq] at hj
        obtain ⟨rfl, rfl, rfl, rfl⟩ := hj
        rw [if_pos (by simp [lis])]
        exact hup.at_
      · rw [hup.far _ (Ne.symm (hW.oldsNe i j _ _ _ _ _ _ _ _ hu hj hji)), hI.olds j g' d0 d1 T' hj, getD_set_ne false hji]
    · intro j d0 d1 T' s hj hl
      rw [getD_true lis] at hl
      rcases hl with hl | rfl
      · obtain ⟨h1, h2, h3⟩ := hI.boxes j d0 d1 T' s hj hl
        refine ⟨h1, by rw [hup.size]; exact h2, ?_⟩
        rw [hup.far _ (by omega), h3]
        have hsi : s ≠ i := fun e => by
          have h4 := hW.stores j d0 d1 T' s hj
          rw [e, hu] at h4
          cases h4
        rw [getD_set_ne false (Ne.symm hsi)]
      · rw [hu] at hj; cases hj
    · intro j k d0 d1 T1 s1 d0' d1' T2 s2 hj hk hlj hlk hne
      rw [getD_true lis] at hlj hlk
      rcases hlj with hlj | rfl
      · rcases hlk with hlk | rfl
        · exact hI.apart j k _ _ _ _ _ _ _ _ hj hk hlj hlk hne
        · rw [hu] at hk; cases hk
      · rw [hu] at hj; cases hj

theorem olds_of {w : World} : ∀ (l : List Out), (∀ (i g : Nat) (c0 c1 : Array Value) (T : TypeId), l[i]? = some (Out.old g c0 c1 T) → w.heap[g]? = some (.cells c1 T (0, 0))) → Olds w l
  | [], _ => trivial
  | u :: r, h => by
    have hr := olds_of r fun i g c0 c1 T hi => h (i + 1) g c0 c1 T (by simpa using hi)
    cases u with
    | old g c0 c1 T => exact ⟨h 0 g c0 c1 T rfl, hr⟩
    | _ => exact hr

theorem boxes_of {γ : Nat → Nat} {w0 w : World} : ∀ (l : List Out) (n : Nat), (∀ i c0 c1 T s, l[i]? = some (.box c0 c1 T s) → w0.heap.size ≤ γ (n + i) ∧ γ (n + i) < w.heap.size ∧ w.heap[γ (n + i)]? = some (.cells c1 T (0, 0))) → Boxes γ w0 w n l
  | [], _, _ => trivial
  | u :: r, n, h => by
    have hr := boxes_of r (n + 1) fun i c0 c1 T s hi => by
      have := h (i + 1) c0 c1 T s (by simpa using hi)
      rw [show n + 1 + i = n + (i + 1) from by omega]
      exact this
    cases u with
    | val v => exact hr
    | st b => exact hr
    | fin => exact hr
    | old => exact hr
    | box c0 c1 T s => exact ⟨h 0 c0 c1 T s rfl, hr⟩

theorem differ_of {γ : Nat → Nat} {m : Nat} : ∀ (l : List Out) (n : Nat), (∀ i c0 c1 T s, l[i]? = some (.box c0 c1 T s) → γ m ≠ γ (n + i)) → Differ γ m n l
  | [], _, _ => trivial
  | u :: r, n, h => by
    have hr := differ_of (m := m) r (n + 1) fun i c0 c1 T s hi => by
      have := h (i + 1) c0 c1 T s (by simpa using hi)
      rw [show n + 1 + i = n + (i + 1) from by omega]
      exact this
    cases u with
    | val v => exact hr
    | st b => exact hr
    | fin => exact hr
    | old => exact hr
    | box c0 c1 T s => exact ⟨h 0 c0 c1 T s rfl, hr⟩

theorem apart_of {γ : Nat → Nat} : ∀ (l : List Out) (n : Nat), (∀ i j c0 c1 T s c0' c1' T' s', l[i]? = some (.box c0 c1 T s) → l[j]? = some (.box c0' c1' T' s') → i ≠ j → γ (n + i) ≠ γ (n + j)) → Apart γ n l
  | [], _, _ => trivial
  | u :: r, n, h => by
    have hr := apart_of r (n + 1) fun i j c0 c1 T s c0' c1' T' s' hi hj hne => by
      have := h (i + 1) (j + 1) c0 c1 T s c0' c1' T' s' (by simpa using hi) (by simpa using hj) (by omega)
      rw [show n + 1 + i = n + (i + 1) from by omega, show n + 1 + j = n + (j + 1) from by omega]
      exact this
    cases u with
    | val v => exact hr
    | st b => exact hr
    | fin => exact hr
    | old => exact hr
    | box c0 c1 T s => exact ⟨differ_of r (n + 1) fun i d0 d1 T' s' hi => by
        have := h 0 (i + 1) c0 c1 T s d0 d1 T' s' rfl (by simpa using hi) (by omega)
        rw [show n + 1 + i = n + (i + 1) from by omega]
        exact this, hr⟩

/-- When just the operations before t have come up, and each later one waits for the one before it. -/
theorem wpAny_tail {P : Program} {ops : Array Oper} {Q : Exit → Act → World → Prop} {n : Nat} (hc : regCond ops = true) (hall : ((List.range ops.size).all fun t => decide (t ≤ n) || reach ops 12 t (t - 1)) = true) :
    ∀ (fuel t : Nat) (listed : Array Bool) (a : Act) (w : World), listed.size = ops.size → n < t → (∀ j, j < t → listed.getD j false = true) → (∀ j, t ≤ j → j < ops.size → listed.getD j false ≠ true) → ops.size ≤ t + fuel →
      Tail P ops Q (ops.toList.drop t) a w → wpAny P .any ops Q fuel listed a w := by
  have only : ∀ (t : Nat) (listed : Array Bool), listed.size = ops.size → n < t → (∀ j, j < t → listed.getD j false = true) → (∀ j, t ≤ j → j < ops.size → listed.getD j false ≠ true) → ∀ i ∈ Region.ready .any ops listed, i = t := by
    intro t listed hsz hn hyes hno i hi
    obtain ⟨hun, o, ho, hpre⟩ := mem_ready.1 hi
    have hio : i < ops.size := (Array.getElem?_eq_some_iff.1 ho).1
    have hti : t ≤ i := by
      rcases Nat.lt_or_ge i t with h | h
      · have h1 := hyes i h
        have ls : i < listed.size := by omega
        simp only [Array.getD, ls, dite_true] at hun h1
        rw [h1] at hun; cases hun
      · exact h
    rcases Nat.eq_or_lt_of_le hti with e | e
    · exact e.symm
    · exfalso
      have h1 := List.all_eq_true.1 hall i (List.mem_range.2 hio)
      simp only [Bool.or_eq_true, decide_eq_true_eq] at h1
      rcases h1 with h1 | h1
      · omega
      · have hcl : ∀ j oj, ops[j]? = some oj → listed.getD j false = true → ∀ e ∈ oj.after, Region.binds .any e = true → listed.getD e.on false = true := fun j oj hj hl e he hb => by
          have hjt : j < t := by
            rcases Nat.lt_or_ge j t with h | h
            · exact h
            · exact absurd hl (hno j h (Array.getElem?_eq_some_iff.1 hj).1)
          have := (condOf hc hj).2.1 e he hb
          exact hyes e.on (by omega)
        have := reach_listed hcl 12 i (i - 1) h1 fun o' ho' e he hb => by
          rw [ho] at ho'
          obtain rfl : o = o' := by simpa using ho'
          exact hpre e he hb
        exact hno (i - 1) (by omega) (by omega) this
  intro fuel
  induction fuel with
  | zero =>
    intro t listed a w hsz hn hyes hno hcnt hT
    have hr : Region.ready .any ops listed = [] := by
      rw [List.eq_nil_iff_forall_not_mem]
      intro i hi
      obtain ⟨hun, o, ho, _⟩ := mem_ready.1 hi
      have := only t listed hsz hn hyes hno i hi
      have hio : i < ops.size := (Array.getElem?_eq_some_iff.1 ho).1
      omega
    rw [List.drop_eq_nil_of_le (by simp; omega)] at hT
    exact ⟨hr, hT⟩
  | succ fuel ih =>
    intro t listed a w hsz hn hyes hno hcnt hT
    rcases Nat.lt_or_ge t ops.size with ht | ht
    · refine ⟨fun hr => ?_, fun i hi => ?_⟩
      · exfalso
        have hos : ops[t]? = some ops[t] := Array.getElem?_eq_getElem ht
        have : t ∈ Region.ready .any ops listed := mem_ready.2 ⟨by
          have h1 := hno t (Nat.le_refl _) ht
          have lis : t < listed.size := by omega
          simp [lis] at h1 ⊢
          exact h1, _, hos, fun e he hb => hyes e.on (by have := (condOf hc hos).2.1 e he hb; omega)⟩
        rw [hr] at this
        cases this
      · obtain rfl := only t listed hsz hn hyes hno i hi
        rw [List.drop_eq_getElem_cons (by simpa using ht)] at hT
        have hos : ops[i]? = some (ops.toList[i]'(by simpa using ht)) := by simp
        have lis : i < listed.size := by omega
        refine Does.toQ hos hT fun a' w' hq => ih (i + 1) _ a' w' (by simp [hsz]) (by omega) (fun j hj => ?_) (fun j hj hjs => ?_) (by omega) hq
        · rw [getD_true lis]
          rcases Nat.lt_or_ge j i with h1 | h1
          · exact .inl (hyes j h1)
          · exact .inr (by omega)
        · intro h
          rw [getD_true lis] at h
          rcases h with h | h
          · exact hno j (by omega) hjs h
          · omega
    · rw [List.drop_eq_nil_of_le (by simp; omega)] at hT
      refine ⟨fun _ => hT, fun i hi => ?_⟩
      obtain ⟨hun, o, ho, _⟩ := mem_ready.1 hi
      have := only t listed hsz hn hyes hno i hi
      have hio : i < ops.size := (Array.getElem?_eq_some_iff.1 ho).1
      omega

theorem Inv.all {P : Program} {ops : Array Oper} {Q : Exit → Act → World → Prop} {S : World → Prop} {w0 : World} (hS' : Stable S w0) {a0 : Act} {outs : List Out} (hc : regCond ops = true) (hW : Whole P ops Q S w0 a0 outs) :
    ∀ (fuel : Nat) (γ : Nat → Nat) (listed : Array Bool) (a : Act) (w : World), Inv ops outs a0 S w0 γ listed a w → (listed.toList.countP (· == false)) ≤ fuel → wpAny P .any ops Q fuel listed a w := by
  have all : ∀ (listed : Array Bool), listed.size = ops.size → Region.ready .any ops listed = [] → ∀ n i, i < n → i < ops.size → listed.getD i false = true := by
    intro listed hsize hr n
    induction n with
    | zero => intro i h; omega
    | succ n ih =>
      intro i hi hio
      by_cases hl : listed.getD i false = true
      · exact hl
      · exfalso
        have hos : ops[i]? = some ops[i] := Array.getElem?_eq_getElem hio
        have : i ∈ Region.ready .any ops listed := mem_ready.2 ⟨by
          have lis : i < listed.size := by rw [hsize]; exact hio
          simp [lis] at hl ⊢
          exact hl, _, hos, fun e he hb => ih e.on (by have := (condOf hc hos).2.1 e he hb; omega) (by have := (condOf hc hos).2.1 e he hb; omega)⟩
        rw [hr] at this
        cases this
  have lt : ∀ {i : Nat} {u : Out}, outs[i]? = some u → i < ops.size := fun {i u} h => by
    rcases Nat.lt_or_ge i outs.length with h5 | h5
    · rw [← hW.len]; exact h5
    · rw [List.getElem?_eq_none h5] at h; cases h
  have same : ∀ (γ : Nat → Nat) (listed : Array Bool) (a b : Act) (w : World) (M : Nat → Prop), Inv ops outs a0 S w0 γ listed a w → Holds ops outs a0 γ M b → (∀ j, j < ops.size → (listed.getD j false = true ↔ M j)) → a = b := by
    intro γ listed a b w M hI hH hiff
    have ht : a.tmps = b.tmps := by
      apply Array.ext_getElem?
      intro k
      exact hI.holds.agree hW.len hH k fun j oj hj _ => hiff j (Array.getElem?_eq_some_iff.1 hj).1
    have hdf := hI.holds.defers.trans hH.defers.symm
    cases a; cases b
    simp only at ht hdf
    rw [ht, hdf]
  have done : ∀ (γ : Nat → Nat) (listed : Array Bool) (a : Act) (w : World), Inv ops outs a0 S w0 γ listed a w → Region.ready .any ops listed = [] → Q .normal a w := by
    intro γ listed a w hI hr
    have hall : ∀ i, i < ops.size → listed.getD i false = true := fun i h => all listed hI.size hr (i + 1) i (by omega) h
    rcases hW.final with ⟨_, af, hH, hF⟩ | ⟨n, outs', af, he, hl', hn, _⟩
    · rw [same γ listed a (af γ) w _ hI (hH γ) fun j hj => ⟨fun _ => hj, fun _ => hall j hj⟩]
      refine hF γ w hI.below (boxes_of _ _ fun i c0 c1 T s hi => ?_) (apart_of _ _ fun i j c0 c1 T s c0' c1' T' s' hi hj hne => ?_) (olds_of _ fun i g c0 c1 T hi => ?_)
      · rw [Nat.zero_add]
        have h1 := hI.boxes i c0 c1 T s hi (hall i (lt hi))
        rw [if_pos (hall s (lt (hW.stores i c0 c1 T s hi)))] at h1
        exact h1
      · rw [Nat.zero_add, Nat.zero_add]
        exact hI.apart i j _ _ _ _ _ _ _ _ hi hj (hall i (lt hi)) (hall j (lt hj)) hne
      · have h1 := hI.olds i g c0 c1 T hi
        rw [if_pos (hall i (lt hi))] at h1
        exact h1
    · exact absurd (hall n (by omega)) (hI.nofin n (by rw [he, List.getElem?_append_right (by omega), List.getElem?_replicate, if_pos (by omega)]))
  have fin : ∀ (fuel : Nat) (γ : Nat → Nat) (listed : Array Bool) (a : Act) (w : World) (i : Nat), Inv ops outs a0 S w0 γ listed a w → i ∈ Region.ready .any ops listed → outs[i]? = some Out.fin → listed.toList.countP (· == false) ≤ fuel + 1 → wpOp P ops Q i (wpAny P .any ops Q fuel (listed.setIfInBounds i true)) a w := by
    intro fuel γ listed a w i hI hi hfin hcnt
    rcases hW.final with ⟨hno, _⟩ | ⟨n, outs', af, he, hl', hn, hlast, hnf, hst, hH, hF⟩
    · exact absurd hfin (hno i)
    have hin : n ≤ i := by
      rcases Nat.lt_or_ge i outs'.length with h1 | h1
      · rw [he, List.getElem?_append_left h1] at hfin
        exact absurd hfin (hnf i)
      · omega
    have hfins : ∀ j, n ≤ j → j < ops.size → outs[j]? = some Out.fin := fun j hj hjs => by
      rw [he, List.getElem?_append_right (by omega), List.getElem?_replicate, if_pos (by omega)]
    unfold tailOk at hlast
    rw [Bool.and_eq_true, Bool.and_eq_true] at hlast
    obtain ⟨⟨_, hall0⟩, hall1⟩ := hlast
    obtain ⟨hun, o, ho, hpre⟩ := mem_ready.1 hi
    have hio : i < ops.size := (Array.getElem?_eq_some_iff.1 ho).1
    obtain rfl : i = n := by
      rcases Nat.eq_or_lt_of_le hin with e | e
      · exact e.symm
      · exfalso
        have h1 := List.all_eq_true.1 hall1 i (List.mem_range.2 hio)
        simp only [Bool.or_eq_true, decide_eq_true_eq] at h1
        rcases h1 with h1 | h1
        · omega
        · have := reach_listed hI.closed 12 i (i - 1) h1 fun o' ho' e he hb => by
            rw [ho] at ho'
            obtain rfl : o = o' := by simpa using ho'
            exact hpre e he hb
          exact hI.nofin (i - 1) (hfins (i - 1) (by omega) (by omega)) this
    have lis : i < listed.size := by rw [hI.size]; omega
    have hothers : ∀ j, j < i → listed.getD j false = true := fun j hj =>
      reach_listed hI.closed 12 i j (List.all_eq_true.1 hall0 j (List.mem_range.2 hj)) fun o' ho' e he hb => by
        rw [ho] at ho'
        obtain rfl : o = o' := by simpa using ho'
        exact hpre e he hb
    have hout : ∀ {j : Nat} {u : Out}, outs'[j]? = some u → j < i ∧ outs[j]? = some u := fun {j u} h => by
      have hj : j < outs'.length := by
        rcases Nat.lt_or_ge j outs'.length with h5 | h5
        · exact h5
        · rw [List.getElem?_eq_none h5] at h; cases h
      exact ⟨by omega, by rw [he, List.getElem?_append_left hj]; exact h⟩
    have hd := hF γ w hI.below (boxes_of _ _ fun j c0 c1 T s hj => by
        rw [Nat.zero_add]
        have h1 := hI.boxes j c0 c1 T s (hout hj).2 (hothers j (hout hj).1)
        rw [if_pos (hothers s (hout (storesOk_spec hst j c0 c1 T s hj)).1)] at h1
        exact h1) (apart_of _ _ fun j k c0 c1 T s c0' c1' T' s' hj hk hne => by
        rw [Nat.zero_add, Nat.zero_add]
        exact hI.apart j k _ _ _ _ _ _ _ _ (hout hj).2 (hout hk).2 (hothers j (hout hj).1) (hothers k (hout hk).1) hne) (olds_of _ fun j g c0 c1 T hj => by
        have h1 := hI.olds j g c0 c1 T (hout hj).2
        rw [if_pos (hothers j (hout hj).1)] at h1
        exact h1)
    rw [← same γ listed a (af γ) w _ hI (hH γ) fun j hj => ⟨fun h => by
        rcases Nat.lt_or_ge j i with h1 | h1
        · exact h1
        · exact absurd h (hI.nofin j (hfins j h1 hj)), fun h => hothers j h⟩] at hd
    rw [List.drop_eq_getElem_cons (by simpa using hio)] at hd
    have ho2 : ops.toList[i]'(by simpa using hio) = o := by
      have := (Array.getElem?_eq_some_iff.1 ho).2
      simpa using this
    rw [ho2] at hd
    refine Does.toQ ho (show Does P ops o a w (Tail P ops Q (ops.toList.drop (i + 1))) from hd) fun a' w' hq => ?_
    have hcount : ops.size ≤ i + 1 + fuel := by
      have e1 : listed.toList.countP (· == false) = (listed.toList.take i).countP (· == false) + (listed.toList.drop i).countP (· == false) := by rw [← List.countP_append, List.take_append_drop]
      have e2 : (listed.toList.drop i).countP (· == false) = (listed.toList.drop i).length := by
        rw [List.countP_eq_length]
        intro b hb
        obtain ⟨k, hk, rfl⟩ := List.getElem_of_mem hb
        simp only [List.length_drop, Array.length_toList] at hk
        have h1 : listed.getD (i + k) false ≠ true := hI.nofin (i + k) (hfins (i + k) (by omega) (by rw [← hI.size]; omega))
        rw [List.getElem_drop]
        have h2 : i + k < listed.size := by omega
        simp only [Array.getD, h2, dite_true] at h1
        simpa using h1
      rw [List.length_drop, Array.length_toList, hI.size] at e2
      omega
    refine wpAny_tail hc hall1 fuel (i + 1) _ a' w' (by simp [hI.size]) (by omega) (fun j hj => ?_) (fun j hj hjs => ?_) (by omega) hq
    · rw [getD_true lis]
      rcases Nat.lt_or_ge j i with h1 | h1
      · exact .inl (hothers j h1)
      · exact .inr (by omega)
    · intro h
      rw [getD_true lis] at h
      rcases h with h | h
      · exact hI.nofin j (hfins j (by omega) hjs) h
      · omega
  intro fuel
  induction fuel with
  | zero =>
    intro γ listed a w hI hcnt
    have hr : Region.ready .any ops listed = [] := by
      rw [List.eq_nil_iff_forall_not_mem]
      intro i hi
      obtain ⟨hun, o, ho, _⟩ := mem_ready.1 hi
      have li : i < listed.size := by rw [hI.size]; exact (Array.getElem?_eq_some_iff.1 ho).1
      have h0 : listed.toList.countP (· == false) = 0 := by omega
      rw [List.countP_eq_zero] at h0
      have := h0 listed[i] (by simp)
      simp [li] at hun
      simp [hun] at this
    exact ⟨hr, done γ listed a w hI hr⟩
  | succ fuel ih =>
    intro γ listed a w hI hcnt
    refine ⟨fun hr => done γ listed a w hI hr, fun i hi => ?_⟩
    by_cases hfin : outs[i]? = some .fin
    · refine fin fuel γ listed a w i hI hi hfin ?_
      exact hcnt
    refine hI.step hS' hc hW hi hfin fun γ' a' w' hI' => ih γ' _ a' w' hI' ?_
    · obtain ⟨hun, o, ho, _⟩ := mem_ready.1 hi
      have li : i < listed.size := by rw [hI.size]; exact (Array.getElem?_eq_some_iff.1 ho).1
      have hf : listed[i] = false := by simpa [li] using hun
      have hset : (listed.setIfInBounds i true).toList = listed.toList.set i true := by simp
      rw [hset]
      have hc1 : (listed.toList.set i true).countP (· == false) + 1 = listed.toList.countP (· == false) := by
        have li' : i < listed.toList.length := by simpa using li
        rw [List.countP_set li']
        have h7 : listed.toList[i] = false := by simpa using hf
        have hpos : 0 < listed.toList.countP (· == false) := List.countP_pos_iff.2 ⟨false, by rw [← h7]; exact List.getElem_mem _, rfl⟩
        rw [h7]
        simp only [beq_self_eq_true, if_true]
        have h8 : ((true : Bool) == false) = false := rfl
        simp only [h8, Bool.false_eq_true, if_false]
        omega
      omega

/-- THE LAW. -/
theorem wp_region_seqS (S : World → Prop) {P : Program} {id : Nat} {ops : Array Oper} {Q : Exit → Act → World → Prop} {a : Act} {w : World} (hS : Stable S w) (h0 : S w.drew) (hm : P.follows .mixedOrders = true) (hc : regCond ops = true)
    (h : SeqOK P ops Q S w 0 ops.toList [] (fun _ => a)) : (Code.region id ops true).wp P Q a w := by
  refine wp_region_any hm ?_
  have hd : dstsOk ops = true := by unfold regCond at hc; rw [Bool.and_eq_true] at hc; exact hc.1
  obtain ⟨outs, hW⟩ := h.whole (a0 := a) hd (by simp) (Nat.zero_le _) rfl
    (fun γ => ⟨rfl, rfl, fun j o d u _ _ _ hj _ => by omega, fun k _ => rfl⟩) (fun i o u hi => by omega) (fun i => by simp) (fun i j g c0 c1 T g' c0' c1' T' hi => by simp at hi)
  have hfalse : ∀ j, (Array.replicate ops.size false).getD j false ≠ true := fun j => by
    by_cases hj : j < ops.size <;> simp [hj]
  have hold : ∀ (i g : Nat) (c0 c1 : Array Value) (T : TypeId), outs[i]? = some (Out.old g c0 c1 T) → w.heap[g]? = some (.cells c0 T (0, 0)) := fun i g c0 c1 T hi => by
    have li : i < ops.size := by
      rcases Nat.lt_or_ge i outs.length with h5 | h5
      · rw [← hW.len]; exact h5
      · rw [List.getElem?_eq_none h5] at hi; cases hi
    obtain ⟨_, _, hS⟩ := hW.step i _ _ (Array.getElem?_eq_getElem li) hi (by intro e; cases e)
    exact hS.2.1
  refine Inv.all hS hc hW ops.size (fun _ => 0) _ a w.drew ⟨by simp, fun i _ => hfalse i, fun i o _ hl => absurd hl (hfalse i), ⟨rfl, rfl, fun j o d u _ _ _ hj _ => absurd hj (hfalse j), fun k _ => rfl⟩, h0,
    Nat.le_refl _, fun i g c0 c1 T hi => by rw [if_neg (hfalse i)]; exact hold i g c0 c1 T hi, fun i g c0 c1 T hi => (Array.getElem?_eq_some_iff.1 (hold i g c0 c1 T hi)).1,
    fun i c0 c1 T s _ hl => absurd hl (hfalse i), fun i j c0 c1 T s c0' c1' T' s' _ _ hl => absurd hl (hfalse i)⟩ ?_
  exact Nat.le_trans List.countP_le_length (by simp)

theorem stableB {B : Nat} {w : World} (hB : B ≤ w.heap.size) : Stable (Below B w) w :=
  ⟨fun _ _ h hs hb => h.trans (hb.mono (Nat.le_trans hB hs)), fun _ _ _ _ _ h hg hup => h.trans ⟨hup.os, hup.tape, hup.output, Nat.le_of_eq hup.size.symm, fun k hk => hup.far k (by omega)⟩⟩
theorem updB {B g : Nat} {w0 : World} (hB : B ≤ g) : ∀ w w' c T, Below B w0 w → Upd g c T w w' → Below B w0 w' :=
  fun _ _ _ _ h hup => h.trans ⟨hup.os, hup.tape, hup.output, Nat.le_of_eq hup.size.symm, fun k hk => hup.far k (by omega)⟩
/-- Blocks below B stay as they are; the region may write older blocks from B on. -/
theorem wp_region_seqB (B : Nat) {P : Program} {id : Nat} {ops : Array Oper} {Q : Exit → Act → World → Prop} {a : Act} {w : World} (hB : B ≤ w.heap.size) (hm : P.follows .mixedOrders = true) (hc : regCond ops = true)
    (h : SeqOK P ops Q (Below B w) w 0 ops.toList [] (fun _ => a)) : (Code.region id ops true).wp P Q a w := wp_region_seqS (Below B w) (stableB hB) (Below.refl _ _).drew hm hc h

/-- All blocks but those of M stay as they are. -/
structure Keep (M : Nat → Prop) (w w' : World) : Prop where
  os : w'.os = w.os
  tape : w'.tape = w.tape
  output : w'.output = w.output
  size : w.heap.size ≤ w'.heap.size
  block : ∀ k, k < w.heap.size → ¬ M k → w'.heap[k]? = w.heap[k]?
theorem stableK {M : Nat → Prop} {w : World} : Stable (Keep M w) w :=
  ⟨fun _ _ h hs hb => ⟨hb.os.trans h.os, hb.tape.trans h.tape, hb.output.trans h.output, Nat.le_trans h.size hb.size, fun k hk hm => (hb.block k (by omega)).trans (h.block k hk hm)⟩,
   fun _ _ _ _ _ h hg hup => ⟨hup.os.trans h.os, hup.tape.trans h.tape, hup.output.trans h.output, by rw [hup.size]; exact h.size, fun k hk hm => (hup.far k (by omega)).trans (h.block k hk hm)⟩⟩
theorem updK {M : Nat → Prop} {g : Nat} {w0 : World} (hg : M g) : ∀ w w' c T, Keep M w0 w → Upd g c T w w' → Keep M w0 w' :=
  fun _ _ _ _ h hup => ⟨hup.os.trans h.os, hup.tape.trans h.tape, hup.output.trans h.output, by rw [hup.size]; exact h.size, fun k hk hm => (hup.far k (fun e => hm (e ▸ hg))).trans (h.block k hk hm)⟩
theorem kcell {M : Nat → Prop} {w w' : World} (h : Keep M w w') : (∀ b o, b < w.heap.size → ¬ M b → w'.cell? ⟨b, o, none⟩ = w.cell? ⟨b, o, none⟩) ∧ (∀ b o, b < w.heap.size → ¬ M b → w'.frozen? ⟨b, o, none⟩ = w.frozen? ⟨b, o, none⟩) ∧ True :=
  ⟨fun b o hb hm => World.cell?_of_block (w := w) (h.block b hb hm), fun b o hb hm => World.frozen?_of_block (w := w) (h.block b hb hm), trivial⟩
theorem Keep.below {M : Nat → Prop} {w w' : World} {B : Nat} (h : Keep M w w') (hB : ∀ k, k < B → k < w.heap.size ∧ ¬ M k) : Below B w w' :=
  ⟨h.os, h.tape, h.output, h.size, fun k hk => h.block k (hB k hk).1 (hB k hk).2⟩
theorem wp_region_seqK (M : Nat → Prop) {P : Program} {id : Nat} {ops : Array Oper} {Q : Exit → Act → World → Prop} {a : Act} {w : World} (hm : P.follows .mixedOrders = true) (hc : regCond ops = true)
    (h : SeqOK P ops Q (Keep M w) w 0 ops.toList [] (fun _ => a)) : (Code.region id ops true).wp P Q a w := wp_region_seqS (Keep M w) stableK ⟨rfl, rfl, rfl, Nat.le_refl _, fun _ _ _ => rfl⟩ hm hc h

theorem wp_region_seq {P : Program} {id : Nat} {ops : Array Oper} {Q : Exit → Act → World → Prop} {a : Act} {w : World} (hm : P.follows .mixedOrders = true) (hc : regCond ops = true)
    (h : SeqOK P ops Q (Below w.heap.size w) w 0 ops.toList [] (fun _ => a)) : (Code.region id ops true).wp P Q a w := wp_region_seqB _ (Nat.le_refl _) hm hc h

theorem heap_new (w : World) (o : Obj) : (w.alloc o).heap[w.heap.size]? = some o := by simp only [World.alloc, Array.getElem?_push_size]

theorem heap_new' {w : World} {o : Obj} {k : Nat} (h : k = w.heap.size) : (w.alloc o).heap[k]? = some o := by subst h; exact heap_new w o
theorem heap_alloc_eq (w : World) (o : Obj) : (w.alloc o).heap = w.heap.push o := rfl

/-- A block that is known whole. -/
def Blk (g : Nat) (C : Array Value) (T : TypeId) (w : World) : Prop := w.heap[g]? = some (.cells C T (0, 0))
theorem Blk.lt {g : Nat} {C : Array Value} {T : TypeId} {w : World} (h : Blk g C T w) : g < w.heap.size := (Array.getElem?_eq_some_iff.1 h).1
theorem Blk.keep {g : Nat} {C : Array Value} {T : TypeId} {w w' : World} (h : Blk g C T w) (hb : Below w.heap.size w w') : Blk g C T w' := (hb.block g h.lt).trans h
theorem Blk.alloc {g : Nat} {C : Array Value} {T : TypeId} {w : World} (h : Blk g C T w) (o : Obj) : Blk g C T (w.alloc o) := (Below.heap_alloc w o g h.lt).trans h
theorem Blk.drew {g : Nat} {C : Array Value} {T : TypeId} {w : World} (h : Blk g C T w) : Blk g C T w.drew := h
theorem Blk.new (w : World) (C : Array Value) (T : TypeId) : Blk w.heap.size C T (w.alloc (.cells C T)) := by simp only [Blk, World.alloc, Array.getElem?_push_size]
theorem Blk.new1 {w w' : World} {C : Array Value} {T : TypeId} (hb : Below (w.alloc (.cells C T)).heap.size (w.alloc (.cells C T)) w') : Blk w.heap.size C T w' := (Blk.new w C T).keep hb
theorem Blk.at1 {w : World} {C : Array Value} {T : TypeId} {o : Obj} (C' : Array Value) (T' : TypeId) (ho : o = .cells C' T') : Blk (w.heap.size + 1) C' T' ((w.alloc (.cells C T)).alloc o) := by
  subst ho
  have := Blk.new (w.alloc (.cells C T)) C' T'
  simpa only [World.size_alloc] using this
theorem Blk.new2 {w w' : World} {C C' : Array Value} {T T' : TypeId} (hb : Below ((w.alloc (.cells C T)).alloc (.cells C' T')).heap.size ((w.alloc (.cells C T)).alloc (.cells C' T')) w') : Blk w.heap.size C T w' ∧ Blk (w.heap.size + 1) C' T' w' :=
  ⟨((Blk.new w C T).alloc _).keep hb, (Blk.at1 C' T' rfl).keep hb⟩
theorem Blk.new3 {w w' : World} {C C' C'' : Array Value} {T T' T'' : TypeId} (hb : Below (((w.alloc (.cells C T)).alloc (.cells C' T')).alloc (.cells C'' T'')).heap.size (((w.alloc (.cells C T)).alloc (.cells C' T')).alloc (.cells C'' T'')) w') :
    Blk w.heap.size C T w' ∧ Blk (w.heap.size + 1) C' T' w' ∧ Blk (w.heap.size + 1 + 1) C'' T'' w' := by
  have h3 := Blk.new ((w.alloc (.cells C T)).alloc (.cells C' T')) C'' T''
  simp only [World.size_alloc] at h3
  exact ⟨(((Blk.new w C T).alloc _).alloc _).keep hb, ((Blk.at1 C' T' rfl).alloc _).keep hb, h3.keep hb⟩
theorem Blk.new4 {w w' : World} {C C' C'' C3 : Array Value} {T T' T'' T3 : TypeId} (hb : Below ((((w.alloc (.cells C T)).alloc (.cells C' T')).alloc (.cells C'' T'')).alloc (.cells C3 T3)).heap.size ((((w.alloc (.cells C T)).alloc (.cells C' T')).alloc (.cells C'' T'')).alloc (.cells C3 T3)) w') :
    Blk w.heap.size C T w' ∧ Blk (w.heap.size + 1) C' T' w' ∧ Blk (w.heap.size + 1 + 1) C'' T'' w' ∧ Blk (w.heap.size + 1 + 1 + 1) C3 T3 w' := by
  have h3 := Blk.new ((w.alloc (.cells C T)).alloc (.cells C' T')) C'' T''
  simp only [World.size_alloc] at h3
  have h4 := Blk.new (((w.alloc (.cells C T)).alloc (.cells C' T')).alloc (.cells C'' T'')) C3 T3
  simp only [World.size_alloc] at h4
  exact ⟨((((Blk.new w C T).alloc _).alloc _).alloc _).keep hb, (((Blk.at1 C' T' rfl).alloc _).alloc _).keep hb, (h3.alloc _).keep hb, h4.keep hb⟩

theorem cells_at {w : World} {g : Nat} {c : Array Value} {T : TypeId} (h : w.heap[g]? = some (.cells c T (0, 0))) : (∀ i, w.cell? ⟨g, i, none⟩ = c[i]?) ∧ (∀ i, w.frozen? ⟨g, i, none⟩ = false) :=
  ⟨fun i => by simp [World.cell?, h], fun i => by simp [World.frozen?, h]⟩

theorem Blk.facts {g : Nat} {C : Array Value} {T : TypeId} {w : World} (h : Blk g C T w) : (∀ i, w.cell? ⟨g, i, none⟩ = C[i]?) ∧ (∀ i, w.frozen? ⟨g, i, none⟩ = false) ∧ g < w.heap.size :=
  ⟨(cells_at h).1, (cells_at h).2, h.lt⟩
theorem Upd.refl {w : World} {g : Nat} {c : Array Value} {T : TypeId} (h : w.heap[g]? = some (.cells c T (0, 0))) : Upd g c T w w := ⟨h, rfl, fun _ _ => rfl, rfl, rfl, rfl⟩
theorem Upd.set {w w' : World} {g : Nat} {c : Array Value} {T : TypeId} (h : Upd g c T w w') (i : Nat) (v : Value) : Upd g (c.setIfInBounds i v) T w (w'.setCell ⟨g, i, none⟩ v) := by
  refine ⟨?_, by simp [h.size], fun k hk => (Below.heap_setCell _ _ _ _ hk).trans (h.far k hk), h.os, h.tape, h.output⟩
  simp only [World.setCell, Array.getElem?_modify, if_true, h.at_, Option.map_some]
  rfl
theorem upd1 {w : World} {g : Nat} {T : TypeId} {a x : Value} (h : w.heap[g]? = some (.cells #[a] T (0, 0))) : Upd g #[x] T w (w.setCell ⟨g, 0, none⟩ x) := (Upd.refl h).set 0 x
theorem upd2 {w : World} {g : Nat} {T : TypeId} {a b x y : Value} (h : w.heap[g]? = some (.cells #[a, b] T (0, 0))) : Upd g #[x, y] T w ((w.setCell ⟨g, 0, none⟩ x).setCell ⟨g, 1, none⟩ y) := ((Upd.refl h).set 0 x).set 1 y
theorem upd4 {w : World} {g : Nat} {T : TypeId} {a b c d x y z t : Value} (h : w.heap[g]? = some (.cells #[a, b, c, d] T (0, 0))) : Upd g #[x, y, z, t] T w ((((w.setCell ⟨g, 0, none⟩ x).setCell ⟨g, 1, none⟩ y).setCell ⟨g, 2, none⟩ z).setCell ⟨g, 3, none⟩ t) := ((((Upd.refl h).set 0 x).set 1 y).set 2 z).set 3 t
theorem upd6 {w : World} {g : Nat} {T : TypeId} {a b c d e f x y z t u v : Value} (h : w.heap[g]? = some (.cells #[a, b, c, d, e, f] T (0, 0))) :
    Upd g #[x, y, z, t, u, v] T w ((((((w.setCell ⟨g, 0, none⟩ x).setCell ⟨g, 1, none⟩ y).setCell ⟨g, 2, none⟩ z).setCell ⟨g, 3, none⟩ t).setCell ⟨g, 4, none⟩ u).setCell ⟨g, 5, none⟩ v) := ((((((Upd.refl h).set 0 x).set 1 y).set 2 z).set 3 t).set 4 u).set 5 v

end Go.Proofs.YthdjdlndfkemiaaGreatDoor.Reg
