/- Disk: operations, in plain words. -/
import Derived.Test.YtopjekdhecikdaaDm
set_option linter.unusedSimpArgs false
set_option linter.unusedVariables false
set_option maxRecDepth 100000
namespace Go.Proofs.Ytopjekdhecikdaa
namespace D

structure AV where
  kind : Int
  sec : Int
  byt : Int
  text : Tx
  odd : Bool
  aft : Int

/-- A text that is repeated, and cut to 64 bytes. -/
def rep (k : Nat) (t : Tx) : Tx := (List.replicate k t).flatten
def atext (t : Tx) (odd : Bool) : Tx := if odd = true ∨ t = [] then t else (rep 64 t).take 64
theorem rep_succ (k : Nat) (t : Tx) : rep (k + 1) t = rep k t ++ t := by
  unfold rep; rw [List.replicate_succ']; simp
theorem rep_len (k : Nat) (t : Tx) : (rep k t).length = k * t.length := by
  induction k with
  | zero => simp [rep]
  | succ k ih => rw [rep_succ, List.length_append, ih, Nat.succ_mul]
theorem rep_add (k m : Nat) (t : Tx) : rep (k + m) t = rep k t ++ rep m t := by
  unfold rep; rw [← List.flatten_append, List.replicate_append_replicate]
theorem rep_take {k : Nat} {t : Tx} (hk : k ≤ 64) (h : 64 ≤ (rep k t).length) : (rep 64 t).take 64 = (rep k t).take 64 := by
  have e : rep 64 t = rep k t ++ rep (64 - k) t := by rw [← rep_add]; congr 1; omega
  rw [e, List.take_append_of_le_length h]
theorem atext_len {t : Tx} {odd : Bool} (h : ¬ (odd = true ∨ t = [])) : (atext t odd).length = 64 := by
  unfold atext
  rw [if_neg h, List.length_take, rep_len]
  have : t ≠ [] := fun e => h (.inr e)
  have : 1 ≤ t.length := List.length_pos_iff.2 this
  omega

def doA (d : Dk) (a : AV) : (Tx × Int) × Dk :=
  if a.kind = 0 then (([], (write d a.sec (atext a.text a.odd)).1), (write d a.sec (atext a.text a.odd)).2)
  else if a.kind = 1 then (read d a.sec, d)
  else if a.kind = 2 then (([], (sync d).1), (sync d).2)
  else if a.kind = 3 then (([], 0), fail d a.sec a.byt)
  else if a.kind = 4 then (([], 0), start d)
  else if a.kind = 5 then (([], 0), armD d a.aft a.sec a.byt)
  else if a.kind = 6 then (([], 0), rot d a.sec a.byt a.aft)
  else if a.kind = 7 then ((d.st, 0), d)
  else (([], 0), d)
def runD (d : Dk) (l : List AV) : Dk := l.foldl (fun d a => (doA d a).2) d
theorem runD_take {d : Dk} {l : List AV} {k : Nat} (h : k < l.length) : runD d (l.take (k + 1)) = (doA (runD d (l.take k)) l[k]).2 := by
  unfold runD
  rw [List.take_succ_eq_append_getElem h, List.foldl_append]; rfl

theorem Good.doA {n : Nat} {d : Dk} (h : Good n d) (a : AV) : Good n (doA d a).2 := by
  unfold D.doA
  split
  · exact h.write _ _
  · split
    · exact h
    · split
      · exact h.sync
      · split
        · exact h.fail _ _
        · split
          · exact h.start
          · split
            · exact h.arm _ _ _
            · split
              · exact h.rot _ _ _
              · split <;> exact h
theorem Good.run {n : Nat} {d : Dk} (h : Good n d) (l : List AV) : Good n (runD d l) := by
  unfold runD
  induction l generalizing d with
  | nil => exact h
  | cons a l ih => exact ih (h.doA a)

/-! ### How many writes wait, and how far an alarm is away -/
structure Few (m : Nat) (d : Dk) : Prop where
  ql : d.q.length ≤ m
  arm : ∀ a x y, d.arm = some (a, x, y) → a ≤ 9223372036854775807
theorem Few.fail {m : Nat} {d : Dk} (h : Few m d) (x y : Int) : Few m (fail d x y) := by
  unfold D.fail
  split
  · exact h
  · exact ⟨by simp, fun a b c e => by cases e⟩
theorem Few.count {m : Nat} {d : Dk} (h : Few m d) : Few m (count d).2 := by
  unfold D.count
  split
  · exact h
  · rename_i a x y ha
    split
    · exact ⟨h.ql, fun a' x' y' e => by have := h.arm a x y ha; simp only [Option.some.injEq, Prod.mk.injEq] at e; omega⟩
    · exact h.fail x y
theorem Few.up {m : Nat} {d : Dk} (h : Few m d) : Few (m + 1) d := ⟨Nat.le_succ_of_le h.ql, h.arm⟩
theorem Few.write {m : Nat} {d : Dk} (h : Few m d) (s : Int) (t : Tx) : Few (m + 1) (write d s t).2 := by
  unfold D.write
  split
  · exact h.up
  · split
    · exact h.up
    · split
      · exact h.up
      · exact Few.count ⟨by simp; exact h.ql, h.arm⟩
theorem Few.sync {m : Nat} {d : Dk} (h : Few m d) : Few m (sync d).2 := by
  unfold D.sync
  split
  · exact h
  · split
    · exact h.count
    · exact ⟨by simp, h.count.arm⟩
theorem Few.doA {m : Nat} {d : Dk} (h : Few m d) (a : AV) (hb : a.aft ≤ 9223372036854775807) : Few (m + 1) (doA d a).2 := by
  unfold D.doA
  split
  · exact h.write _ _
  · split
    · exact h.up
    · split
      · exact h.sync.up
      · split
        · exact (h.fail _ _).up
        · split
          · exact ⟨Nat.le_succ_of_le h.ql, fun a x y e => by cases e⟩
          · split
            · unfold armD
              split
              · exact h.up
              · refine ⟨Nat.le_succ_of_le h.ql, fun a' x y e => ?_⟩
                simp only at e
                split at e
                · simp only [Option.some.injEq, Prod.mk.injEq] at e; omega
                · cases e
            · split
              · unfold D.rot; split
                · exact ⟨Nat.le_succ_of_le h.ql, h.arm⟩
                · exact h.up
              · split <;> exact h.up
theorem few_new (n : Nat) : Few 0 (newD n) := ⟨by simp [newD], fun a x y e => by cases e⟩
theorem few_run {m : Nat} {d : Dk} (h : Few m d) : ∀ (l : List AV), (∀ a ∈ l, a.aft ≤ 9223372036854775807) → Few (m + l.length) (runD d l) := by
  intro l
  induction l generalizing m d with
  | nil => intro _; exact h
  | cons a l ih =>
    intro hl
    have := ih (h.doA a (hl a (List.mem_cons_self ..))) fun b hb => hl b (List.mem_cons_of_mem _ hb)
    rw [List.length_cons, show m + (l.length + 1) = m + 1 + l.length from by omega]
    exact this

end D
end Go.Proofs.Ytopjekdhecikdaa
