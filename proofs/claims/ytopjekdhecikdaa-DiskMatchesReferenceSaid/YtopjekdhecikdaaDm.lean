/- Disk: the machine in plain words, and its plain laws. -/
import Derived.Below
set_option linter.unusedSimpArgs false
set_option linter.unusedVariables false
set_option maxRecDepth 100000
namespace Go.Proofs.Ytopjekdhecikdaa
namespace D

abbrev Tx := List UInt8
structure Dk where
  st : Tx
  q : List (Nat × Tx)
  off : Bool
  arm : Option (Int × Int × Int)

def put (st : Tx) (s : Nat) (t : Tx) : Tx := st.take (s * 64) ++ (t ++ st.drop (s * 64 + t.length))
def sec (st : Tx) (s : Nat) : Tx := (st.drop (s * 64)).take 64
def settle (st : Tx) (q : List (Nat × Tx)) : Tx := q.foldl (fun a p => put a p.1 p.2) st
def torn (st : Tx) (q : List (Nat × Tx)) (n k : Nat) : Tx := match q[n]? with
  | none => st
  | some p => put st p.1 (p.2.take k)
def sects (d : Dk) : Nat := d.st.length / 64
def isAt (d : Dk) (s : Int) : Bool := decide (0 ≤ s) && decide (s < (sects d : Int))
def clip (x : Int) (n : Nat) : Nat := (min (max x 0) n).toNat
def fail (d : Dk) (wr by' : Int) : Dk :=
  if d.off = true then d else ⟨torn (settle d.st (d.q.take (clip wr d.q.length))) d.q (clip wr d.q.length) (clip by' 64), [], true, none⟩
def count (d : Dk) : Int × Dk := match d.arm with
  | none => (0, d)
  | some (a, w, b) => if 0 < a then (0, { d with arm := some (a - 1, w, b) }) else (21, fail d w b)
def write (d : Dk) (s : Int) (t : Tx) : Int × Dk :=
  if d.off = true then (21, d) else if isAt d s = false then (1, d) else if t.length ≠ 64 then (1, d) else count { d with q := d.q ++ [(s.toNat, t)] }
def look (q : List (Nat × Tx)) (s : Nat) (x : Tx) : Tx := q.foldl (fun acc p => if p.1 = s then p.2 else acc) x
def read (d : Dk) (s : Int) : Tx × Int :=
  if d.off = true then ([], 21) else if isAt d s = false then ([], 1) else (look d.q s.toNat (sec d.st s.toNat), 0)
def sync (d : Dk) : Int × Dk :=
  if d.off = true then (21, d) else if (count d).1 ≠ 0 then count d else (0, { (count d).2 with st := settle (count d).2.st (count d).2.q, q := [] })
def armD (d : Dk) (a w b : Int) : Dk := if d.off = true then d else { d with arm := if 0 ≤ a then some (a, w, b) else none }
def start (d : Dk) : Dk := { d with off := false, arm := none }
def rotAt (st : Tx) (i : Nat) (m : Int) : Tx := st.modify i (fun x => UInt8.ofNat (x.toNat ^^^ m.toNat))
def rotOk (d : Dk) (s at' m : Int) : Bool := isAt d s && (decide (0 ≤ at') && (decide (at' < 64) && (decide (0 < m) && decide (m < 256))))
def rot (d : Dk) (s at' m : Int) : Dk := if rotOk d s at' m = true then { d with st := rotAt d.st (s.toNat * 64 + at'.toNat) m } else d
def newD (n : Nat) : Dk := ⟨List.replicate (n * 64) 0, [], false, none⟩

structure Good (n : Nat) (d : Dk) : Prop where
  len : d.st.length = n * 64
  q : ∀ p ∈ d.q, p.1 < n ∧ p.2.length = 64

/-! ### Sectors -/
theorem length_put {st : Tx} {s : Nat} {t : Tx} (h : s * 64 + t.length ≤ st.length) : (put st s t).length = st.length := by
  simp [put]; omega
theorem sec_put_same {st : Tx} {s : Nat} {t : Tx} (ht : t.length = 64) (h : (s + 1) * 64 ≤ st.length) : sec (put st s t) s = t := by
  unfold sec put
  rw [List.drop_append, List.drop_of_length_le (by simp; omega), List.nil_append]
  simp only [List.length_take]
  rw [Nat.min_eq_left (by omega), Nat.sub_self, List.drop_zero, List.take_append]
  rw [List.take_of_length_le (by omega), ht]; simp
theorem sec_get {st : Tx} {s i : Nat} (hi : i < 64) : (sec st s)[i]? = st[s * 64 + i]? := by
  unfold sec
  rw [List.getElem?_take, if_pos hi, List.getElem?_drop]
theorem put_get {st : Tx} {s : Nat} {t : Tx} (h : s * 64 + t.length ≤ st.length) (i : Nat) :
    (put st s t)[i]? = if s * 64 ≤ i ∧ i < s * 64 + t.length then t[i - s * 64]? else st[i]? := by
  unfold put
  rw [List.getElem?_append, List.length_take, Nat.min_eq_left (by omega), List.getElem?_append]
  by_cases h1 : i < s * 64
  · rw [if_pos h1, List.getElem?_take, if_pos h1, if_neg (by omega)]
  · rw [if_neg h1]
    by_cases h2 : i - s * 64 < t.length
    · rw [if_pos h2, if_pos (by omega)]
    · rw [if_neg h2, if_neg (by omega), List.getElem?_drop]; congr 1; omega
theorem sec_len {st : Tx} {s : Nat} (h : (s + 1) * 64 ≤ st.length) : (sec st s).length = 64 := by
  simp [sec]; omega
theorem sec_put_other {st : Tx} {s s' : Nat} {t : Tx} (hne : s' ≠ s) (ht : t.length ≤ 64) (h : s * 64 + t.length ≤ st.length) : sec (put st s t) s' = sec st s' := by
  apply List.ext_getElem?
  intro i
  by_cases hi : i < 64
  · rw [sec_get hi, sec_get hi, put_get h, if_neg (by omega)]
  · have e : ∀ l : Tx, (sec l s')[i]? = none := fun l => by
      rw [List.getElem?_eq_none]; simp [sec]; omega
    rw [e, e]
theorem sec_put_part {st : Tx} {s : Nat} {t : Tx} (ht : t.length ≤ 64) (h : (s + 1) * 64 ≤ st.length) : sec (put st s t) s = t ++ (sec st s).drop t.length := by
  apply List.ext_getElem?
  intro i
  by_cases hi : i < 64
  · rw [sec_get hi, put_get (by omega), List.getElem?_append]
    by_cases h1 : i < t.length
    · rw [if_pos (by omega), if_pos h1]; congr 1; omega
    · rw [if_neg (by omega), if_neg h1, List.getElem?_drop, sec_get (by omega)]; congr 1; omega
  · rw [List.getElem?_eq_none (by simp [sec]; omega), List.getElem?_eq_none (by simp [sec]; omega)]
theorem put_nil (st : Tx) (s : Nat) : put st s [] = st := by simp [put]

theorem settle_cons (st : Tx) (p : Nat × Tx) (q : List (Nat × Tx)) : settle st (p :: q) = settle (put st p.1 p.2) q := rfl
theorem settle_append (st : Tx) (q r : List (Nat × Tx)) : settle st (q ++ r) = settle (settle st q) r := by simp [settle]
theorem length_settle {n : Nat} : ∀ {q : List (Nat × Tx)} {st : Tx}, st.length = n * 64 → (∀ p ∈ q, p.1 < n ∧ p.2.length = 64) → (settle st q).length = n * 64 := by
  intro q
  induction q with
  | nil => intro st h _; exact h
  | cons p q ih =>
    intro st h hq
    rw [settle_cons]
    have hp := hq p (List.mem_cons_self ..)
    exact ih (by rw [length_put (by omega)]; exact h) fun r hr => hq r (List.mem_cons_of_mem _ hr)
theorem sec_settle {n : Nat} : ∀ {q : List (Nat × Tx)} {st : Tx} (s : Nat), st.length = n * 64 → (∀ p ∈ q, p.1 < n ∧ p.2.length = 64) → sec (settle st q) s = look q s (sec st s) := by
  intro q
  induction q with
  | nil => intro st s _ _; rfl
  | cons p q ih =>
    intro st s h hq
    have hp := hq p (List.mem_cons_self ..)
    rw [settle_cons, ih s (by rw [length_put (by omega)]; exact h) fun r hr => hq r (List.mem_cons_of_mem _ hr)]
    unfold look
    rw [List.foldl_cons]
    by_cases e : p.1 = s
    · subst e; rw [if_pos rfl, sec_put_same hp.2 (by omega)]
    · rw [if_neg e, sec_put_other (fun h => e h.symm) (by omega) (by omega)]
theorem look_other {q : List (Nat × Tx)} {s : Nat} {x : Tx} (h : ∀ p ∈ q, p.1 ≠ s) : look q s x = x := by
  induction q generalizing x with
  | nil => rfl
  | cons p q ih =>
    unfold look
    rw [List.foldl_cons, if_neg (h p (List.mem_cons_self ..))]
    exact ih fun r hr => h r (List.mem_cons_of_mem _ hr)
theorem sec_settle_other {n : Nat} {q : List (Nat × Tx)} {st : Tx} {s : Nat} (h : st.length = n * 64) (hq : ∀ p ∈ q, p.1 < n ∧ p.2.length = 64) (hs : ∀ p ∈ q, p.1 ≠ s) : sec (settle st q) s = sec st s := by
  rw [sec_settle s h hq, look_other hs]
/-- The contents are what the sectors are. -/
theorem ext_sec {n : Nat} {a b : Tx} (ha : a.length = n * 64) (hb : b.length = n * 64) (h : ∀ s, s < n → sec a s = sec b s) : a = b := by
  apply List.ext_getElem?
  intro i
  rcases Nat.lt_or_ge i (n * 64) with hi | hi
  · have e := congrArg (fun l => l[i % 64]?) (h (i / 64) (by omega))
    rw [sec_get (Nat.mod_lt _ (by omega)), sec_get (Nat.mod_lt _ (by omega))] at e
    rw [show i / 64 * 64 + i % 64 = i from by omega] at e
    exact e
  · rw [List.getElem?_eq_none (by omega), List.getElem?_eq_none (by omega)]

/-! ### Good disks stay good -/
theorem sects_of {n : Nat} {d : Dk} (h : Good n d) : sects d = n := by unfold sects; rw [h.len]; omega
theorem isAt_of {n : Nat} {d : Dk} (h : Good n d) (s : Int) : isAt d s = (decide (0 ≤ s) && decide (s < n)) := by unfold isAt; rw [sects_of h]
theorem clip_le (x : Int) (n : Nat) : clip x n ≤ n := by unfold clip; omega
theorem length_torn {n : Nat} {st : Tx} {q : List (Nat × Tx)} {i k : Nat} (h : st.length = n * 64) (hq : ∀ p ∈ q, p.1 < n ∧ p.2.length = 64) : (torn st q i k).length = n * 64 := by
  unfold torn
  cases e : q[i]? with
  | none => exact h
  | some p =>
    have hp := hq p (List.mem_of_getElem? e)
    show (put st p.1 (p.2.take k)).length = _
    rw [length_put (by simp; omega)]; exact h
theorem mem_take {α : Type} {l : List α} {n : Nat} {P : α → Prop} (h : ∀ p ∈ l, P p) : ∀ p ∈ l.take n, P p := fun p hp => h p (List.mem_of_mem_take hp)
theorem Good.fail {n : Nat} {d : Dk} (h : Good n d) (w b : Int) : Good n (fail d w b) := by
  unfold D.fail
  split
  · exact h
  · exact ⟨length_torn (length_settle h.len (mem_take h.q)) h.q, fun p hp => by simp at hp⟩
theorem Good.count {n : Nat} {d : Dk} (h : Good n d) : Good n (count d).2 := by
  unfold D.count
  split
  · exact h
  · split
    · exact ⟨h.len, h.q⟩
    · exact h.fail _ _
theorem Good.write {n : Nat} {d : Dk} (h : Good n d) (s : Int) (t : Tx) : Good n (write d s t).2 := by
  unfold D.write
  split
  · exact h
  · split
    · exact h
    · split
      · exact h
      · rename_i h1 h2 h3
        rw [isAt_of h] at h2
        refine Good.count ⟨h.len, fun p hp => ?_⟩
        rcases List.mem_append.1 hp with hp | hp
        · exact h.q p hp
        · simp at hp; subst hp; simp at h2 h3 ⊢; omega
theorem Good.sync {n : Nat} {d : Dk} (h : Good n d) : Good n (sync d).2 := by
  unfold D.sync
  split
  · exact h
  · split
    · exact h.count
    · exact ⟨length_settle h.count.len h.count.q, fun p hp => by simp at hp⟩
theorem Good.arm {n : Nat} {d : Dk} (h : Good n d) (a w b : Int) : Good n (armD d a w b) := by
  unfold armD; split
  · exact h
  · exact ⟨h.len, h.q⟩
theorem Good.start {n : Nat} {d : Dk} (h : Good n d) : Good n (start d) := ⟨h.len, h.q⟩
theorem Good.rot {n : Nat} {d : Dk} (h : Good n d) (s a m : Int) : Good n (rot d s a m) := by
  unfold D.rot; split
  · exact ⟨by simp [rotAt, h.len], h.q⟩
  · exact h
theorem good_new (n : Nat) : Good n (newD n) := ⟨by simp [newD], fun p hp => by simp [newD] at hp⟩

/-- What is read: the sector of what all writes come to. -/
def eff (d : Dk) : Tx := settle d.st d.q
theorem Good.eff {n : Nat} {d : Dk} (h : Good n d) : (eff d).length = n * 64 := length_settle h.len h.q
theorem read_on {n : Nat} {d : Dk} (h : Good n d) (ho : d.off = false) (s : Nat) (hs : s < n) : read d s = (sec (eff d) s, 0) := by
  unfold read
  rw [if_neg (by simp [ho]), isAt_of h, if_neg (by simp; omega), eff, sec_settle _ h.len h.q]; simp
/-- All sectors. -/
def secs (n : Nat) (st : Tx) : List Tx := (List.range n).map (sec st)
def conts (n : Nat) (d : Dk) : List Tx := secs n (eff d)

end D
end Go.Proofs.Ytopjekdhecikdaa
