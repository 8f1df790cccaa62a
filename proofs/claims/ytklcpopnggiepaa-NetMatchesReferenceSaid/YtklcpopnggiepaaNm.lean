/- Net: the network in plain words, and its plain laws. No Go in sight. -/
import Derived.Below
set_option linter.unusedSimpArgs false
set_option linter.unusedVariables false
set_option maxRecDepth 100000
namespace Go.Proofs.Ytklcpopnggiepaa
namespace N

abbrev Tx := List UInt8
structure Nt where
  n : Int
  q : Int → Int → List Tx
  c : Int → Int → Bool

def okP (n a b : Int) : Bool := decide (a ≠ b) && (decide (0 ≤ a) && decide (a < n) && (decide (0 ≤ b) && decide (b < n)))
theorem okP_iff {n a b : Int} : okP n a b = true ↔ a ≠ b ∧ (0 ≤ a ∧ a < n) ∧ (0 ≤ b ∧ b < n) := by simp [okP, and_assoc]
theorem okP_swap (n a b : Int) : okP n b a = okP n a b := by
  rw [Bool.eq_iff_iff, okP_iff, okP_iff]; omega
def at2 {α : Type} (f : Int → Int → α) (a b : Int) (v : α) : Int → Int → α := fun x y => if x = a ∧ y = b then v else f x y
theorem at2_same {α : Type} (f : Int → Int → α) (a b : Int) (v : α) : at2 f a b v a b = v := by simp [at2]
theorem at2_other {α : Type} (f : Int → Int → α) (a b : Int) (v : α) {x y : Int} (h : ¬ (x = a ∧ y = b)) : at2 f a b v x y = f x y := by simp [at2, h]
def both {α : Type} (f : Int → Int → α) (a b : Int) (v : α) : Int → Int → α := at2 (at2 f a b v) b a v
def cutAt (l : List Tx) (k : Nat) : List Tx := l.take k ++ l.drop (k + 1)

def newN (n : Int) : Nt := ⟨n, fun _ _ => [], fun _ _ => false⟩
def send (d : Nt) (a b : Int) (t : Tx) : Int × Nt :=
  if okP d.n a b = false then (1, d) else if 20000 < t.length then (1, d) else if d.c a b = true then (23, d)
  else if 100 ≤ (d.q a b).length then (22, d) else (0, { d with q := at2 d.q a b (d.q a b ++ [t]) })
def inQ (d : Nt) (a b k : Int) : Bool := okP d.n a b && (decide (0 ≤ k) && decide (k < (d.q a b).length))
def delT (d : Nt) (a b k : Int) (lost : Bool) : Tx × Bool := if inQ d a b k = false then ([], false) else if lost = true then ([], false) else ((d.q a b).getD k.toNat [], true)
def cutD (d : Nt) (a b k : Int) : Nt := { d with q := at2 d.q a b (cutAt (d.q a b) k.toNat) }
def delD (d : Nt) (a b k : Int) (lost again : Bool) : Nt := if inQ d a b k = false then d else if (lost || !again) = true then cutD d a b k else d
def deliver (d : Nt) (a b k : Int) (lost again : Bool) : (Tx × Bool) × Nt := (delT d a b k lost, delD d a b k lost again)
def waiting (d : Nt) (a b : Int) : List Tx := if okP d.n a b = true then d.q a b else []
def turn (d : Nt) (a b : Int) (cut : Bool) : Int × Nt :=
  if okP d.n a b = false then (1, d) else if d.c a b = cut then (11, d)
  else (0, { d with c := both d.c a b cut, q := if cut = true then both d.q a b [] else d.q })

/-- A step, and what it returns. -/
structure SV where
  kind : Int
  a : Int
  b : Int
  n : Int
  text : Tx
  lost : Bool
  again : Bool
structure RV where
  err : Int
  text : Tx
  ok : Bool
deriving DecidableEq
def doN (d : Nt) (x : SV) : RV × Nt :=
  if x.kind = 0 then (⟨(send d x.a x.b x.text).1, [], false⟩, (send d x.a x.b x.text).2)
  else if x.kind = 1 then (⟨0, (deliver d x.a x.b x.n x.lost x.again).1.1, (deliver d x.a x.b x.n x.lost x.again).1.2⟩, (deliver d x.a x.b x.n x.lost x.again).2)
  else if x.kind = 2 then (⟨(turn d x.a x.b true).1, [], false⟩, (turn d x.a x.b true).2)
  else (⟨(turn d x.a x.b false).1, [], false⟩, (turn d x.a x.b false).2)
def runN (d : Nt) : List SV → Nt
  | [] => d
  | x :: l => runN (doN d x).2 l
theorem runN_snoc (d : Nt) (l : List SV) (x : SV) : runN d (l ++ [x]) = (doN (runN d l) x).2 := by
  induction l generalizing d with
  | nil => rfl
  | cons y l ih => exact ih _

/-! ### What stays -/
/-- Not many texts wait, and none is long. -/
structure Fits (m k : Nat) (d : Nt) : Prop where
  n1 : 1 ≤ d.n
  n8 : d.n ≤ 8
  ql : ∀ a b, (d.q a b).length ≤ m
  tl : ∀ a b, ∀ t ∈ d.q a b, t.length ≤ k
theorem fits_new {n : Int} (h1 : 1 ≤ n) (h8 : n ≤ 8) (m k : Nat) : Fits m k (newN n) := ⟨h1, h8, fun _ _ => Nat.zero_le _, fun _ _ t h => by cases h⟩
theorem cutAt_len (l : List Tx) (k : Nat) : (cutAt l k).length ≤ l.length := by simp [cutAt]; omega
theorem cutAt_mem {l : List Tx} {k : Nat} {t : Tx} (h : t ∈ cutAt l k) : t ∈ l := by
  rcases List.mem_append.1 h with h | h
  · exact List.mem_of_mem_take h
  · exact List.mem_of_mem_drop h
theorem Fits.send {m k : Nat} {d : Nt} (h : Fits m k d) (hm : 100 ≤ m) (a b : Int) {t : Tx} (ht : t.length ≤ k) : Fits m k (send d a b t).2 := by
  unfold N.send
  split
  · exact h
  · split
    · exact h
    · split
      · exact h
      · split
        · exact h
        · refine ⟨h.n1, h.n8, fun x y => ?_, fun x y u hu => ?_⟩
          · simp only [at2]; split
            · simp; omega
            · exact h.ql x y
          · simp only [at2] at hu; split at hu
            · rcases List.mem_append.1 hu with hu | hu
              · exact h.tl _ _ u hu
              · simp at hu; subst hu; exact ht
            · exact h.tl x y u hu
theorem Fits.deliver {m k : Nat} {d : Nt} (h : Fits m k d) (a b i : Int) (lost again : Bool) : Fits m k (deliver d a b i lost again).2 := by
  show Fits m k (delD d a b i lost again)
  unfold N.delD
  split
  · exact h
  · split
    · refine ⟨h.n1, h.n8, fun x y => ?_, fun x y u hu => ?_⟩
      · simp only [at2, cutD]; split
        · exact Nat.le_trans (cutAt_len _ _) (h.ql a b)
        · exact h.ql x y
      · simp only [at2, cutD] at hu; split at hu
        · exact h.tl _ _ u (cutAt_mem hu)
        · exact h.tl x y u hu
    · exact h
theorem Fits.turn {m k : Nat} {d : Nt} (h : Fits m k d) (a b : Int) (cut : Bool) : Fits m k (turn d a b cut).2 := by
  unfold N.turn
  split
  · exact h
  · split
    · exact h
    · cases cut
      · exact ⟨h.n1, h.n8, h.ql, h.tl⟩
      · refine ⟨h.n1, h.n8, fun x y => ?_, fun x y u hu => ?_⟩
        · simp only [both, at2, if_true]; split
          · simp
          · split
            · simp
            · exact h.ql x y
        · simp only [both, at2, if_true] at hu; split at hu
          · cases hu
          · split at hu
            · cases hu
            · exact h.tl x y u hu
theorem Fits.doN {m k : Nat} {d : Nt} (h : Fits m k d) (hm : 100 ≤ m) {x : SV} (hx : x.text.length ≤ k) : Fits m k (doN d x).2 := by
  unfold N.doN
  split
  · exact h.send hm _ _ hx
  · split
    · exact h.deliver _ _ _ _ _
    · split
      · exact h.turn _ _ _
      · exact h.turn _ _ _
theorem send_n (d : Nt) (a b : Int) (t : Tx) : (send d a b t).2.n = d.n := by unfold send; split; rfl; split; rfl; split; rfl; split <;> rfl
theorem deliver_n (d : Nt) (a b i : Int) (lost again : Bool) : (deliver d a b i lost again).2.n = d.n := by show (delD d a b i lost again).n = d.n; unfold delD; split; rfl; split <;> rfl
theorem turn_n (d : Nt) (a b : Int) (cut : Bool) : (turn d a b cut).2.n = d.n := by unfold turn; split; rfl; split <;> rfl
theorem doN_n (d : Nt) (x : SV) : (doN d x).2.n = d.n := by
  unfold doN; split; exact send_n ..; split; exact deliver_n ..; split <;> exact turn_n ..

end N
end Go.Proofs.Ytklcpopnggiepaa
