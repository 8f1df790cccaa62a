/- Trees: plain laws of the chapter's examples. -/
import Derived.Test.YthdjdlndfkemiaaGreatDoorTs
set_option linter.unusedSimpArgs false
set_option linter.unusedVariables false
set_option maxRecDepth 100000
namespace Go.Proofs.YthdjdlndfkemiaaGreatDoor
open Go.RowKit
namespace S

section
variable (a b c : Tx)
theorem hf3 : hf 3 = 2 := rfl
theorem hf2 : hf 2 = 1 := rfl
theorem root2 : rootT [a, b] = node a b := by
  rw [root_step (l := [a, b]) (by simp)]
  show node (rootT [a]) (rootT [b]) = _
  rw [root_one, root_one]
theorem root3 : rootT [a, b, c] = node (node a b) c := by
  rw [root_step (l := [a, b, c]) (by simp)]
  show node (rootT [a, b]) (rootT [c]) = _
  rw [root2, root_one]
theorem path3_2 : pathT [a, b, c] 2 = [node a b] := by
  rw [path_right (l := [a, b, c]) (by simp) (by show ¬ 2 < 2; omega)]
  show pathT [c] 0 ++ [rootT [a, b]] = _
  rw [path_one _ (by simp), root2]; rfl
theorem path3_0 : pathT [a, b, c] 0 = [b, c] := by
  rw [path_left (l := [a, b, c]) (by simp) (by show 0 < 2; omega)]
  show pathT [a, b] 0 ++ [rootT [c]] = _
  rw [path_left (l := [a, b]) (by simp) (by show 0 < 1; omega)]
  show (pathT [a] 0 ++ [rootT [b]]) ++ [rootT [c]] = _
  rw [path_one _ (by simp), root_one, root_one]; rfl
theorem lnk3_2 : lnk [a, b, c] 2 = [c] := by
  unfold lnk
  rw [if_neg (by omega), link_left (l := [a, b, c]) true (by simp) (by simp) (by show 2 ≤ 2; omega)]
  show linkT [a, b] 2 true ++ [rootT [c]] = _
  rw [link_end (l := [a, b]) true (by simp), root_one]; rfl
theorem lnk3_1 : lnk [a, b, c] 1 = [b, c] := by
  unfold lnk
  rw [if_neg (by omega), link_left (l := [a, b, c]) true (by simp) (by simp) (by show 1 ≤ 2; omega)]
  show linkT [a, b] 1 true ++ [rootT [c]] = _
  rw [link_left (l := [a, b]) true (by simp) (by simp) (by show 1 ≤ 1; omega)]
  show (linkT [a] 1 true ++ [rootT [b]]) ++ [rootT [c]] = _
  rw [link_end (l := [a]) true (by simp), root_one, root_one, root_one]; rfl
theorem up3_2 (d x : Tx) : upT 3 2 d [x] = node x d := by
  rw [up_right d [x] (n := 3) (i := 2) (by omega) (by show ¬ 2 < 2; omega)]
  show node x (upT 1 0 d []) = _
  rw [up_one _ _ _ (by omega)]
theorem len3_2 : lenT 3 2 = 1 := by
  rw [len_right (n := 3) (i := 2) (by omega) (by show ¬ 2 < 2; omega)]
  show 1 + lenT 1 0 = 1
  rw [len_one _ (by omega)]
theorem both3_1 (old x y : Tx) : bothT 3 1 true old [y, x] = (old, node (node old x) y) := by
  rw [both_left (n := 3) (m := 1) true old [y, x] (by omega) (by omega) (by show 1 ≤ 2; omega)]
  show ((bothT 2 1 true old [x]).1, node (bothT 2 1 true old [x]).2 y) = _
  rw [both_left (n := 2) (m := 1) true old [x] (by omega) (by omega) (by show 1 ≤ 1; omega)]
  show ((bothT 1 1 true old []).1, node (node (bothT 1 1 true old []).2 x) y) = _
  rw [both_end (n := 1) (m := 1) _ _ _ (by omega)]; rfl
theorem long3_1 : longT 3 1 true = 2 := by
  rw [long_left (n := 3) (m := 1) true (by omega) (by omega) (by show 1 ≤ 2; omega)]
  show 1 + longT 2 1 true = 2
  rw [long_left (n := 2) (m := 1) true (by omega) (by omega) (by show 1 ≤ 1; omega)]
  show 1 + (1 + longT 1 1 true) = 2
  rw [long_end (n := 1) (m := 1) _ (by omega)]; rfl
theorem isD_node (a b : Tx) : isD (node a b) = true := isD_sum _
theorem check3 (d x r : Tx) (hx : isD x = true) (hd : isD d = true) : checkB r 3 2 d [x] = (node x d == r) := by
  unfold checkB
  rw [show ((3 : Int).toNat) = 3 from rfl, show ((2 : Int).toNat) = 2 from rfl, List.reverse_singleton, up3_2, len3_2, hd]
  simp [hx]
theorem ext3 (old x y r : Tx) (ho : isD old = true) (hx : isD x = true) (hy : isD y = true) (hr : isD r = true) : extB old 1 r 3 [x, y] = (node (node old x) y == r) := by
  unfold extB
  rw [show ((3 : Int).toNat) = 3 from rfl, show ((1 : Int).toNat) = 1 from rfl, show [x, y].reverse = [y, x] from rfl, both3_1, long3_1, ho, hr]
  simp [hx, hy]
end
def aT : Tx := leaf [97]
def bT : Tx := leaf [98]
def cT : Tx := leaf [99]
theorem neg1 : (node (node aT bT) bT == node (node aT bT) cT) = false := by decide +kernel
theorem neg2 : (node (node bT bT) cT == node (node aT bT) cT) = false := by decide +kernel
theorem notD : isD [120] = false := by decide
theorem aD : isD aT = true := isD_sum _
theorem bD : isD bT = true := isD_sum _
theorem cD : isD cT = true := isD_sum _

end S
end Go.Proofs.YthdjdlndfkemiaaGreatDoor

/- Trees: the walk of the law's 'head'. -/
namespace Go.Proofs.YthdjdlndfkemiaaGreatDoor
open Go.RowKit
namespace S

def LT (w' : World) (e : Ending) (n : Nat) (l : List Tx) : Prop := ∃ A c, e = .returned (.tuple #[.slice A n c, .int .i64 0]) ∧ Lst w' A n c l
theorem LstT.lt {w w' : World} {e : Ending} {l m : List Tx} (h : LstT w w' e l) (he : l = m) : LT w' e m.length m := by subst he; exact h
theorem toLT {f : Nat} {args : Array Value} {W : World} {l m : List Tx} {n : Nat} (h : Calls Tryz.prog f args W fun e w' => LstT W w' e l ∧ Below W.heap.size W w') (he : l = m) (hn : m.length = n) :
    Calls Tryz.prog f args W fun e w' => LT w' e n m ∧ Below W.heap.size W w' := by
  subst he hn; exact h
end S
end Go.Proofs.YthdjdlndfkemiaaGreatDoor
