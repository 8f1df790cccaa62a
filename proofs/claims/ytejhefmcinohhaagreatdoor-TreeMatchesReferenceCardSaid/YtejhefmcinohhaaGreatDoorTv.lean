/- Trees: plain laws of the chapter's examples. -/
import Derived.Test.YtejhefmcinohhaaGreatDoorTs
set_option linter.unusedSimpArgs false
set_option linter.unusedVariables false
set_option maxRecDepth 100000
namespace Go.Proofs.YtejhefmcinohhaaGreatDoor
open Go.RowKit
namespace S

section
variable (a b c : Tx)
theorem hf3 : hf 3 = 2 := rfl
theorem hf2 : hf 2 = 1 := rfl
theorem root2 : rootT [a, b] = node a b := by
  rw [root_step (l := [a, b]) (by simp)]
  show node (rootT [a]) (rootT [b]) = _
  rw [root_one, root_one]
theorem root3 : rootT [a, b, c] = node (node a b) c := by
  rw [root_step (l := [a, b, c]) (by simp)]
  show node (rootT [a, b]) (rootT [c]) = _
  rw [root2, root_one]
theorem path3_2 : pathT [a, b, c] 2 = [node a b] := by
  rw [path_right (l := [a, b, c]) (by simp) (by show ¬ 2 < 2; omega)]
  show pathT [c] 0 ++ [rootT [a, b]] = _
  rw [path_one _ (by simp), root2]; rfl
theorem path3_0 : pathT [a, b, c] 0 = [b, c] := by
  rw [path_left (l := [a, b, c]) (by simp) (by show 0 < 2; omega)]
  show pathT [a, b] 0 ++ [rootT [c]] = _
  rw [path_left (l := [a, b]) (by simp) (by show 0 < 1; omega)]
  show (pathT [a] 0 ++ [rootT [b]]) ++ [rootT [c]] = _
  rw [path_one _ (by simp), root_one, root_one]; rfl
theorem lnk3_2 : lnk [a, b, c] 2 = [c] := by
  unfold lnk
  rw [if_neg (by omega), link_left (l := [a, b, c]) true (by simp) (by simp) (by show 2 ≤ 2; omega)]
  show linkT [a, b] 2 true ++ [rootT [c]] = _
  rw [link_end (l := [a, b]) true (by simp), root_one]; rfl
theorem lnk3_1 : lnk [a, b, c] 1 = [b, c] := by
  unfold lnk
  rw [if_neg (by omega), link_left (l := [a, b, c]) true (by simp) (by simp) (by show 1 ≤ 2; omega)]
  show linkT [a, b] 1 true ++ [rootT [c]] = _
  rw [link_left (l := [a, b]) true (by simp) (by simp) (by show 1 ≤ 1; omega)]
  show (linkT [a] 1 true ++ [rootT [b]]) ++ [rootT [c]] = _
  rw [link_end (l := [a]) true (by simp), root_one, root_one, root_one]; rfl
theorem up3_2 (d x : Tx) : upT 3 2 d [x] = node x d := by
  rw [up_right d [x] (n := 3) (i := 2) (by omega) (by show ¬ 2 < 2; omega)]
  show node x (upT 1 0 d []) = _
  rw [up_one _ _ _ (by omega)]
theorem len3_2 : lenT 3 2 = 1 := by
  rw [len_right (n := 3) (i := 2) (by omega) (by show ¬ 2 < 2; omega)]
  show 1 + lenT 1 0 = 1
  rw [len_one _ (by omega)]
theorem both3_1 (old x y : Tx) : bothT 3 1 true old [y, x] = (old, node (node old x) y) := by
  rw [both_left (n := 3) (m := 1) true old [y, x] (by omega) (by omega) (by show 1 ≤ 2; omega)]
  show ((bothT 2 1 true old [x]).1, node (bothT 2 1 true old [x]).2 y) = _
  rw [both_left (n := 2) (m := 1) true old [x] (by omega) (by omega) (by show 1 ≤ 1; omega)]
  show ((bothT 1 1 true old []).1, node (node (bothT 1 1 true old []).2 x) y) = _
  rw [both_end (n := 1) (m := 1) _ _ _ (by omega)]; rfl
theorem long3_1 : longT 3 1 true = 2 := by
  rw [long_left (n := 3) (m := 1) true (by omega) (by omega) (by show 1 ≤ 2; omega)]
  show 1 + longT 2 1 true = 2
  rw [long_left (n := 2) (m := 1) true (by omega) (by omega) (by show 1 ≤ 1; omega)]
  show 1 + (1 + longT 1 1 true) = 2
  rw [long_end (n := 1) (m := 1) _ (by omega)]; rfl
theorem isD_node (a b : Tx) : isD (node a b) = true := isD_sum _
theorem check3 (d x r : Tx) (hx : isD x = true) (hd : isD d = true) : checkB r 3 2 d [x] = (node x d == r) := by
  unfold checkB
  rw [show ((3 : Int).toNat) = 3 from rfl, show ((2 : Int).toNat) = 2 from rfl, List.reverse_singleton, up3_2, len3_2, hd]
  simp [hx]
theorem ext3 (old x y r : Tx) (ho : isD old = true) (hx : isD x = true) (hy : isD y = true) (hr : isD r = true) : extB old 1 r 3 [x, y] = (node (node old x) y == r) := by
  unfold extB
  rw [show ((3 : Int).toNat) = 3 from rfl, show ((1 : Int).toNat) = 1 from rfl, show [x, y].reverse = [y, x] from rfl, both3_1, long3_1, ho, hr]
  simp [hx, hy]
end
def aT : Tx := leaf [97]
def bT : Tx := leaf [98]
def cT : Tx := leaf [99]
theorem neg1 : (node (node aT bT) bT == node (node aT bT) cT) = false := by decide +kernel
theorem neg2 : (node (node bT bT) cT == node (node aT bT) cT) = false := by decide +kernel
theorem notD : isD [120] = false := by decide
theorem aD : isD aT = true := isD_sum _
theorem bD : isD bT = true := isD_sum _
theorem cD : isD cT = true := isD_sum _

end S
end Go.Proofs.YtejhefmcinohhaaGreatDoor

/- Trees: the walk of the law's 'head'. -/
namespace Go.Proofs.YtejhefmcinohhaaGreatDoor
open Go.RowKit
namespace S

def LT (w' : World) (e : Ending) (n : Nat) (l : List Tx) : Prop := ∃ A c, e = .returned (.tuple #[.slice A n c, .int .i64 0]) ∧ Lst w' A n c l
theorem LstT.lt {w w' : World} {e : Ending} {l m : List Tx} (h : LstT w w' e l) (he : l = m) : LT w' e m.length m := by subst he; exact h
theorem toLT {f : Nat} {args : Array Value} {W : World} {l m : List Tx} {n : Nat} (h : Calls Tryz.prog f args W fun e w' => LstT W w' e l ∧ Below W.heap.size W w') (he : l = m) (hn : m.length = n) :
    Calls Tryz.prog f args W fun e w' => LT w' e n m ∧ Below W.heap.size W w' := by
  subst he hn; exact h
set_option maxHeartbeats 8000000 in
theorem head_walk (a b c : Tx) (ea : leaf [97] = a) (eb : leaf [98] = b) (ec : leaf [99] = c) (da : isD a = true) (db : isD b = true) (dc : isD c = true) (n1 : (node (node a b) b == node (node a b) c) = false) (n2 : (node (node b b) c == node (node a b) c) = false) (w : World) (ht : Tabs w) :
    Calls Tryz.prog 4 #[] w fun e w' => e = .returned (.bool true) ∧ Below w.heap.size w w' := by
  have HT := Lib.hid ht
  have HB := Lib.hid (Below.refl w.heap.size w)
  have hstl := str_toList
  have D3 : Hid ([a, b, c].all isD = true) := by unfold Hid; simp [da, db, dc]
  have tb : ∀ t : Tx, isD t = true → t.length ≤ 9223372036854775807 := fun t h => by have := isD_sm h; unfold Sm at this; omega
  have TBd : Hid (∀ t : Tx, isD t = true → t.length ≤ 9223372036854775807) := tb
  have DD := Lib.hid (And.intro da (And.intro db (And.intro dc (And.intro n1 n2))))
  have EE := Lib.hid (And.intro ea (And.intro eb ec))
  obtain ⟨ab, hab⟩ : ∃ ab, ab = node a b := ⟨_, rfl⟩
  obtain ⟨al, hal⟩ : ∃ al, al = node ab c := ⟨_, rfl⟩
  have dab : Hid (isD ab = true) := by unfold Hid; rw [hab]; exact isD_node _ _
  have dal : Hid (isD al = true) := by unfold Hid; rw [hal]; exact isD_node _ _
  have HAB := Lib.hid hab
  have HAL := Lib.hid hal
  clear ht da db dc n1 n2 ea eb ec tb hab hal
  have smD : Hid (∀ t : Tx, isD t = true → t.length ≤ 1000000) := fun t h => by have := isD_sm h; unfold Sm at this; omega
  go_enter Tryz.func4, Tryz.ntmps4
  have HQ : Hid (Calls Tryz.prog 12 #[.string { data := #[97] }] w fun e w' => (e = .returned (.string (str a))) ∧ Below w.heap.size w w') := by
    refine ((by rw [← EE.out.1]; exact leaf_any [97] _ HT.out (by simp) : Calls Tryz.prog 12 #[.string { data := #[97] }] _ (fun e w' => e = .returned (.string (str a)) ∧ Below _ _ w'))).mono ?_
    rintro e w' ⟨h1, hb⟩
    exact ⟨h1, hb⟩
  go_wp2_with fail
  (with_reducible refine HQ.out.mono ?_); rintro e w1 ⟨rfl, hb⟩
  replace HB := Lib.hid (HB.out.trans (hb.mono HB.out.size))
  replace HT := Lib.hid (HT.out.below hb)
  clear hb HQ
  have HQ : Hid (Calls Tryz.prog 12 #[.string { data := #[98] }] w1 fun e w' => (e = .returned (.string (str b))) ∧ Below w1.heap.size w1 w') := by
    refine ((by rw [← EE.out.2.1]; exact leaf_any [98] _ HT.out (by simp) : Calls Tryz.prog 12 #[.string { data := #[98] }] _ (fun e w' => e = .returned (.string (str b)) ∧ Below _ _ w'))).mono ?_
    rintro e w' ⟨h1, hb⟩
    exact ⟨h1, hb⟩
  go_wp2_with fail
  (with_reducible refine HQ.out.mono ?_); rintro e w2 ⟨rfl, hb⟩
  replace HB := Lib.hid (HB.out.trans (hb.mono HB.out.size))
  replace HT := Lib.hid (HT.out.below hb)
  clear hb HQ
  have HQ : Hid (Calls Tryz.prog 12 #[.string { data := #[99] }] w2 fun e w' => (e = .returned (.string (str c))) ∧ Below w2.heap.size w2 w') := by
    refine ((by rw [← EE.out.2.2]; exact leaf_any [99] _ HT.out (by simp) : Calls Tryz.prog 12 #[.string { data := #[99] }] _ (fun e w' => e = .returned (.string (str c)) ∧ Below _ _ w'))).mono ?_
    rintro e w' ⟨h1, hb⟩
    exact ⟨h1, hb⟩
  go_wp2_with fail
  (with_reducible refine HQ.out.mono ?_); rintro e w3 ⟨rfl, hb⟩
  replace HB := Lib.hid (HB.out.trans (hb.mono HB.out.size))
  replace HT := Lib.hid (HT.out.below hb)
  clear hb HQ
  have HL0 : Hid (Lst (w3.alloc (.cells #[.string (str a), .string (str b), .string (str c)] 9)) (some ⟨w3.heap.size, 0, none⟩) 3 3 [a, b, c]) := Lst.lit [a, b, c] (n := 3) rfl (by omega) (Reg.Blk.new w3 _ _)
  obtain ⟨g, hg⟩ : ∃ g, g = w3.heap.size := ⟨_, rfl⟩
  clear hg
  have hal : Hid (Below w3.heap.size w3 (w3.alloc (.cells #[.string (str a), .string (str b), .string (str c)] 9))) := (Below.refl _ _).alloc (Nat.le_refl _) _
  replace HB := Lib.hid (HB.out.trans (hal.out.mono HB.out.size))
  replace HT := Lib.hid (HT.out.below hal.out)
  have HQ : Hid (Calls Tryz.prog 8 #[.slice (some ⟨w3.heap.size, 0, none⟩) 3 3, .int .i64 2] (w3.alloc (.cells #[.string (str a), .string (str b), .string (str c)] 9)) fun e w' => (LT w' e 1 [ab]) ∧ Below (w3.alloc (.cells #[.string (str a), .string (str b), .string (str c)] 9)).heap.size (w3.alloc (.cells #[.string (str a), .string (str b), .string (str c)] 9)) w') := by
    refine ((toLT (path_L 2 HL0.out (by omega) HT.out D3.out (by omega)) (by rw [path3_2, ← HAB.out]) rfl)).mono ?_
    rintro e w' ⟨h1, hb⟩
    exact ⟨h1, hb⟩
  clear hal
  go_wp2_with fail
  (with_reducible refine HQ.out.mono ?_); rintro e w4 ⟨⟨Ap, cp, rfl, hp⟩, hb⟩
  replace HB := Lib.hid (HB.out.trans (hb.mono HB.out.size))
  replace HT := Lib.hid (HT.out.below hb)
  replace HL0 := Lib.hid (HL0.out.below hb)
  have HP := Lib.hid hp
  clear hb HQ hp
  have HQ : Hid (Calls Tryz.prog 8 #[.slice (some ⟨w3.heap.size, 0, none⟩) 3 3, .int .i64 0] w4 fun e w' => (LT w' e 2 [b, c]) ∧ Below w4.heap.size w4 w') := by
    refine ((toLT (path_L 0 HL0.out (by omega) HT.out D3.out (by omega)) (path3_0 a b c) rfl)).mono ?_
    rintro e w' ⟨h1, hb⟩
    exact ⟨h1, hb⟩
  go_wp2_with fail
  (with_reducible refine HQ.out.mono ?_); rintro e w5 ⟨⟨Aq, cq, rfl, hq⟩, hb⟩
  replace HB := Lib.hid (HB.out.trans (hb.mono HB.out.size))
  replace HT := Lib.hid (HT.out.below hb)
  replace HL0 := Lib.hid (HL0.out.below hb)
  replace HP := Lib.hid (HP.out.below hb)
  have HQ2 := Lib.hid hq
  clear hq
  clear hb HQ
  have HQ : Hid (Calls Tryz.prog 10 #[.slice (some ⟨w3.heap.size, 0, none⟩) 3 3, .int .i64 2] w5 fun e w' => (LT w' e 1 [c]) ∧ Below w5.heap.size w5 w') := by
    refine ((toLT (link_L 2 HL0.out (by omega) HT.out D3.out (by omega)) (lnk3_2 a b c) rfl)).mono ?_
    rintro e w' ⟨h1, hb⟩
    exact ⟨h1, hb⟩
  go_wp2_with fail
  (with_reducible refine HQ.out.mono ?_); rintro e w6 ⟨⟨Am, cm, rfl, hm⟩, hb⟩
  replace HB := Lib.hid (HB.out.trans (hb.mono HB.out.size))
  replace HT := Lib.hid (HT.out.below hb)
  replace HL0 := Lib.hid (HL0.out.below hb)
  replace HP := Lib.hid (HP.out.below hb)
  replace HQ2 := Lib.hid (HQ2.out.below hb)
  have HM := Lib.hid hm
  clear hm
  clear hb HQ
  have HQ : Hid (Calls Tryz.prog 10 #[.slice (some ⟨w3.heap.size, 0, none⟩) 3 3, .int .i64 1] w6 fun e w' => (LT w' e 2 [b, c]) ∧ Below w6.heap.size w6 w') := by
    refine ((toLT (link_L 1 HL0.out (by omega) HT.out D3.out (by omega)) (lnk3_1 a b c) rfl)).mono ?_
    rintro e w' ⟨h1, hb⟩
    exact ⟨h1, hb⟩
  go_wp2_with fail
  (with_reducible refine HQ.out.mono ?_); rintro e w7 ⟨⟨An, cn, rfl, hn⟩, hb⟩
  replace HB := Lib.hid (HB.out.trans (hb.mono HB.out.size))
  replace HT := Lib.hid (HT.out.below hb)
  replace HL0 := Lib.hid (HL0.out.below hb)
  replace HP := Lib.hid (HP.out.below hb)
  replace HQ2 := Lib.hid (HQ2.out.below hb)
  replace HM := Lib.hid (HM.out.below hb)
  have HN := Lib.hid hn
  clear hn
  clear hb HQ
  have HQ : Hid (Calls Tryz.prog 8 #[.slice (some ⟨w3.heap.size, 0, none⟩) 3 3, .int .i64 3] w7 fun e w' => (e = .returned (.tuple #[.slice none 0 0, .int .i64 1])) ∧ Below w7.heap.size w7 w') := by
    refine (pathno_L 3 HL0.out (by omega) (fun t ht => TBd.out t (List.all_eq_true.1 D3.out t ht)) (by unfold pathOk; rw [D3.out]; rfl)).mono ?_
    rintro e w' ⟨h1, hb⟩
    exact ⟨h1, hb⟩
  go_wp2_with fail
  (with_reducible refine HQ.out.mono ?_); rintro e w8 ⟨rfl, hb⟩
  replace HB := Lib.hid (HB.out.trans (hb.mono HB.out.size))
  replace HT := Lib.hid (HT.out.below hb)
  replace HL0 := Lib.hid (HL0.out.below hb)
  replace HP := Lib.hid (HP.out.below hb)
  replace HQ2 := Lib.hid (HQ2.out.below hb)
  replace HM := Lib.hid (HM.out.below hb)
  replace HN := Lib.hid (HN.out.below hb)
  clear hb HQ
  have HQ : Hid (Calls Tryz.prog 6 #[.slice (some ⟨w8.heap.size, 0, none⟩) 1 1] (w8.alloc (.cells #[.string { data := #[120] }] 9)) fun e w' => (e = .returned (.tuple #[.string (str []), .int .i64 1])) ∧ Below w8.heap.size w8 w') := by
    have hal : Below w8.heap.size w8 (w8.alloc (.cells #[.string { data := #[120] }] 9)) := (Below.refl _ _).alloc (Nat.le_refl _) _
    have hnb := Reg.Blk.new w8 #[.string { data := #[120] }] 9
    refine ((by have h := root_L (Lst.lit [[120]] (n := 1) rfl (by omega) hnb) (by omega) (HT.out.below hal) (fun t ht => by simp at ht; subst ht; simp); rw [if_neg (by simp [notD])] at h; exact h : Calls Tryz.prog 6 #[.slice (some ⟨w8.heap.size, 0, none⟩) 1 1] _ (fun e w' => e = .returned (.tuple #[.string (str []), .int .i64 1]) ∧ Below _ _ w'))).mono ?_
    rintro e w' ⟨h1, hb⟩
    exact ⟨h1, hal.trans (hb.mono hal.size)⟩
  go_wp2_with fail
  (with_reducible refine HQ.out.mono ?_); rintro e w9 ⟨rfl, hb⟩
  replace HB := Lib.hid (HB.out.trans (hb.mono HB.out.size))
  replace HT := Lib.hid (HT.out.below hb)
  replace HL0 := Lib.hid (HL0.out.below hb)
  replace HP := Lib.hid (HP.out.below hb)
  replace HQ2 := Lib.hid (HQ2.out.below hb)
  replace HM := Lib.hid (HM.out.below hb)
  replace HN := Lib.hid (HN.out.below hb)
  clear hb HQ
  have HQ : Hid (Calls Tryz.prog 19 #[.slice (some ⟨w9.heap.size, 0, none⟩) 3 3] (w9.alloc (.cells #[.string { data := #[110, 111, 100, 101] }, .string (str a), .string (str b)] 9)) fun e w' => e = .returned (.string (str ab)) ∧ Below w9.heap.size w9 w') := by
    have h := list_lit [nodeT, a, b] w9 HT.out (by simp) (by
      have qa := smD.out a DD.out.1
      have qb := smD.out b DD.out.2.1
      simp only [List.mem_cons, List.not_mem_nil, or_false, forall_eq_or_imp, forall_eq]
      refine ⟨by decide, qa, qb⟩)
    rw [show listL [nodeT, a, b] = ab from HAB.out.symm] at h
    exact h
  go_wp2_with fail
  (with_reducible refine HQ.out.mono ?_); rintro e w10 ⟨rfl, hb⟩
  replace HB := Lib.hid (HB.out.trans (hb.mono HB.out.size))
  replace HT := Lib.hid (HT.out.below hb)
  replace HL0 := Lib.hid (HL0.out.below hb)
  replace HP := Lib.hid (HP.out.below hb)
  replace HQ2 := Lib.hid (HQ2.out.below hb)
  replace HM := Lib.hid (HM.out.below hb)
  replace HN := Lib.hid (HN.out.below hb)
  clear hb HQ
  have HQ : Hid (Calls Tryz.prog 20 #[.slice (some ⟨w3.heap.size, 0, none⟩) 3 3] w10 fun e w' => (e = .returned (.string (str al))) ∧ Below w10.heap.size w10 w') := by
    refine ((by have h := rooted_L (HL0.out) (by omega) (HT.out) ((fun t ht => TBd.out t (List.all_eq_true.1 D3.out t ht))); rw [show rootedT _ = al from (by unfold rootedT; rw [if_pos D3.out, root3, HAL.out, HAB.out])] at h; exact h : Calls Tryz.prog 20 #[.slice (some ⟨w3.heap.size, 0, none⟩) 3 3] _ (fun e w' => e = .returned (.string (str al)) ∧ Below _ _ w'))).mono ?_
    rintro e w' ⟨h1, hb⟩
    exact ⟨h1, hb⟩
  go_wp2_with fail
  (with_reducible refine HQ.out.mono ?_); rintro e w11 ⟨rfl, hb⟩
  replace HB := Lib.hid (HB.out.trans (hb.mono HB.out.size))
  replace HT := Lib.hid (HT.out.below hb)
  replace HL0 := Lib.hid (HL0.out.below hb)
  replace HP := Lib.hid (HP.out.below hb)
  replace HQ2 := Lib.hid (HQ2.out.below hb)
  replace HM := Lib.hid (HM.out.below hb)
  replace HN := Lib.hid (HN.out.below hb)
  clear hb HQ
  have HQ : Hid (Calls Tryz.prog 20 #[.slice none 0 0] w11 fun e w' => (e = .returned (.string (str empT))) ∧ Below w11.heap.size w11 w') := by
    refine ((by have h := rooted_L (Lst.empty _) (by omega) (HT.out) (fun t ht => by simp at ht); rw [show rootedT _ = empT from (by unfold rootedT; rw [if_pos (show ([] : List Tx).all isD = true from rfl), root_nil])] at h; exact h : Calls Tryz.prog 20 #[.slice none 0 0] _ (fun e w' => e = .returned (.string (str empT)) ∧ Below _ _ w'))).mono ?_
    rintro e w' ⟨h1, hb⟩
    exact ⟨h1, hb⟩
  go_wp2_with fail
  (with_reducible refine HQ.out.mono ?_); rintro e w12 ⟨rfl, hb⟩
  replace HB := Lib.hid (HB.out.trans (hb.mono HB.out.size))
  replace HT := Lib.hid (HT.out.below hb)
  replace HL0 := Lib.hid (HL0.out.below hb)
  replace HP := Lib.hid (HP.out.below hb)
  replace HQ2 := Lib.hid (HQ2.out.below hb)
  replace HM := Lib.hid (HM.out.below hb)
  replace HN := Lib.hid (HN.out.below hb)
  clear hb HQ
  have HQ : Hid (Calls Tryz.prog 19 #[.slice (some ⟨w12.heap.size, 0, none⟩) 1 1] (w12.alloc (.cells #[.string { data := #[101, 109, 112, 116, 121] }] 9)) fun e w' => e = .returned (.string (str empT)) ∧ Below w12.heap.size w12 w') := by
    have h := list_lit [emptyT] w12 HT.out (by simp) (by
      simp only [List.mem_cons, List.not_mem_nil, or_false, forall_eq_or_imp, forall_eq]
      decide)
    rw [show listL [emptyT] = empT from rfl] at h
    exact h
  go_wp2_with fail
  (with_reducible refine HQ.out.mono ?_); rintro e w13 ⟨rfl, hb⟩
  replace HB := Lib.hid (HB.out.trans (hb.mono HB.out.size))
  replace HT := Lib.hid (HT.out.below hb)
  replace HL0 := Lib.hid (HL0.out.below hb)
  replace HP := Lib.hid (HP.out.below hb)
  replace HQ2 := Lib.hid (HQ2.out.below hb)
  replace HM := Lib.hid (HM.out.below hb)
  replace HN := Lib.hid (HN.out.below hb)
  clear hb HQ
  have HQ : Hid (Calls Tryz.prog 19 #[.slice (some ⟨w13.heap.size, 0, none⟩) 2 2] (w13.alloc (.cells #[.string { data := #[108, 101, 97, 102] }, .string { data := #[97] }] 9)) fun e w' => e = .returned (.string (str a)) ∧ Below w13.heap.size w13 w') := by
    have h := list_lit [leafT, [97]] w13 HT.out (by simp) (by
      simp only [List.mem_cons, List.not_mem_nil, or_false, forall_eq_or_imp, forall_eq]
      refine ⟨by decide, by decide⟩)
    rw [show listL [leafT, [97]] = a from EE.out.1] at h
    exact h
  go_wp2_with fail
  (with_reducible refine HQ.out.mono ?_); rintro e w14 ⟨rfl, hb⟩
  replace HB := Lib.hid (HB.out.trans (hb.mono HB.out.size))
  replace HT := Lib.hid (HT.out.below hb)
  replace HL0 := Lib.hid (HL0.out.below hb)
  replace HP := Lib.hid (HP.out.below hb)
  replace HQ2 := Lib.hid (HQ2.out.below hb)
  replace HM := Lib.hid (HM.out.below hb)
  replace HN := Lib.hid (HN.out.below hb)
  clear hb HQ
  have HQ : Hid (Calls Tryz.prog 20 #[.slice (some ⟨w14.heap.size, 0, none⟩) 1 1] (w14.alloc (.cells #[.string (str a)] 9)) fun e w' => (e = .returned (.string (str a))) ∧ Below w14.heap.size w14 w') := by
    have hal : Below w14.heap.size w14 (w14.alloc (.cells #[.string (str a)] 9)) := (Below.refl _ _).alloc (Nat.le_refl _) _
    have hnb := Reg.Blk.new w14 #[.string (str a)] 9
    refine ((by have h := rooted_L (Lst.lit [a] (n := 1) rfl (by omega) hnb) (by omega) (HT.out.below hal) (fun t ht => by simp at ht; subst ht; exact TBd.out _ DD.out.1); rw [show rootedT _ = a from (by unfold rootedT; rw [if_pos (by simp [DD.out.1]), root_one])] at h; exact h : Calls Tryz.prog 20 #[.slice (some ⟨w14.heap.size, 0, none⟩) 1 1] _ (fun e w' => e = .returned (.string (str a)) ∧ Below _ _ w'))).mono ?_
    rintro e w' ⟨h1, hb⟩
    exact ⟨h1, hal.trans (hb.mono hal.size)⟩
  go_wp2_with fail
  (with_reducible refine HQ.out.mono ?_); rintro e w15 ⟨rfl, hb⟩
  replace HB := Lib.hid (HB.out.trans (hb.mono HB.out.size))
  replace HT := Lib.hid (HT.out.below hb)
  replace HL0 := Lib.hid (HL0.out.below hb)
  replace HP := Lib.hid (HP.out.below hb)
  replace HQ2 := Lib.hid (HQ2.out.below hb)
  replace HM := Lib.hid (HM.out.below hb)
  replace HN := Lib.hid (HN.out.below hb)
  clear hb HQ
  have HQ : Hid (Calls Tryz.prog 19 #[.slice (some ⟨w15.heap.size, 0, none⟩) 3 3] (w15.alloc (.cells #[.string { data := #[110, 111, 100, 101] }, .string (str ab), .string (str c)] 9)) fun e w' => e = .returned (.string (str al)) ∧ Below w15.heap.size w15 w') := by
    have h := list_lit [nodeT, ab, c] w15 HT.out (by simp) (by
      have qab := smD.out ab dab.out
      have qc := smD.out c DD.out.2.2.1
      simp only [List.mem_cons, List.not_mem_nil, or_false, forall_eq_or_imp, forall_eq]
      refine ⟨by decide, qab, qc⟩)
    rw [show listL [nodeT, ab, c] = al from HAL.out.symm] at h
    exact h
  go_wp2_with fail
  (with_reducible refine HQ.out.mono ?_); rintro e w16 ⟨rfl, hb⟩
  replace HB := Lib.hid (HB.out.trans (hb.mono HB.out.size))
  replace HT := Lib.hid (HT.out.below hb)
  replace HL0 := Lib.hid (HL0.out.below hb)
  replace HP := Lib.hid (HP.out.below hb)
  replace HQ2 := Lib.hid (HQ2.out.below hb)
  replace HM := Lib.hid (HM.out.below hb)
  replace HN := Lib.hid (HN.out.below hb)
  clear hb HQ
  have HQ : Hid (Calls Tryz.prog 14 #[.slice Ap 1 cp, .slice (some ⟨w16.heap.size, 0, none⟩) 1 1] (w16.alloc (.cells #[.string (str ab)] 9)) fun e w' => (e = .returned (.bool true)) ∧ Below w16.heap.size w16 w') := by
    have hal : Below w16.heap.size w16 (w16.alloc (.cells #[.string (str ab)] 9)) := (Below.refl _ _).alloc (Nat.le_refl _) _
    have hnb := Reg.Blk.new w16 #[.string (str ab)] 9
    refine ((by have h := same_L (HP.out.below hal) (Lst.lit [ab] (n := 1) rfl (by omega) hnb); rw [decide_eq_true rfl] at h; exact h : Calls Tryz.prog 14 #[.slice Ap 1 cp, .slice (some ⟨w16.heap.size, 0, none⟩) 1 1] _ (fun e w' => e = .returned (.bool true) ∧ Below _ _ w'))).mono ?_
    rintro e w' ⟨h1, hb⟩
    exact ⟨h1, hal.trans (hb.mono hal.size)⟩
  go_wp2_with fail
  (with_reducible refine HQ.out.mono ?_); rintro e w17 ⟨rfl, hb⟩
  replace HB := Lib.hid (HB.out.trans (hb.mono HB.out.size))
  replace HT := Lib.hid (HT.out.below hb)
  replace HL0 := Lib.hid (HL0.out.below hb)
  replace HP := Lib.hid (HP.out.below hb)
  replace HQ2 := Lib.hid (HQ2.out.below hb)
  replace HM := Lib.hid (HM.out.below hb)
  replace HN := Lib.hid (HN.out.below hb)
  clear hb HQ
  have HQ : Hid (Calls Tryz.prog 14 #[.slice Aq 2 cq, .slice (some ⟨w17.heap.size, 0, none⟩) 2 2] (w17.alloc (.cells #[.string (str b), .string (str c)] 9)) fun e w' => (e = .returned (.bool true)) ∧ Below w17.heap.size w17 w') := by
    have hal : Below w17.heap.size w17 (w17.alloc (.cells #[.string (str b), .string (str c)] 9)) := (Below.refl _ _).alloc (Nat.le_refl _) _
    have hnb := Reg.Blk.new w17 #[.string (str b), .string (str c)] 9
    refine ((by have h := same_L (HQ2.out.below hal) (Lst.lit [b, c] (n := 2) rfl (by omega) hnb); rw [decide_eq_true rfl] at h; exact h : Calls Tryz.prog 14 #[.slice Aq 2 cq, .slice (some ⟨w17.heap.size, 0, none⟩) 2 2] _ (fun e w' => e = .returned (.bool true) ∧ Below _ _ w'))).mono ?_
    rintro e w' ⟨h1, hb⟩
    exact ⟨h1, hal.trans (hb.mono hal.size)⟩
  go_wp2_with fail
  (with_reducible refine HQ.out.mono ?_); rintro e w18 ⟨rfl, hb⟩
  replace HB := Lib.hid (HB.out.trans (hb.mono HB.out.size))
  replace HT := Lib.hid (HT.out.below hb)
  replace HL0 := Lib.hid (HL0.out.below hb)
  replace HP := Lib.hid (HP.out.below hb)
  replace HQ2 := Lib.hid (HQ2.out.below hb)
  replace HM := Lib.hid (HM.out.below hb)
  replace HN := Lib.hid (HN.out.below hb)
  clear hb HQ
  have HQ : Hid (Calls Tryz.prog 14 #[.slice Am 1 cm, .slice (some ⟨w18.heap.size, 0, none⟩) 1 1] (w18.alloc (.cells #[.string (str c)] 9)) fun e w' => (e = .returned (.bool true)) ∧ Below w18.heap.size w18 w') := by
    have hal : Below w18.heap.size w18 (w18.alloc (.cells #[.string (str c)] 9)) := (Below.refl _ _).alloc (Nat.le_refl _) _
    have hnb := Reg.Blk.new w18 #[.string (str c)] 9
    refine ((by have h := same_L (HM.out.below hal) (Lst.lit [c] (n := 1) rfl (by omega) hnb); rw [decide_eq_true rfl] at h; exact h : Calls Tryz.prog 14 #[.slice Am 1 cm, .slice (some ⟨w18.heap.size, 0, none⟩) 1 1] _ (fun e w' => e = .returned (.bool true) ∧ Below _ _ w'))).mono ?_
    rintro e w' ⟨h1, hb⟩
    exact ⟨h1, hal.trans (hb.mono hal.size)⟩
  go_wp2_with fail
  (with_reducible refine HQ.out.mono ?_); rintro e w19 ⟨rfl, hb⟩
  replace HB := Lib.hid (HB.out.trans (hb.mono HB.out.size))
  replace HT := Lib.hid (HT.out.below hb)
  replace HL0 := Lib.hid (HL0.out.below hb)
  replace HP := Lib.hid (HP.out.below hb)
  replace HQ2 := Lib.hid (HQ2.out.below hb)
  replace HM := Lib.hid (HM.out.below hb)
  replace HN := Lib.hid (HN.out.below hb)
  clear hb HQ
  have HQ : Hid (Calls Tryz.prog 14 #[.slice An 2 cn, .slice (some ⟨w19.heap.size, 0, none⟩) 2 2] (w19.alloc (.cells #[.string (str b), .string (str c)] 9)) fun e w' => (e = .returned (.bool true)) ∧ Below w19.heap.size w19 w') := by
    have hal : Below w19.heap.size w19 (w19.alloc (.cells #[.string (str b), .string (str c)] 9)) := (Below.refl _ _).alloc (Nat.le_refl _) _
    have hnb := Reg.Blk.new w19 #[.string (str b), .string (str c)] 9
    refine ((by have h := same_L (HN.out.below hal) (Lst.lit [b, c] (n := 2) rfl (by omega) hnb); rw [decide_eq_true rfl] at h; exact h : Calls Tryz.prog 14 #[.slice An 2 cn, .slice (some ⟨w19.heap.size, 0, none⟩) 2 2] _ (fun e w' => e = .returned (.bool true) ∧ Below _ _ w'))).mono ?_
    rintro e w' ⟨h1, hb⟩
    exact ⟨h1, hal.trans (hb.mono hal.size)⟩
  go_wp2_with fail
  (with_reducible refine HQ.out.mono ?_); rintro e w20 ⟨rfl, hb⟩
  replace HB := Lib.hid (HB.out.trans (hb.mono HB.out.size))
  replace HT := Lib.hid (HT.out.below hb)
  replace HL0 := Lib.hid (HL0.out.below hb)
  replace HP := Lib.hid (HP.out.below hb)
  replace HQ2 := Lib.hid (HQ2.out.below hb)
  replace HM := Lib.hid (HM.out.below hb)
  replace HN := Lib.hid (HN.out.below hb)
  clear hb HQ
  have HQ : Hid (Calls Tryz.prog 15 #[.string (str al), .int .i64 3, .int .i64 2, .string (str c), .slice Ap 1 cp] w20 fun e w' => (e = .returned (.bool true)) ∧ Below w20.heap.size w20 w') := by
    refine ((by have h := check_L al 3 2 c HP.out (by omega) HT.out (fun t ht => by simp at ht; subst ht; exact TBd.out _ dab.out) (TBd.out _ DD.out.2.2.1); rw [show checkB al 3 2 c [ab] = true from (by rw [check3 _ _ _ dab.out DD.out.2.2.1, HAL.out]; simp)] at h; exact h : Calls Tryz.prog 15 #[.string (str al), .int .i64 3, .int .i64 2, .string (str c), .slice Ap 1 cp] _ (fun e w' => e = .returned (.bool true) ∧ Below _ _ w'))).mono ?_
    rintro e w' ⟨h1, hb⟩
    exact ⟨h1, hb⟩
  go_wp2_with fail
  (with_reducible refine HQ.out.mono ?_); rintro e w21 ⟨rfl, hb⟩
  replace HB := Lib.hid (HB.out.trans (hb.mono HB.out.size))
  replace HT := Lib.hid (HT.out.below hb)
  replace HL0 := Lib.hid (HL0.out.below hb)
  replace HP := Lib.hid (HP.out.below hb)
  replace HQ2 := Lib.hid (HQ2.out.below hb)
  replace HM := Lib.hid (HM.out.below hb)
  replace HN := Lib.hid (HN.out.below hb)
  clear hb HQ
  have HQ : Hid (Calls Tryz.prog 15 #[.string (str al), .int .i64 3, .int .i64 2, .string (str b), .slice Ap 1 cp] w21 fun e w' => (e = .returned (.bool false)) ∧ Below w21.heap.size w21 w') := by
    refine ((by have h := check_L al 3 2 b HP.out (by omega) HT.out (fun t ht => by simp at ht; subst ht; exact TBd.out _ dab.out) (TBd.out _ DD.out.2.1); rw [show checkB al 3 2 b [ab] = false from (by rw [check3 _ _ _ dab.out DD.out.2.1, HAL.out, HAB.out]; exact DD.out.2.2.2.1)] at h; exact h : Calls Tryz.prog 15 #[.string (str al), .int .i64 3, .int .i64 2, .string (str b), .slice Ap 1 cp] _ (fun e w' => e = .returned (.bool false) ∧ Below _ _ w'))).mono ?_
    rintro e w' ⟨h1, hb⟩
    exact ⟨h1, hb⟩
  go_wp2_with fail
  (with_reducible refine HQ.out.mono ?_); rintro e w22 ⟨rfl, hb⟩
  replace HB := Lib.hid (HB.out.trans (hb.mono HB.out.size))
  replace HT := Lib.hid (HT.out.below hb)
  replace HL0 := Lib.hid (HL0.out.below hb)
  replace HP := Lib.hid (HP.out.below hb)
  replace HQ2 := Lib.hid (HQ2.out.below hb)
  replace HM := Lib.hid (HM.out.below hb)
  replace HN := Lib.hid (HN.out.below hb)
  clear hb HQ
  have HQ : Hid (Calls Tryz.prog 17 #[.string (str a), .int .i64 1, .string (str al), .int .i64 3, .slice An 2 cn] w22 fun e w' => (e = .returned (.bool true)) ∧ Below w22.heap.size w22 w') := by
    refine ((by have h := extends_L a 1 al 3 HN.out (by omega) HT.out (fun t ht => by simp at ht; rcases ht with rfl | rfl; exact TBd.out _ DD.out.2.1; exact TBd.out _ DD.out.2.2.1) (TBd.out _ DD.out.1) (TBd.out _ dal.out); rw [show extB a 1 al 3 [b, c] = true from (by rw [ext3 _ _ _ _ DD.out.1 DD.out.2.1 DD.out.2.2.1 dal.out, HAL.out, HAB.out]; simp)] at h; exact h : Calls Tryz.prog 17 #[.string (str a), .int .i64 1, .string (str al), .int .i64 3, .slice An 2 cn] _ (fun e w' => e = .returned (.bool true) ∧ Below _ _ w'))).mono ?_
    rintro e w' ⟨h1, hb⟩
    exact ⟨h1, hb⟩
  go_wp2_with fail
  (with_reducible refine HQ.out.mono ?_); rintro e w23 ⟨rfl, hb⟩
  replace HB := Lib.hid (HB.out.trans (hb.mono HB.out.size))
  replace HT := Lib.hid (HT.out.below hb)
  replace HL0 := Lib.hid (HL0.out.below hb)
  replace HP := Lib.hid (HP.out.below hb)
  replace HQ2 := Lib.hid (HQ2.out.below hb)
  replace HM := Lib.hid (HM.out.below hb)
  replace HN := Lib.hid (HN.out.below hb)
  clear hb HQ
  have HQ : Hid (Calls Tryz.prog 17 #[.string (str b), .int .i64 1, .string (str al), .int .i64 3, .slice An 2 cn] w23 fun e w' => (e = .returned (.bool false)) ∧ Below w23.heap.size w23 w') := by
    refine ((by have h := extends_L b 1 al 3 HN.out (by omega) HT.out (fun t ht => by simp at ht; rcases ht with rfl | rfl; exact TBd.out _ DD.out.2.1; exact TBd.out _ DD.out.2.2.1) (TBd.out _ DD.out.2.1) (TBd.out _ dal.out); rw [show extB b 1 al 3 [b, c] = false from (by rw [ext3 _ _ _ _ DD.out.2.1 DD.out.2.1 DD.out.2.2.1 dal.out, HAL.out, HAB.out]; exact DD.out.2.2.2.2)] at h; exact h : Calls Tryz.prog 17 #[.string (str b), .int .i64 1, .string (str al), .int .i64 3, .slice An 2 cn] _ (fun e w' => e = .returned (.bool false) ∧ Below _ _ w'))).mono ?_
    rintro e w' ⟨h1, hb⟩
    exact ⟨h1, hb⟩
  go_wp2_with fail
  (with_reducible refine HQ.out.mono ?_); rintro e w24 ⟨rfl, hb⟩
  replace HB := Lib.hid (HB.out.trans (hb.mono HB.out.size))
  replace HT := Lib.hid (HT.out.below hb)
  replace HL0 := Lib.hid (HL0.out.below hb)
  replace HP := Lib.hid (HP.out.below hb)
  replace HQ2 := Lib.hid (HQ2.out.below hb)
  replace HM := Lib.hid (HM.out.below hb)
  replace HN := Lib.hid (HN.out.below hb)
  clear hb HQ
  go_wp2_with fail
  go_ret
  exact ⟨by simp, HB.out⟩
theorem head_any (w : World) (ht : Tabs w) : Calls Tryz.prog 4 #[] w fun e w' => e = .returned (.bool true) ∧ Below w.heap.size w w' :=
  head_walk aT bT cT rfl rfl rfl aD bD cD neg1 neg2 w ht

end S
end Go.Proofs.YtejhefmcinohhaaGreatDoor
