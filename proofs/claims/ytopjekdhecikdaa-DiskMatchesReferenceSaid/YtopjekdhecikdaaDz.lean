/- Disk's law: the writes that succeed, in plain words. -/
import Derived.Test.YtopjekdhecikdaaDl
set_option linter.unusedSimpArgs false
set_option linter.unusedVariables false
set_option maxRecDepth 100000
namespace Go.Proofs.Ytopjekdhecikdaa
namespace D

def ent (N : Nat) (a : AV) : Option (Nat × Tx) := if 0 ≤ a.sec ∧ a.sec < N ∧ (atext a.text a.odd).length = 64 then some (a.sec.toNat, atext a.text a.odd) else none
def ents (N : Nat) (l : List AV) : List (Nat × Tx) := l.filterMap (ent N)
theorem ents_take {N : Nat} {l : List AV} {k : Nat} (h : k < l.length) : ents N (l.take (k + 1)) = ents N (l.take k) ++ (ent N l[k]).toList := by
  unfold ents
  rw [List.take_succ_eq_append_getElem h, List.filterMap_append]
  congr 1
theorem ents_first (N : Nat) (l : List AV) (k : Nat) : (ents N l).take (ents N (l.take k)).length = ents N (l.take k) := by
  have e : ents N l = ents N (l.take k) ++ ents N (l.drop k) := by
    unfold ents
    rw [← List.filterMap_append, List.take_append_drop]
  rw [e, List.take_append_of_le_length (Nat.le_refl _), List.take_length]
theorem write_ent {n : Nat} {d : Dk} (h : Good n d) (ho : d.off = false) (ha : d.arm = none) (a : AV) :
    ((write d a.sec (atext a.text a.odd)).1 = 0 ∧ ent n a = some (a.sec.toNat, atext a.text a.odd) ∧ (write d a.sec (atext a.text a.odd)).2 = { d with q := d.q ++ [(a.sec.toNat, atext a.text a.odd)] }) ∨
    ((write d a.sec (atext a.text a.odd)).1 = 1 ∧ ent n a = none ∧ (write d a.sec (atext a.text a.odd)).2 = d) := by
  rcases write_cases h ho ha a.sec (atext a.text a.odd) with ⟨he, s1, s2, s3, hd, _⟩ | ⟨he, hd, hw⟩
  · exact .inl ⟨he, if_pos ⟨s1, s2, s3⟩, hd⟩
  · exact .inr ⟨he, if_neg (by rintro ⟨a, b, c⟩; omega), hd⟩
/-- The disk with some writes that wait. -/
def wq (d : Dk) (q : List (Nat × Tx)) : Dk := { d with q := q }
theorem wq_more (d : Dk) (q : List (Nat × Tx)) (p : Nat × Tx) : ({ wq d q with q := (wq d q).q ++ [p] } : Dk) = wq d (q ++ [p]) := rfl
theorem conts_wq (N : Nat) (d : Dk) (q : List (Nat × Tx)) : conts N (wq d q) = secs N (settle d.st q) := rfl
theorem eff_failed {d : Dk} {q : List (Nat × Tx)} (ho : d.off = false) (W K : Nat) (hK : K ≤ 64) : eff (start (fail (wq d q) W K)) = torn (settle d.st (q.take (min W q.length))) q (min W q.length) K := by
  have e1 : clip (W : Int) q.length = min W q.length := by unfold clip; omega
  have e2 : clip (K : Int) 64 = K := by unfold clip; omega
  unfold fail
  rw [if_neg (by show ¬ d.off = true; simp [ho])]
  show eff (start ⟨torn (settle d.st (q.take (clip W q.length))) q (clip W q.length) (clip K 64), [], true, none⟩) = _
  rw [e1, e2]
  rfl
theorem failed_all {d : Dk} {q : List (Nat × Tx)} (ho : d.off = false) (W K N : Nat) (hK : K ≤ 64) (hq : q.length ≤ W) : conts N (start (fail (wq d q) W K)) = secs N (settle d.st (q.take W)) := by
  show secs N (eff (start (fail (wq d q) W K))) = _
  rw [eff_failed ho W K hK, Nat.min_eq_right hq, torn_end, List.take_length, List.take_of_length_le hq]
theorem failed_some {d : Dk} {q : List (Nat × Tx)} (ho : d.off = false) (W K N : Nat) (hK : K ≤ 64) (hg : Good N (wq d q)) {s : Nat} {t : Tx} (hq : q[W]? = some (s, t)) :
    conts N (start (fail (wq d q) W K)) = (secs N (settle d.st (q.take W))).set s (t.take K ++ (sec (settle d.st (q.take W)) s).drop K) := by
  have hW : W < q.length := (List.getElem?_eq_some_iff.1 hq).1
  show secs N (eff (start (fail (wq d q) W K))) = _
  rw [eff_failed ho W K hK, Nat.min_eq_left (by omega)]
  have hm := hg.q (s, t) (List.mem_of_getElem? hq)
  simp only at hm
  have hl : (settle d.st (q.take W)).length = N * 64 := length_settle hg.len (mem_take hg.q)
  unfold torn
  rw [hq]
  simp only
  generalize settle d.st (q.take W) = st at *
  have hk : (t.take K).length = K := by rw [List.length_take]; omega
  apply List.ext_getElem?
  intro i
  rcases Nat.lt_or_ge i N with hi | hi
  · rw [secs_get hi, List.getElem?_set, secs_len']
    by_cases e : s = i
    · subst e; rw [if_pos rfl, if_pos hi, sec_put_part (by omega) (by omega), hk]
    · rw [if_neg e, secs_get hi, sec_put_other (fun h => e h.symm) (by omega) (by omega)]
  · rw [List.getElem?_eq_none (by rw [secs_len']; omega), List.getElem?_eq_none (by rw [List.length_set, secs_len']; omega)]

end D
end Go.Proofs.Ytopjekdhecikdaa
