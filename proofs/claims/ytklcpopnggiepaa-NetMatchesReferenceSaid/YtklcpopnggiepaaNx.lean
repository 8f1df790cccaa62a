/- The reference network in plain words, and that it agrees with the plain network. -/
import Derived.Test.YtklcpopnggiepaaNm
set_option linter.unusedSimpArgs false
set_option linter.unusedVariables false
set_option maxRecDepth 100000
namespace Go.Proofs.Ytklcpopnggiepaa
namespace N

abbrev Mg := Int × Int × Tx
structure Rf where
  n : Int
  ms : List Mg
  gone : List (Int × Int)
def isM (a b : Int) (m : Mg) : Bool := m.1 == a && m.2.1 == b
def isG (a b : Int) (p : Int × Int) : Bool := (p.1 == a && p.2 == b) || (p.1 == b && p.2 == a)
theorem isM_iff {a b : Int} {m : Mg} : isM a b m = true ↔ m.1 = a ∧ m.2.1 = b := by simp [isM]
theorem isG_iff {a b : Int} {p : Int × Int} : isG a b p = true ↔ (p.1 = a ∧ p.2 = b) ∨ (p.1 = b ∧ p.2 = a) := by simp [isG]
def txs (ms : List Mg) (a b : Int) : List Tx := (ms.filter (isM a b)).map fun m => m.2.2
theorem txs_len (ms : List Mg) (a b : Int) : (txs ms a b).length = ms.countP (isM a b) := by simp [txs, List.countP_eq_length_filter]
theorem txs_snoc (ms : List Mg) (a b : Int) (m : Mg) : txs (ms ++ [m]) a b = txs ms a b ++ if isM a b m = true then [m.2.2] else [] := by
  unfold txs
  rw [List.filter_append, List.map_append]
  congr 1
  by_cases h : isM a b m = true <;> simp [h]
def shut (g : List (Int × Int)) (a b : Int) : Bool := g.any (isG a b)

structure Agree (d : Nt) (R : Rf) : Prop where
  n : d.n = R.n
  q : ∀ a b, okP d.n a b = true → d.q a b = txs R.ms a b
  c : ∀ a b, okP d.n a b = true → d.c a b = shut R.gone a b
  live : ∀ m ∈ R.ms, shut R.gone m.1 m.2.1 = false
  uniq : R.gone.Pairwise fun p r => isG p.1 p.2 r = false
theorem agree_new (n : Int) : Agree (newN n) ⟨n, [], []⟩ := ⟨rfl, fun _ _ _ => rfl, fun _ _ _ => rfl, fun m h => (by cases h), .nil⟩
theorem Agree.send {d : Nt} {R : Rf} (h : Agree d R) (a b : Int) (t : Tx) (ok : okP d.n a b = true) (hc : shut R.gone a b = false) : Agree { d with q := at2 d.q a b (d.q a b ++ [t]) } { R with ms := R.ms ++ [(a, b, t)] } := by
  refine ⟨h.n, fun x y hxy => ?_, h.c, fun m hm => ?_, h.uniq⟩
  · show at2 d.q a b (d.q a b ++ [t]) x y = txs (R.ms ++ [(a, b, t)]) x y
    rw [txs_snoc]
    by_cases e : x = a ∧ y = b
    · obtain ⟨rfl, rfl⟩ := e
      rw [at2_same, h.q _ _ ok, if_pos (isM_iff.2 ⟨rfl, rfl⟩ : isM x y (x, y, t) = true)]
    · rw [at2_other _ _ _ _ e, h.q _ _ hxy, if_neg (fun hh => e (by have := isM_iff.1 hh; exact ⟨this.1.symm, this.2.symm⟩)), List.append_nil]
  · rcases List.mem_append.1 hm with hm | hm
    · exact h.live m hm
    · simp at hm; subst hm; exact hc
theorem txs_split (ms : List Mg) (a b : Int) (i : Nat) (hi : i < ms.length) : txs ms a b = txs (ms.take i) a b ++ ((if isM a b ms[i] = true then [ms[i].2.2] else []) ++ txs (ms.drop (i + 1)) a b) := by
  have e : ms = (ms.take i ++ [ms[i]]) ++ ms.drop (i + 1) := by
    rw [List.take_append_getElem hi, List.take_append_drop]
  conv => lhs; rw [e]
  unfold txs
  rw [List.filter_append, List.filter_append, List.map_append, List.map_append, List.append_assoc]
  congr 2
  by_cases h : isM a b ms[i] = true <;> simp [h]
/-- The message that is the k-th of its line. -/
theorem Agree.hit {d : Nt} {R : Rf} (h : Agree d R) {a b : Int} (ok : okP d.n a b = true) (i : Nat) (hi : i < R.ms.length) (hm : isM a b R.ms[i] = true) :
    inQ d a b ((R.ms.take i).countP (isM a b) : Nat) = true ∧ (d.q a b).getD ((R.ms.take i).countP (isM a b)) [] = R.ms[i].2.2 ∧
    Agree (cutD d a b ((R.ms.take i).countP (isM a b) : Nat)) { R with ms := R.ms.take i ++ R.ms.drop (i + 1) } := by
  have e := txs_split R.ms a b i hi
  rw [if_pos hm] at e
  have hl := txs_len (R.ms.take i) a b
  refine ⟨?_, ?_, h.n, fun x y hxy => ?_, h.c, fun m hmm => h.live m ?_, h.uniq⟩
  · unfold inQ
    rw [ok, h.q _ _ ok, e]
    simp
    omega
  · rw [h.q _ _ ok, e, ← hl, List.getD_eq_getElem?_getD, List.getElem?_append_right (Nat.le_refl _)]
    simp
  · show at2 d.q a b (cutAt (d.q a b) ((((R.ms.take i).countP (isM a b) : Nat) : Int)).toNat) x y = txs (R.ms.take i ++ R.ms.drop (i + 1)) x y
    have e2 : txs (R.ms.take i ++ R.ms.drop (i + 1)) x y = txs (R.ms.take i) x y ++ txs (R.ms.drop (i + 1)) x y := by simp [txs]
    rw [e2]
    by_cases exy : x = a ∧ y = b
    · obtain ⟨rfl, rfl⟩ := exy
      rw [at2_same, h.q _ _ ok, e, ← hl, Int.toNat_natCast]
      unfold cutAt
      simp [List.take_append, List.drop_append]
    · rw [at2_other _ _ _ _ exy, h.q _ _ hxy, txs_split R.ms x y i hi, if_neg (fun hh => exy ?_)]
      · simp
      · have h1 := isM_iff.1 hh
        have h2 := isM_iff.1 hm
        exact ⟨h1.1.symm.trans h2.1, h1.2.symm.trans h2.2⟩
  · rcases List.mem_append.1 hmm with hmm | hmm
    · exact List.mem_of_mem_take hmm
    · exact List.mem_of_mem_drop hmm
theorem Agree.miss {d : Nt} {R : Rf} (h : Agree d R) {a b k : Int} (ok : okP d.n a b = true) (hk : ¬ (0 ≤ k ∧ k < (R.ms.countP (isM a b) : Nat))) : inQ d a b k = false := by
  unfold inQ
  rw [ok, h.q _ _ ok, txs_len]
  simp
  omega
/-- A line is cut. -/
theorem Agree.cut {d : Nt} {R : Rf} (h : Agree d R) {a b : Int} (ok : okP d.n a b = true) (hc : shut R.gone a b = false) :
    Agree { d with c := both d.c a b true, q := both d.q a b [] } { R with gone := R.gone ++ [(a, b)], ms := R.ms.filter fun m => !shut (R.gone ++ [(a, b)]) m.1 m.2.1 } := by
  have hs : ∀ x y, shut (R.gone ++ [(a, b)]) x y = (shut R.gone x y || isG x y (a, b)) := fun x y => by simp [shut]
  refine ⟨h.n, fun x y hxy => ?_, fun x y hxy => ?_, fun m hm => ?_, ?_⟩
  · show both d.q a b [] x y = txs (R.ms.filter fun m => !shut (R.gone ++ [(a, b)]) m.1 m.2.1) x y
    unfold txs
    rw [List.filter_filter]
    by_cases e : (x = b ∧ y = a) ∨ (x = a ∧ y = b)
    · have e1 : both d.q a b [] x y = [] := by
        unfold both at2
        rcases e with e | e
        · first | rfl | rw [if_pos e]
        · split
          · rfl
          · first | rfl | rw [if_pos e]
      rw [e1]
      symm
      rw [List.map_eq_nil_iff, List.filter_eq_nil_iff]
      intro m _
      rw [Bool.and_eq_true, hs]
      rintro ⟨h1, h2⟩
      obtain ⟨r1, r2⟩ := isM_iff.1 h1
      rw [r1, r2] at h2
      have : isG x y (a, b) = true := isG_iff.2 (by rcases e with ⟨rfl, rfl⟩ | ⟨rfl, rfl⟩; exact .inr ⟨rfl, rfl⟩; exact .inl ⟨rfl, rfl⟩)
      rw [this] at h2
      simp at h2
    · have e1 : both d.q a b [] x y = d.q x y := by
        unfold both
        rw [at2_other _ _ _ _ (fun hh => e (.inl hh)), at2_other _ _ _ _ (fun hh => e (.inr hh))]
      rw [e1, h.q _ _ hxy]
      unfold txs
      congr 1
      apply List.filter_congr
      intro m hm
      rw [hs, h.live m hm]
      by_cases h1 : isM x y m = true
      · obtain ⟨r1, r2⟩ := isM_iff.1 h1
        have : isG m.1 m.2.1 (a, b) = false := by
          rw [Bool.eq_false_iff]
          intro hh
          rcases isG_iff.1 hh with ⟨u1, u2⟩ | ⟨u1, u2⟩
          · exact e (.inr ⟨r1.symm.trans u1.symm, r2.symm.trans u2.symm⟩)
          · exact e (.inl ⟨r1.symm.trans u2.symm, r2.symm.trans u1.symm⟩)
        rw [this, h1]; rfl
      · have : isM x y m = false := by simpa using h1
        rw [this]; rfl
  · show both d.c a b true x y = shut (R.gone ++ [(a, b)]) x y
    rw [hs]
    by_cases e : (x = b ∧ y = a) ∨ (x = a ∧ y = b)
    · have : isG x y (a, b) = true := isG_iff.2 (by rcases e with ⟨rfl, rfl⟩ | ⟨rfl, rfl⟩; exact .inr ⟨rfl, rfl⟩; exact .inl ⟨rfl, rfl⟩)
      rw [this, Bool.or_true]
      unfold both at2
      rcases e with e | e
      · rw [if_pos e]
      · split
        · rfl
        · first | rfl | rw [if_pos e]
    · have : isG x y (a, b) = false := by
        rw [Bool.eq_false_iff]
        intro hh
        rcases isG_iff.1 hh with ⟨u1, u2⟩ | ⟨u1, u2⟩
        · exact e (.inr ⟨u1.symm, u2.symm⟩)
        · exact e (.inl ⟨u2.symm, u1.symm⟩)
      rw [this, Bool.or_false]
      unfold both
      rw [at2_other _ _ _ _ (fun hh => e (.inl hh)), at2_other _ _ _ _ (fun hh => e (.inr hh))]
      exact h.c _ _ hxy
  · have := (List.mem_filter.1 hm).2
    simpa using this
  · rw [List.pairwise_append]
    refine ⟨h.uniq, List.pairwise_singleton _ _, fun p hp r hr => ?_⟩
    simp at hr
    subst hr
    rw [Bool.eq_false_iff]
    intro hh
    have : shut R.gone a b = true := by
      unfold shut
      rw [List.any_eq_true]
      exact ⟨p, hp, isG_iff.2 (by rcases isG_iff.1 hh with ⟨u1, u2⟩ | ⟨u1, u2⟩; exact .inl ⟨u1.symm, u2.symm⟩; exact .inr ⟨u2.symm, u1.symm⟩)⟩
    rw [hc] at this
    cases this
/-- A line is healed. -/
theorem Agree.heal {d : Nt} {R : Rf} (h : Agree d R) {a b : Int} (i : Nat) (hi : i < R.gone.length) (hg : isG a b R.gone[i] = true) :
    Agree { d with c := both d.c a b false } { R with gone := R.gone.take i ++ R.gone.drop (i + 1) } := by
  have e0 : R.gone = R.gone.take i ++ (R.gone[i] :: R.gone.drop (i + 1)) := by
    rw [List.getElem_cons_drop hi, List.take_append_drop]
  have hs : ∀ x y, shut R.gone x y = (shut (R.gone.take i ++ R.gone.drop (i + 1)) x y || isG x y R.gone[i]) := fun x y => by
    unfold shut
    conv => lhs; rw [e0]
    simp only [List.any_append, List.any_cons]
    cases (R.gone.take i).any (isG x y) <;> cases isG x y R.gone[i] <;> simp
  have hu := h.uniq
  rw [e0, List.pairwise_append, List.pairwise_cons] at hu
  have hns : shut (R.gone.take i ++ R.gone.drop (i + 1)) a b = false := by
    rw [Bool.eq_false_iff]
    intro hh
    unfold shut at hh
    rw [List.any_eq_true] at hh
    obtain ⟨p, hp, hpg⟩ := hh
    have hgp : isG R.gone[i].1 R.gone[i].2 p = true ∧ isG p.1 p.2 R.gone[i] = true := by
      rw [isG_iff, isG_iff]
      rw [isG_iff] at hg hpg
      omega
    rcases List.mem_append.1 hp with hp | hp
    · have := hu.2.2 p hp R.gone[i] List.mem_cons_self
      rw [hgp.2] at this; cases this
    · have := hu.2.1.1 p hp
      rw [hgp.1] at this; cases this
  refine ⟨h.n, h.q, fun x y hxy => ?_, fun m hm => ?_, ?_⟩
  · show both d.c a b false x y = shut (R.gone.take i ++ R.gone.drop (i + 1)) x y
    by_cases e : (x = b ∧ y = a) ∨ (x = a ∧ y = b)
    · have e1 : both d.c a b false x y = false := by
        unfold both at2
        rcases e with e | e
        · first | rfl | rw [if_pos e]
        · split
          · rfl
          · first | rfl | rw [if_pos e]
      rw [e1]
      symm
      rcases e with ⟨rfl, rfl⟩ | ⟨rfl, rfl⟩
      · have hsym : ∀ p, isG x y p = isG y x p := fun p => by
          rw [Bool.eq_iff_iff, isG_iff, isG_iff]; exact Or.comm
        unfold shut at hns ⊢
        rw [show isG x y = isG y x from funext hsym]
        exact hns
      · exact hns
    · unfold both
      rw [at2_other _ _ _ _ (fun hh => e (.inl hh)), at2_other _ _ _ _ (fun hh => e (.inr hh)), h.c _ _ hxy, hs]
      have : isG x y R.gone[i] = false := by
        rw [Bool.eq_false_iff]
        intro hh
        rw [isG_iff] at hg hh
        omega
      rw [this, Bool.or_false]
  · have := h.live m hm
    rw [hs] at this
    exact (Bool.or_eq_false_iff.1 this).1
  · rw [List.pairwise_append]
    exact ⟨hu.1, hu.2.1.2, fun p hp r hr => hu.2.2 p hp r (List.mem_cons_of_mem _ hr)⟩

end N
end Go.Proofs.Ytklcpopnggiepaa
