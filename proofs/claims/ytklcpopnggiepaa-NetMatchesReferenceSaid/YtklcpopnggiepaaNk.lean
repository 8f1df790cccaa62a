/- A map in memory as a plain function of its keys: what a look-up yields, what a store leaves, by either of the two forms of a store. -/
import Derived.Maps.Own
import Derived.Maps.OwnOps
import Derived.DeepKeys4
import Derived.WalkKit
set_option linter.unusedSimpArgs false
set_option linter.unusedVariables false
set_option maxRecDepth 100000
namespace Go.Proofs.Ytklcpopnggiepaa
open Go Go.RowKit Go.Maps Go.MapKept Go.ChangeMaps
namespace N

def way (a b : Int) : Value := .agg #[.int .i64 a, .int .i64 b]
theorem way_inj {a b c d : Int} (h : way a b = way c d) : a = c ∧ b = d := by simpa [way] using h
/-- The entries are those of the function. -/
structure IsMap (P : Program) (K : TypeId) (es : Array MapEntry) (ck : Nat) (f : Int → Int → Option Value) : Prop where
  keys : ∀ e ∈ es.toList, ∃ l, keyOf P K e.key = some l
  st : Stamped es ck
  has : ∀ e ∈ es.toList, ∃ a b, e.key = way a b ∧ f a b = some e.val
  is : ∀ a b v, f a b = some v → ∃ e ∈ es.toList, e.key = way a b ∧ e.val = v
/-- Block b is a map; at each key it holds what 'f' says. -/
def MapIs (P : Program) (K : TypeId) (w : World) (b : Nat) (f : Int → Int → Option Value) : Prop := ∃ es ck, w.heap[b]? = some (.map es ck) ∧ IsMap P K es ck f
/-- .. and the entry at the key has the stamp s. -/
def EntryAt (P : Program) (K : TypeId) (w : World) (b : Nat) (f : Int → Int → Option Value) (x y s : Int) : Prop :=
  ∃ es ck, w.heap[b]? = some (.map es ck) ∧ IsMap P K es ck f ∧ ∃ (j : Nat) (e : MapEntry), es.toList[j]? = some e ∧ e.key = way x y ∧ (e.born : Int) = s

/-- Just block b has turned. -/
structure Turned (b : Nat) (w w' : World) : Prop where
  size : w'.heap.size = w.heap.size
  far : ∀ k, k ≠ b → w'.heap[k]? = w.heap[k]?
  os : w'.os = w.os
  tape : w'.tape = w.tape
  output : w'.output = w.output

theorem MapIs.lt {P : Program} {K : TypeId} {w : World} {b : Nat} {f : Int → Int → Option Value} (h : MapIs P K w b f) : b < w.heap.size := by
  obtain ⟨es, ck, hb, _⟩ := h
  exact (Array.getElem?_eq_some_iff.1 hb).1
theorem MapIs.same {P : Program} {K : TypeId} {w w' : World} {b : Nat} {f : Int → Int → Option Value} (h : MapIs P K w b f) (hk : w'.heap[b]? = w.heap[b]?) : MapIs P K w' b f := by
  obtain ⟨es, ck, hb, r⟩ := h
  exact ⟨es, ck, hk.trans hb, r⟩
theorem EntryAt.same {P : Program} {K : TypeId} {w w' : World} {b : Nat} {f : Int → Int → Option Value} {x y s : Int} (h : EntryAt P K w b f x y s) (hk : w'.heap[b]? = w.heap[b]?) : EntryAt P K w' b f x y s := by
  obtain ⟨es, ck, hb, r⟩ := h
  exact ⟨es, ck, hk.trans hb, r⟩
theorem EntryAt.lt {P : Program} {K : TypeId} {w : World} {b : Nat} {f : Int → Int → Option Value} {x y s : Int} (h : EntryAt P K w b f x y s) : b < w.heap.size := by
  obtain ⟨es, ck, hb, _⟩ := h
  exact (Array.getElem?_eq_some_iff.1 hb).1
theorem MapIs.not_cells {P : Program} {K : TypeId} {w : World} {b g : Nat} {f : Int → Int → Option Value} (h : MapIs P K w b f) {C : Array Value} {T : TypeId} {fr : Nat × Nat} (hg : w.heap[g]? = some (.cells C T fr)) : g ≠ b := by
  obtain ⟨es, ck, hb, r⟩ := h
  rintro rfl
  rw [hb] at hg; cases hg
theorem mapIs_made (P : Program) (K : TypeId) (w : World) : MapIs P K (w.alloc (.map #[] 0)) w.heap.size (fun _ _ => none) :=
  ⟨#[], 0, (MapKept.heap_alloc w _).1, by simp, stamped_empty 0, by simp, by simp⟩

section
variable {P : Program} {K E T : TypeId} {w : World} {b : Nat} {f : Int → Int → Option Value}
def upd (f : Int → Int → Option Value) (x y : Int) (v : Value) : Int → Int → Option Value := fun a b => if a = x ∧ b = y then some v else f a b

theorem IsMap.push {es : Array MapEntry} {ck : Nat} (h : IsMap P K es ck f) {x y : Int} {v : Value} {l : Lit} (hx : keyOf P K (way x y) = some l) (g2 : ∀ e ∈ es.toList, e.key ≠ way x y) :
    IsMap P K (es.push ⟨way x y, v, ck⟩) (ck + 1) (upd f x y v) := by
  refine ⟨?_, stamped_push h.st g2, ?_, ?_⟩
  · intro e he
    simp only [Array.toList_push, List.mem_append, List.mem_singleton] at he
    rcases he with he | rfl
    · exact h.keys e he
    · exact ⟨l, hx⟩
  · intro e he
    simp only [Array.toList_push, List.mem_append, List.mem_singleton] at he
    rcases he with he | rfl
    · obtain ⟨p, q, hpq, hf⟩ := h.has e he
      refine ⟨p, q, hpq, ?_⟩
      unfold upd; rw [if_neg (fun h => g2 e he (by rw [hpq, h.1, h.2]))]; exact hf
    · exact ⟨x, y, rfl, by simp [upd]⟩
  · intro p q u hy
    unfold upd at hy
    simp only [Array.toList_push, List.mem_append, List.mem_singleton]
    split at hy
    · rename_i e; obtain ⟨rfl, rfl⟩ := e; cases hy; exact ⟨_, .inr rfl, rfl, rfl⟩
    · obtain ⟨e, he, r⟩ := h.is p q u hy; exact ⟨e, .inl he, r⟩

theorem IsMap.set {es : Array MapEntry} {ck : Nat} (h : IsMap P K es ck f) {x y : Int} {v : Value} {l : Lit} (hx : keyOf P K (way x y) = some l) {j : Nat} {e : MapEntry} (g2 : es.toList[j]? = some e) (g3 : e.key = way x y)
    (F : MapEntry → MapEntry) (hFb : ∀ e, (F e).born = e.born) (hFk : (F e).key = way x y) (hFv : (F e).val = v) :
    IsMap P K (es.modify j F) ck (upd f x y v) ∧ (es.modify j F).toList[j]? = some (F e) := by
  have hj : es[j]? = some e := by simpa using g2
  have hjl : j < es.toList.length := (List.getElem?_eq_some_iff.1 g2).1
  have hlist : (es.modify j F).toList = es.toList.set j (F e) := by rw [Array.toList_modify, modify_eq_set _ _ _ _ g2]
  have hpw := ((stamped_iff es ck).1 h.st).2.2
  have hother : ∀ z ∈ es.toList, z.key = way x y → z = e := by
    intro z hy hyx
    obtain ⟨i, hi⟩ := List.getElem?_of_mem hy
    rcases Nat.lt_trichotomy i j with hij | rfl | hij
    · have := (List.pairwise_iff_getElem.1 hpw) i j (List.getElem?_eq_some_iff.1 hi).1 hjl hij
      rw [(List.getElem?_eq_some_iff.1 hi).2, (List.getElem?_eq_some_iff.1 g2).2, hyx, g3] at this
      exact absurd rfl this
    · exact Option.some.inj (hi.symm.trans g2)
    · have := (List.pairwise_iff_getElem.1 hpw) j i hjl (List.getElem?_eq_some_iff.1 hi).1 hij
      rw [(List.getElem?_eq_some_iff.1 hi).2, (List.getElem?_eq_some_iff.1 g2).2, hyx, g3] at this
      exact absurd rfl this
  have who : ∀ z ∈ es.toList.set j (F e), z = F e ∨ (z ∈ es.toList ∧ z.key ≠ way x y) := by
    intro z hy
    obtain ⟨i, hi⟩ := List.getElem?_of_mem hy
    by_cases hij : j = i
    · subst hij; rw [List.getElem?_set_self hjl] at hi; exact .inl (Option.some.inj hi).symm
    · rw [List.getElem?_set_ne hij] at hi
      refine .inr ⟨List.mem_of_getElem? hi, fun hyx => ?_⟩
      have := hother z (List.mem_of_getElem? hi) hyx
      subst this
      rcases Nat.lt_trichotomy i j with h5 | h5 | h5
      · have := (List.pairwise_iff_getElem.1 hpw) i j (List.getElem?_eq_some_iff.1 hi).1 hjl h5
        rw [(List.getElem?_eq_some_iff.1 hi).2, (List.getElem?_eq_some_iff.1 g2).2] at this
        exact this rfl
      · exact hij h5.symm
      · have := (List.pairwise_iff_getElem.1 hpw) j i hjl (List.getElem?_eq_some_iff.1 hi).1 h5
        rw [(List.getElem?_eq_some_iff.1 hi).2, (List.getElem?_eq_some_iff.1 g2).2] at this
        exact this rfl
  refine ⟨⟨?_, stamped_modify h.st j F (fun e _ => hFb e) (fun e' _ he' => ?_), ?_, ?_⟩, by rw [hlist, List.getElem?_set_self hjl]⟩
  · rw [hlist]; intro z hy
    rcases who z hy with rfl | ⟨hy, _⟩
    · exact ⟨l, by rw [hFk]; exact hx⟩
    · exact h.keys z hy
  · rw [hj] at he'; cases he'; rw [hFk, g3]
  · rw [hlist]; intro z hy
    rcases who z hy with rfl | ⟨hy, hn⟩
    · exact ⟨x, y, hFk, by simp [upd, hFv]⟩
    · obtain ⟨p, q, hpq, hf⟩ := h.has z hy
      refine ⟨p, q, hpq, ?_⟩
      unfold upd; rw [if_neg (fun h => hn (by rw [hpq, h.1, h.2]))]; exact hf
  · rw [hlist]; intro p q u hy
    unfold upd at hy
    split at hy
    · rename_i e2; obtain ⟨rfl, rfl⟩ := e2; cases hy
      exact ⟨_, List.mem_of_getElem? (by rw [List.getElem?_set_self hjl]), hFk, hFv⟩
    · rename_i hn
      obtain ⟨e2, he2, r1, r2⟩ := h.is p q u hy
      refine ⟨e2, ?_, r1, r2⟩
      obtain ⟨i, hi⟩ := List.getElem?_of_mem he2
      refine List.mem_of_getElem? (i := i) ?_
      rw [List.getElem?_set_ne]
      · exact hi
      · rintro rfl
        rw [g2] at hi; cases hi
        exact hn (way_inj (r1.symm.trans g3))

theorem turned_set {w : World} {b : Nat} {es : Array MapEntry} {ck : Nat} {o' : Obj} (hb : w.heap[b]? = some (.map es ck)) : Turned b w (setBlock w b o') := ⟨by simp [setBlock], fun k hk => heap_setBlock_other hb _ hk, rfl, rfl, rfl⟩

/-- What is found. -/
theorem MapIs.find (h : MapIs P K w b f) (L : Keyed P K) {x y : Int} {l : Lit} (hx : keyOf P K (way x y) = some l) :
    ∃ es ck, w.heap[b]? = some (.map es ck) ∧ IsMap P K es ck f ∧
      (((Instr.findKey K (way x y) es.toList).run P w = .ok none w ∧ (∀ e ∈ es.toList, e.key ≠ way x y) ∧ f x y = none) ∨
       ∃ j e, (Instr.findKey K (way x y) es.toList).run P w = .ok (some (j, e.val)) w ∧ es.toList[j]? = some e ∧ es[j]? = some e ∧ e.key = way x y ∧ f x y = some e.val) := by
  obtain ⟨es, ck, hb, hm⟩ := h
  refine ⟨es, ck, hb, hm, ?_⟩
  rcases L.find w hx es.toList hm.keys with ⟨g1, g2⟩ | ⟨j, e, g1, g2, g3⟩
  · refine .inl ⟨g1, g2, ?_⟩
    cases hf : f x y with
    | none => rfl
    | some v => obtain ⟨e, he, hk, _⟩ := hm.is x y v hf; exact absurd hk (g2 e he)
  · obtain ⟨x', y', hxy, hf⟩ := hm.has e (List.mem_of_getElem? g2)
    obtain ⟨rfl, rfl⟩ := way_inj (hxy.symm.trans g3)
    exact .inr ⟨j, e, g1, g2, by simpa using g2, g3, hf⟩

theorem MapIs.lookup (h : MapIs P K w b f) (L : Keyed P K) (ht : P.underlying T = some (.map K E)) {z : Value} (hz : (zeroValue E).run P w = .ok z w) {x y : Int} {l : Lit} (hx : keyOf P K (way x y) = some l) :
    (Instr.lookup T (.map (some b)) (way x y) false).run P w = .ok ((f x y).getD z) w := by
  obtain ⟨es, ck, hb, hm, ⟨g1, g2, hn⟩ | ⟨j, e, g1, g2, hj, g3, hf⟩⟩ := h.find L hx
  · simp [Instr.lookup, run_underlying ht, MapKept.run_getObj_map hb, L.check w _ hx, g1, hz, hn, Result.andThen]
  · simp [Instr.lookup, run_underlying ht, MapKept.run_getObj_map hb, L.check w _ hx, g1, hf, Result.andThen]

theorem MapIs.update (h : MapIs P K w b f) (L : Keyed P K) (ht : P.underlying T = some (.map K E)) {x y : Int} {v : Value} {l : Lit} (hx : keyOf P K (way x y) = some l) :
    ∃ w', (Instr.mapUpdate T (.map (some b)) (way x y) v).run P w = .ok () w' ∧ MapIs P K w' b (upd f x y v) ∧ Turned b w w' := by
  obtain ⟨es, ck, hb, hm, ⟨g1, g2, hn⟩ | ⟨j, e, g1, g2, hj, g3, hf⟩⟩ := h.find L hx
  · exact ⟨setBlock w b (.map (es.push ⟨way x y, v, ck⟩) (ck + 1)), by simp [Instr.mapUpdate, run_underlying ht, MapKept.run_getObj_map hb, L.check w false hx, g1, MapKept.run_setObj_map _ hb, Result.andThen, setBlock],
      ⟨_, _, heap_setBlock_same hb _, hm.push hx g2⟩, turned_set hb⟩
  · have hst := L.stays w hx
    exact ⟨setBlock w b (.map (es.modify j fun e' => { e' with key := way x y, val := v }) ck), by simp [Instr.mapUpdate, run_underlying ht, MapKept.run_getObj_map hb, L.check w false hx, g1, hj, g3, hst, MapKept.run_setObj_map _ hb, Result.andThen, setBlock],
      ⟨_, _, heap_setBlock_same hb _, (hm.set (v := v) hx g2 g3 (fun e' => { e' with key := way x y, val := v }) (fun _ => rfl) rfl rfl).1⟩, turned_set hb⟩

/-- The first half of a store: the entry is there then, with a stamp. -/
theorem MapIs.entry (h : MapIs P K w b f) (L : Keyed P K) (ht : P.underlying T = some (.map K E)) {z : Value} (hz : (zeroValue E).run P w = .ok z w) {x y : Int} {l : Lit} (hx : keyOf P K (way x y) = some l) :
    ∃ w' s, (Instr.mapEntry T (.map (some b)) (way x y)).run P w = .ok (.tuple #[(f x y).getD z, .int .i64 s]) w' ∧ EntryAt P K w' b (upd f x y ((f x y).getD z)) x y s ∧ Turned b w w' := by
  obtain ⟨es, ck, hb, hm, ⟨g1, g2, hn⟩ | ⟨j, e, g1, g2, hj, g3, hf⟩⟩ := h.find L hx
  · refine ⟨setBlock w b (.map (es.push ⟨way x y, z, ck⟩) (ck + 1)), (ck : Int), by simp [Instr.mapEntry, run_underlying ht, MapKept.run_getObj_map hb, L.check w false hx, g1, hz, hn, MapKept.run_setObj_map _ hb, Result.andThen, setBlock, goInt],
      ⟨_, _, heap_setBlock_same hb _, by rw [hn]; exact hm.push hx g2, es.size, ⟨way x y, z, ck⟩, by simp, rfl, rfl⟩, turned_set hb⟩
  · have hst := L.stays w hx
    obtain ⟨s1, s2⟩ := hm.set (v := e.val) hx g2 g3 (fun e' => { e' with key := way x y }) (fun _ => rfl) rfl rfl
    exact ⟨setBlock w b (.map (es.modify j fun e' => { e' with key := way x y }) ck), (e.born : Int), by simp [Instr.mapEntry, run_underlying ht, MapKept.run_getObj_map hb, L.check w false hx, g1, hj, g3, hst, hf, MapKept.run_setObj_map _ hb, Result.andThen, setBlock, goInt],
      ⟨_, _, heap_setBlock_same hb _, by rw [hf]; exact s1, j, _, s2, rfl, rfl⟩, turned_set hb⟩

theorem findIdx_born {es : Array MapEntry} {ck : Nat} (h : Stamped es ck) {j : Nat} {e : MapEntry} (he : es.toList[j]? = some e) : es.findIdx? (fun x => (x.born : Int) == (e.born : Int)) = some j := by
  have hjl : j < es.toList.length := (List.getElem?_eq_some_iff.1 he).1
  have hj2 : es[j]'(by simpa using hjl) = e := by have := (List.getElem?_eq_some_iff.1 he).2; simpa using this
  rw [Array.findIdx?_eq_some_iff_getElem]
  refine ⟨by simpa using hjl, by simp [hj2], fun i hij => ?_⟩
  have hnd := h.2.1
  have hi : i < es.toList.length := by omega
  have := (List.pairwise_iff_getElem.1 hnd) i j (by simpa using hi) (by simpa using hjl) hij
  simp only [List.getElem_map] at this
  have e2 : es.toList[j] = e := (List.getElem?_eq_some_iff.1 he).2
  rw [e2] at this
  simp only [Array.getElem_toList] at this
  simp only [Bool.not_eq_true, beq_eq_false_iff_ne]
  omega

/-- The second half of a store. -/
theorem EntryAt.store {x y s : Int} {l : Lit} (h : EntryAt P K w b f x y s) (hx : keyOf P K (way x y) = some l) (v : Value) :
    ∃ w', (Instr.entryStore T (.map (some b)) (.int .i64 s) v).run P w = .ok () w' ∧ MapIs P K w' b (upd f x y v) ∧ Turned b w w' := by
  obtain ⟨es, ck, hb, hm, j, e, g2, g3, rfl⟩ := h
  have hf := findIdx_born hm.st g2
  exact ⟨setBlock w b (.map (es.modify j fun e' => { e' with val := v }) ck), by simp [Instr.entryStore, MapKept.run_getObj_map hb, asInt, asIntOf, hf, MapKept.run_setObj_map _ hb, Result.andThen, setBlock],
    ⟨_, _, heap_setBlock_same hb _, (hm.set hx g2 g3 (fun e' => { e' with val := v }) (fun _ => rfl) g3 rfl).1⟩, turned_set hb⟩
end

/-- A store into a map, for the walk. -/
theorem wpList_mapUpdate_is {P : Program} (w : World) {ops : Array Oper} {rest : List Oper} {o : Oper} {a : Act} {Q : Exit → Act → World → Prop}
    (hg : o.guard = none) (m x v : Operand) (t : TypeId) (hop : o.op = Op.mapUpdate t m x v)
    (K E : TypeId) (L : Keyed P K) (ht : P.underlying t = some (.map K E)) (b : Nat) (f : Int → Int → Option Value)
    (hm : a.eval m = .map (some b)) (h : MapIs P K w b f) (p q : Int) (val : Value) (l : Lit) (hx : a.eval x = way p q) (hv : a.eval v = val) (hkey : keyOf P K (way p q) = some l)
    (hK : ∀ w', MapIs P K w' b (upd f p q val) → Turned b w w' → wpList P ops Q rest (a.put o.dst undef) w') :
    wpList P ops Q (o :: rest) a w := by
  refine wpList_plain hg fun K' hK' => ?_
  obtain ⟨w', hrun, r1, r2⟩ := h.update L ht (v := val) hkey
  unfold Oper.wp
  simp [execOp, hop, hm, hx, hv, hrun, Result.andThen]
  exact hK' _ _ (hK w' r1 r2)

end N
end Go.Proofs.Ytklcpopnggiepaa
