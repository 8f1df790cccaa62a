/- Trees: the reference's 'Texts'. -/
import Derived.Test.YthdjdlndfkemiaaGreatDoorTo
import Derived.Test.YthdjdlndfkemiaaGreatDoorReu
set_option linter.unusedSimpArgs false
set_option linter.unusedVariables false
set_option maxRecDepth 100000
namespace Go.Proofs.YthdjdlndfkemiaaGreatDoor
open Go.RowKit
namespace S

/-- An append of strings: a block of one cell stays, unless the row owns it and is empty. -/
theorem run_appS (ty : TypeId) {w : World} {B cap c : Nat} {A0 A : Option Addr} {l m : List Tx} (hown : Own B w (.slice A0 l.length cap) l) (hy : StrsAt w A m) (hA : A = none → c = 0) (hn : l.length + m.length ≤ 1000000) (hB : B ≤ w.heap.size) (h0 : l = [] → A0 = none) :
    ∃ A' c' w', (Builtin.append_ #[27, 27] ty #[.slice A0 l.length cap, .slice A m.length c]).run Tryz.prog w = .ok (.slice A' (l.length + m.length) c') w' ∧ Own B w' (.slice A' (l ++ m).length c') (l ++ m) ∧
      Reg.Keep (fun q => B ≤ q) w w' ∧ (∀ g x T, Reg.Blk g #[x] T w → Reg.Blk g #[x] T w') ∧ (l ++ m = [] → A' = none) := by
  obtain ⟨i0, hi0, hz⟩ := Option.map_eq_some_iff.1 info_str
  simp only [Prod.mk.injEq] at hz
  obtain ⟨hz0, hz1, hz2⟩ := hz
  by_cases hm : m = []
  · subst hm
    have hs : Src Tryz.prog i0.size 27 (.slice A 0 c) 0 [] w := by
      cases A with
      | none => exact Src.ofNil w Tryz.underlying27 c
      | some a => exact Src.ofSlice w Tryz.underlying27 a 0 c [] (by simp) (fun j u h => by simp at h) (fun u h => by simp at h)
    obtain ⟨A1, c1, e, _, hle, _, hA1, _⟩ := hown.parts
    injection e with e1 _ e3
    subst e1 e3
    have hr := run_append_nothing (P := Tryz.prog) w 27 27 ty _ i0 Tryz.underlying27 hi0 A0 l.length cap hle (.slice A 0 c) hs
    refine ⟨A0, cap, w, hr, by rw [List.append_nil]; exact hown, keep_refl _ _, fun _ _ _ h => h, by rw [List.append_nil]; exact h0⟩
  · have hpos : 0 < m.length := List.length_pos_iff.2 hm
    obtain ⟨A', c', w', hrun, ho, hgr, hbl⟩ := Ap.run_appX (c := c) Tryz.underlying27 hi0 hz0 hz1 hz2 rfl (by omega) (by omega) ty hown (src_of hy) hA hn hB
    have h0' : w.ownsRow B 9 1 (.slice A0 l.length cap) l.length (sv l) := hown
    refine ⟨A', c', w', hrun, ?_, ?_, fun g x T hk => ?_, fun e => absurd (List.append_eq_nil_iff.1 e).2 hm⟩
    · show World.ownsRow _ _ _ _ _ _ _
      rw [List.length_append, show sv (l ++ m) = sv l ++ sv m by simp [sv]]
      exact ho
    · refine ⟨hgr.os, hgr.tape, hgr.output, hgr.size, fun k hk hn => hgr.block k hk (fun e => hn ?_)⟩
      exact (h0'.lt k e.symm).1
    · by_cases hl : l = []
      · have hA0 := h0 hl
        subst hA0
        exact (hgr.block g hk.lt (fun e => by simp [Value.ownBlock] at e)).trans hk
      · have := List.length_pos_iff.2 hl
        exact Ap.app_beside h0' hgr hbl hk (by simp; omega)
theorem does_appS {ops : Array Oper} {o : Oper} {a : Act} {K : Act → World → Prop} {w : World} (hw : Region.wanted o (yielded ops a.tmps) = true) (s x : Operand) (ho : o.op = .call { callee := .builtin .append, args := #[s, x], argTypes := #[27, 27] })
    {B cap c : Nat} {A0 A : Option Addr} {l m : List Tx} (hs : a.eval s = .slice A0 l.length cap) (hx : a.eval x = .slice A m.length c) (hown : Own B w (.slice A0 l.length cap) l) (hy : StrsAt w A m) (hA : A = none → c = 0) (hn : l.length + m.length ≤ 1000000) (hB : B ≤ w.heap.size) (h0 : l = [] → A0 = none)
    (h : ∀ A' c' w', Own B w' (.slice A' (l ++ m).length c') (l ++ m) → Reg.Keep (fun q => B ≤ q) w w' → (∀ g x T, Reg.Blk g #[x] T w → Reg.Blk g #[x] T w') → (l ++ m = [] → A' = none) → K (a.put o.dst (.slice A' (l ++ m).length c')) w') :
    Reg.Does Tryz.prog ops o a w K := by
  obtain ⟨A', c', w', hr, h2, h3, h4, h5⟩ := run_appS o.type hown hy hA hn hB h0
  unfold Reg.Does
  rw [if_pos hw]
  unfold Oper.wp execOp
  simp only [ho, resolve, invoke, builtin, Sem.run_bind, Sem.run_pure, Result.andThen_ok, List.map_toArray, List.map_cons, List.map_nil, hs, hx, hr]
  have := h A' c' w' h2 h3 h4 h5
  rw [List.length_append] at this
  exact this

theorem keepN {w w' : World} (h : Reg.Keep (fun _ => False) w w') : Below w.heap.size w w' := h.below fun _ hk => ⟨hk, fun h => h⟩
def jF (a b : Tx) (d : Nat) (v : Value) (w : World) : Prop := (d = 8 → ∃ g, v = .slice (some ⟨g, 0, none⟩) 3 3 ∧ Reg.Blk g #[.string { data := #[110, 111, 100, 101] }, .string (str a), .string (str b)] 9 w) ∧ (d = 9 → v = .string (str (jn a b)))
theorem jF_s {a b : Tx} : ∀ d v w w', jF a b d v w → Reg.Keep (fun _ => False) w w' → jF a b d v w' := fun _ _ _ _ h k => ⟨fun e => by
  obtain ⟨g, e1, hg⟩ := h.1 e
  exact ⟨g, e1, hg.keep (keepN k)⟩, h.2⟩
def OwnN (B : Nat) (w : World) (v : Value) (l : List Tx) : Prop := ∃ A c, v = .slice A l.length c ∧ Own B w v l ∧ (l = [] → A = none)
theorem OwnN.below {B : Nat} {w w' : World} {v : Value} {l : List Tx} (h : OwnN B w v l) (hb : Below w.heap.size w w') : OwnN B w' v l := by
  obtain ⟨A, c, e, ho, h0⟩ := h
  exact ⟨A, c, e, ho.below hb, h0⟩
theorem OwnN.base {B B' : Nat} {w : World} {v : Value} {l : List Tx} (h : OwnN B w v l) (hb : B' ≤ B) : OwnN B' w v l := by
  obtain ⟨A, c, e, ho, h0⟩ := h
  exact ⟨A, c, e, Ap.own_base ho hb, h0⟩
def txR (B : Nat) (w w' : World) : Prop := Reg.Keep (fun q => B ≤ q) w w' ∧ ∀ g x T, Reg.Blk g #[x] T w → Reg.Blk g #[x] T w'
def txF (s : Tx) (d : Nat) (v : Value) (w : World) : Prop := d = 10 → ∃ g, v = .slice (some ⟨g, 0, none⟩) 1 1 ∧ Reg.Blk g #[.string (str s)] 9 w
def txT (B : Nat) (l m : List Tx) (s : Tx) : List Value → World → Prop
  | [], _ => True
  | [v0], w => OwnN B w v0 l
  | [v0, v1], w => OwnN B w v0 l ∧ OwnN B w v1 m
  | [_, _, v2], w => OwnN B w v2 (l ++ m)
  | _ :: _ :: _ :: v3 :: _, w => OwnN B w v3 (l ++ m ++ [s])
theorem txR_t {B : Nat} : ∀ a b c, txR B a b → txR B b c → txR B a c := fun _ _ _ h k => ⟨keep_trans h.1 k.1, fun g x T hk => k.2 g x T (h.2 g x T hk)⟩
theorem txR_b {B : Nat} : ∀ w w', Below w.heap.size w w' → txR B w w' := fun _ _ hb => ⟨keep_below hb, fun _ _ _ hk => hk.keep hb⟩
theorem txF_s {B : Nat} {s : Tx} : ∀ d v w w', txF s d v w → txR B w w' → txF s d v w' := fun _ _ _ _ h k e => by
  obtain ⟨g, e1, hk⟩ := h e
  exact ⟨g, e1, k.2 _ _ _ hk⟩
theorem txT_s {B : Nat} {l m : List Tx} {s : Tx} : ∀ vs w w', txT B l m s vs w → Below w.heap.size w w' → txT B l m s vs w' := fun vs w w' h hb => by
  match vs, h with
  | [], _ => trivial
  | [v0], h => exact OwnN.below h hb
  | [v0, v1], ⟨h1, h2⟩ => exact ⟨h1.below hb, h2.below hb⟩
  | [_, _, v2], h => exact OwnN.below h hb
  | _ :: _ :: _ :: v3 :: _, h => exact OwnN.below h hb

theorem texts_len : ∀ n (l : List Tx), l.length = n → (textsT l).length ≤ n + 1 ∧ (1 ≤ n → (textsT l).length + 1 = n) := by
  intro n
  induction n using Nat.strongRecOn with
  | ind n ih =>
    intro l hl
    by_cases h2 : 2 ≤ n
    · obtain ⟨k0, k1, k2, _⟩ := hf_spec h2
      have h1 := (ih (hf n) k1 (l.take (hf n)) (by simp; omega)).2 (by omega)
      have h3 := (ih (n - hf n) (by omega) (l.drop (hf n)) (by simp; omega)).2 (by omega)
      rw [texts_step (by omega), hl]
      simp only [List.length_append, List.length_cons, List.length_nil]
      omega
    · rw [textsT, if_pos (by omega)]
      by_cases h0 : n = 0
      · rw [if_pos (by omega)]; simp; omega
      · rw [if_neg (by omega)]; simp; omega
theorem texts_one {l : List Tx} (h : l.length = 1) : textsT l = [] := by rw [textsT, if_pos (by omega), if_neg (by omega)]
theorem texts_nil : textsT [] = [joinT [emptyT]] := by rw [textsT]; simp

end S
end Go.Proofs.YthdjdlndfkemiaaGreatDoor

/- Trees: the reference's 'PathTexts', 'LinkTexts'. -/
namespace Go.Proofs.YthdjdlndfkemiaaGreatDoor
open Go.RowKit
namespace S

theorem pt_len : ∀ n i d (q : List Tx), (pathTexts n i d q).length = lenT n i := by
  intro n
  induction n using Nat.strongRecOn with
  | ind n ih =>
    intro i d q
    by_cases h2 : 2 ≤ n
    · obtain ⟨k0, k1, k2, _⟩ := hf_spec h2
      by_cases hk : i < hf n
      · rw [pt_left _ _ h2 hk, len_left h2 hk, List.length_append, ih (hf n) k1]; simp; omega
      · rw [pt_right _ _ h2 hk, len_right h2 hk, List.length_append, ih (n - hf n) (by omega)]; simp; omega
    · rw [pt_one _ _ _ (by omega), len_one _ (by omega)]; rfl
theorem lt_len : ∀ n m whole d (q : List Tx), (linkTexts n m whole d q).length ≤ 2 * n := by
  intro n
  induction n using Nat.strongRecOn with
  | ind n ih =>
    intro m whole d q
    by_cases hlt : m < n
    · by_cases h2 : 2 ≤ n
      · obtain ⟨k0, k1, k2, _⟩ := hf_spec h2
        by_cases hk : m ≤ hf n
        · rw [lt_left _ _ _ hlt h2 hk, List.length_append]; have := ih (hf n) k1 m whole d q.tail; simp; omega
        · rw [lt_right _ _ _ hlt h2 hk, List.length_append, List.length_append]; have := ih (n - hf n) (by omega) (m - hf n) false d q.tail; simp; omega
      · rw [linkTexts, if_neg (by omega), if_pos (by omega)]; simp
    · rw [lt_end _ _ _ (by omega)]; simp
theorem joinedN (a b : Tx) (ha : Sh a) (hb : Sh b) (w : World) : Calls Tryz.prog 36 #[.slice (some ⟨w.heap.size, 0, none⟩) 3 3] (w.alloc (.cells #[.string { data := #[110, 111, 100, 101] }, .string (str a), .string (str b)] 9)) fun e w' => e = .returned (.string (str (jn a b))) ∧ Below w.heap.size w w' :=
  joined_lit [nodeT, a, b] w (few_node ha hb)

end S
end Go.Proofs.YthdjdlndfkemiaaGreatDoor
