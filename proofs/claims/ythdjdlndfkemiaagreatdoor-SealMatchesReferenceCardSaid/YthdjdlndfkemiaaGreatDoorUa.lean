/- Trees: the walk of 'TreeGrows'. -/
import Derived.Test.YthdjdlndfkemiaaGreatDoorTx
set_option linter.unusedSimpArgs false
set_option linter.unusedVariables false
set_option maxRecDepth 100000
namespace Go.Proofs.YthdjdlndfkemiaaGreatDoor
open Go.RowKit
namespace S

theorem all_take {l : List Tx} (h : l.all isD = true) (k : Nat) : (l.take k).all isD = true := List.all_eq_true.2 fun t ht => List.all_eq_true.1 h t (List.mem_of_mem_take ht)
theorem all_drop {l : List Tx} (h : l.all isD = true) (k : Nat) : (l.drop k).all isD = true := List.all_eq_true.2 fun t ht => List.all_eq_true.1 h t (List.mem_of_mem_drop ht)
theorem all_snoc {l : List Tx} {x : Tx} (h : l.all isD = true) (k : isD x = true) : (l ++ [x]).all isD = true := by rw [List.all_append, h]; simp [k]
theorem root_all {l : List Tx} (h : l.all isD = true) : isD (rootT l) = true := root_dig l fun t ht => List.all_eq_true.1 h t ht
theorem path_dig : ∀ n (l : List Tx) i, l.length = n → l.all isD = true → (pathT l i).all isD = true := by
  intro n
  induction n using Nat.strongRecOn with
  | ind n ih =>
    intro l i hl h
    by_cases h2 : 2 ≤ n
    · obtain ⟨k0, k1, k2, _⟩ := hf_spec h2
      by_cases hk : i < hf n
      · rw [path_left (by omega) (by rw [hl]; exact hk), hl]
        exact all_snoc (ih (hf n) k1 _ _ (by simp; omega) (all_take h _)) (root_all (all_drop h _))
      · rw [path_right (by omega) (by rw [hl]; exact hk), hl]
        exact all_snoc (ih (n - hf n) (by omega) _ _ (by simp; omega) (all_drop h _)) (root_all (all_take h _))
    · rw [path_one _ (by omega)]; rfl
theorem link_dig : ∀ n (l : List Tx) m wh, l.length = n → l.all isD = true → (linkT l m wh).all isD = true := by
  intro n
  induction n using Nat.strongRecOn with
  | ind n ih =>
    intro l m wh hl h
    by_cases hlt : m < n
    · by_cases h2 : 2 ≤ n
      · obtain ⟨k0, k1, k2, _⟩ := hf_spec h2
        by_cases hk : m ≤ hf n
        · rw [link_left wh (by omega) (by omega) (by rw [hl]; exact hk), hl]
          exact all_snoc (ih (hf n) k1 _ _ _ (by simp; omega) (all_take h _)) (root_all (all_drop h _))
        · rw [link_right wh (by omega) (by omega) (by rw [hl]; exact hk), hl]
          exact all_snoc (ih (n - hf n) (by omega) _ _ _ (by simp; omega) (all_drop h _)) (root_all (all_take h _))
      · rw [linkT, if_neg (by omega), if_pos (by omega)]; rfl
    · rw [link_end wh (by omega)]
      cases wh with
      | true => rfl
      | false => simpa using root_all h
/-- What 'Link' gives extends. -/
theorem grow_ext (l : List Tx) (m : Nat) (hl : l.all isD = true) (hm : m ≤ l.length) (hn : l.length ≤ 1000000) : extB (rootT (l.take m)) m (rootT l) l.length (lnk l m) = true := by
  unfold extB
  have e1 : decide ((0 : Int) ≤ (m : Int)) = true := decide_eq_true (by omega)
  have e2 : decide ((m : Int) ≤ (l.length : Int)) = true := decide_eq_true (by omega)
  have e3 : decide ((l.length : Int) ≤ 1000000) = true := decide_eq_true (by omega)
  rw [e1, e2, e3, root_all (all_take hl m), root_all hl]
  unfold lnk
  by_cases h0 : m = 0
  · subst h0
    rw [if_pos rfl, if_pos (by simp), List.take_zero, root_nil]
    by_cases hz : l.length = 0
    · rw [List.eq_nil_of_length_eq_zero hz, root_nil]; simp
    · have : decide ((0 : Int) < (l.length : Int)) = true := decide_eq_true (by omega)
      rw [this]; simp
  · rw [if_neg h0, if_neg (by omega), link_dig l.length l m true rfl hl, Int.toNat_natCast, Int.toNat_natCast, both_link l.length l m true _ rfl (by omega) hm (fun _ => rfl), link_len l.length l m true rfl (by omega)]
    simp
theorem grow_len (l : List Tx) (m : Nat) (hm : m ≤ l.length) : (lnk l m).length ≤ bitsN l.length + 1 ∧ ((lnk l m).length = 0 ↔ (m = 0 ∨ m = l.length)) := by
  unfold lnk
  by_cases h0 : m = 0
  · subst h0; simp
  · rw [if_neg h0, link_len l.length l m true rfl (by omega)]
    refine ⟨long_bits _ _ (by omega), ?_⟩
    rw [long_zero _ _ (by omega) hm]
    simp [h0]
theorem bits_step {k : Nat} (h : 0 < k) : bitsN k = bitsN (k / 2) + 1 := by
  conv => lhs; rw [bitsN]
  rw [if_neg (by omega)]
theorem bits_zero : bitsN 0 = 0 := by rw [bitsN]; simp
theorem tdiv2 (k : Nat) : Int.tdiv (k : Int) 2 = ((k / 2 : Nat) : Int) := by rw [Int.tdiv_eq_ediv_of_nonneg (by omega)]; omega

end S
end Go.Proofs.YthdjdlndfkemiaaGreatDoor

/- Trees: the walk of 'TreeIncludes'. -/
namespace Go.Proofs.YthdjdlndfkemiaaGreatDoor
open Go.RowKit
namespace S

theorem run_appS2 (ty : TypeId) {w : World} {B cap c n : Nat} {A0 A : Option Addr} {l m : List Tx} (hown : Own B w (.slice A0 l.length cap) l) (hm : Lst w A n c m) (hn : l.length + n ≤ 1000000) (hB : B ≤ w.heap.size) (h0 : l = [] → A0 = none ∨ cap = 0) :
    ∃ A' c' w', (Builtin.append_ #[27, 27] ty #[.slice A0 l.length cap, .slice A n c]).run Tryz.prog w = .ok (.slice A' (l.length + n) c') w' ∧ Own B w' (.slice A' (l ++ m).length c') (l ++ m) ∧
      Reg.Keep (fun q => B ≤ q) w w' ∧ (∀ g x T, Reg.Blk g #[x] T w → Reg.Blk g #[x] T w') ∧ (l ++ m = [] → A' = none ∨ c' = 0) := by
  obtain ⟨hy, rfl, hcc, _, hA⟩ := hm
  obtain ⟨i0, hi0, hz⟩ := Option.map_eq_some_iff.1 info_str
  simp only [Prod.mk.injEq] at hz
  obtain ⟨hz0, hz1, hz2⟩ := hz
  by_cases hm : m = []
  · subst hm
    have hs : Src Tryz.prog i0.size 27 (.slice A 0 c) 0 [] w := by
      cases A with
      | none => exact Src.ofNil w Tryz.underlying27 c
      | some a => exact Src.ofSlice w Tryz.underlying27 a 0 c [] (by simp) (fun j u h => by simp at h) (fun u h => by simp at h)
    obtain ⟨A1, c1, e, _, hle, _, hA1, _⟩ := hown.parts
    injection e with e1 _ e3
    subst e1 e3
    have hr := run_append_nothing (P := Tryz.prog) w 27 27 ty _ i0 Tryz.underlying27 hi0 A0 l.length cap hle (.slice A 0 c) hs
    refine ⟨A0, cap, w, hr, by rw [List.append_nil]; exact hown, keep_refl _ _, fun _ _ _ h => h, by rw [List.append_nil]; exact h0⟩
  · have hpos : 0 < m.length := List.length_pos_iff.2 hm
    obtain ⟨A', c', w', hrun, ho, hgr, hbl⟩ := Ap.run_appX (c := c) Tryz.underlying27 hi0 hz0 hz1 hz2 rfl (by omega) (by omega) ty hown (src_of hy) hA hn hB
    have h0' : w.ownsRow B 9 1 (.slice A0 l.length cap) l.length (sv l) := hown
    refine ⟨A', c', w', hrun, ?_, ?_, fun g x T hk => ?_, fun e => absurd (List.append_eq_nil_iff.1 e).2 hm⟩
    · show World.ownsRow _ _ _ _ _ _ _
      rw [List.length_append, show sv (l ++ m) = sv l ++ sv m by simp [sv]]
      exact ho
    · refine ⟨hgr.os, hgr.tape, hgr.output, hgr.size, fun k hk hn => hgr.block k hk (fun e => hn ?_)⟩
      exact (h0'.lt k e.symm).1
    · by_cases hl : l = []
      · rcases h0 hl with hA0 | hc0
        · subst hA0
          exact (hgr.block g hk.lt (fun e => by simp [Value.ownBlock] at e)).trans hk
        · exact hk.keep (hbl (by omega))
      · have := List.length_pos_iff.2 hl
        exact Ap.app_beside h0' hgr hbl hk (by simp; omega)
theorem does_appS2 {ops : Array Oper} {o : Oper} {a : Act} {K : Act → World → Prop} {w : World} (hw : Region.wanted o (yielded ops a.tmps) = true) (s x : Operand) (ho : o.op = .call { callee := .builtin .append, args := #[s, x], argTypes := #[27, 27] })
    {B cap c n : Nat} {A0 A : Option Addr} {l m : List Tx} (hs : a.eval s = .slice A0 l.length cap) (hx : a.eval x = .slice A n c) (hown : Own B w (.slice A0 l.length cap) l) (hm : Lst w A n c m) (hn : l.length + n ≤ 1000000) (hB : B ≤ w.heap.size) (h0 : l = [] → A0 = none ∨ cap = 0)
    (h : ∀ A' c' w', Own B w' (.slice A' (l ++ m).length c') (l ++ m) → txR B w w' → (l ++ m = [] → A' = none ∨ c' = 0) → K (a.put o.dst (.slice A' (l ++ m).length c')) w') :
    Reg.Does Tryz.prog ops o a w K := by
  obtain ⟨A', c', w', hr, h2, h3, h4, h5⟩ := run_appS2 o.type hown hm hn hB h0
  unfold Reg.Does
  rw [if_pos hw]
  unfold Oper.wp execOp
  simp only [ho, resolve, invoke, builtin, Sem.run_bind, Sem.run_pure, Result.andThen_ok, List.map_toArray, List.map_cons, List.map_nil, hs, hx, hr]
  have := h A' c' w' h2 ⟨h3, h4⟩ h5
  rw [List.length_append, hm.len] at this
  exact this
def OwC (B : Nat) (w : World) (v : Value) (l : List Tx) : Prop := ∃ A c, v = .slice A l.length c ∧ Own B w v l ∧ (l = [] → A = none ∨ c = 0)
theorem OwC.below {B : Nat} {w w' : World} {v : Value} {l : List Tx} (h : OwC B w v l) (hb : Below w.heap.size w w') : OwC B w' v l := by
  obtain ⟨A, c, e, ho, h0⟩ := h
  exact ⟨A, c, e, ho.below hb, h0⟩
def inF (s : Tx) (d : Nat) (v : Value) (w : World) : Prop := (d = 17 → ∃ g, v = .slice (some ⟨g, 0, none⟩) 1 1 ∧ Reg.Blk g #[.string (str s)] 9 w) ∧ (d = 19 → v = .bool false)
theorem inF_s {B : Nat} {s : Tx} : ∀ d v w w', inF s d v w → txR B w w' → inF s d v w' := fun _ _ _ _ h k => ⟨fun e => by
  obtain ⟨g, e1, hk⟩ := h.1 e
  exact ⟨g, e1, k.2 _ _ _ hk⟩, h.2⟩
def inT (B : Nat) (p : List Tx) (s : Tx) : List Value → World → Prop
  | [], _ => True
  | [v0], w => OwC B w v0 []
  | [_, v1], w => OwC B w v1 p
  | _ :: _ :: v2 :: _, w => OwC B w v2 (p ++ [s])
theorem inT_s {B : Nat} {p : List Tx} {s : Tx} : ∀ vs w w', inT B p s vs w → Below w.heap.size w w' → inT B p s vs w' := fun vs w w' h hb => by
  match vs, h with
  | [], _ => trivial
  | [v0], h => exact OwC.below h hb
  | [_, v1], h => exact OwC.below h hb
  | _ :: _ :: v2 :: _, h => exact OwC.below h hb

theorem inc_yes (l : List Tx) (i : Nat) (hi : i < l.length) (hl : l.all isD = true) (hn : l.length ≤ 1000000) : checkB (rootT l) l.length i l[i] (pathT l i) = true := by
  unfold checkB
  have e1 : decide ((l.length : Int) ≤ 1000000) = true := decide_eq_true (by omega)
  have e2 : decide ((0 : Int) ≤ (i : Int)) = true := decide_eq_true (by omega)
  have e3 : decide ((i : Int) < (l.length : Int)) = true := decide_eq_true (by omega)
  rw [e1, e2, e3, path_dig l.length l i rfl hl, List.all_eq_true.1 hl _ (List.getElem_mem hi), Int.toNat_natCast, Int.toNat_natCast, up_path l.length l i hi rfl, path_len l.length l i rfl]
  simp
theorem inc_no {r : Tx} {n i : Nat} {d : Tx} {p : List Tx} (h : p.length ≠ lenT n i) : checkB r n i d p = false := by
  unfold checkB
  rw [Int.toNat_natCast, Int.toNat_natCast, beq_eq_false_iff_ne.2 h, Bool.and_false]

end S
end Go.Proofs.YthdjdlndfkemiaaGreatDoor
