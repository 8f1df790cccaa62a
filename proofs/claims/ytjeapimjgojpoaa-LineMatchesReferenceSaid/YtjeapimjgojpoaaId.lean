/- Lines: 'Locate'. -/
import Derived.Test.YtjeapimjgojpoaaIc
import Derived.Laws.EntriesVeiled
set_option linter.unusedSimpArgs false
set_option linter.unusedVariables false
set_option maxRecDepth 100000
namespace Go.Proofs.Ytjeapimjgojpoaa
open Go.RowKit Go.Shelf
namespace G
attribute [local go_sem] Oper.semAt_some

/-- The nearest place of the first segments. -/
def bestN (l : List P2) (px py : Int) : Nat → Spt
  | 0 => spt0
  | k + 1 => keepS (bestN l px py k) (spotI l px py k)
def bestF (xs : List SB) : Spt := xs.foldl (fun b s => keepS b s.1) spt0
theorem bestF_snoc (xs : List SB) (x : SB) : bestF (xs ++ [x]) = keepS (bestF xs) x.1 := by simp [bestF]
theorem bestF_upto (l : List P2) (px py : Int) (m : Nat) (fS : Nat → SB) (hf : ∀ k, k < m → (fS k).1 = spotI l px py k) : ∀ k, k ≤ m → bestF (uptoL fS k) = bestN l px py k
  | 0, _ => rfl
  | k + 1, h => by rw [uptoL_succ, bestF_snoc, bestF_upto l px py m fS hf k (by omega), hf k (by omega)]; rfl
theorem spt0_B : spt0.B := ⟨⟨by decide, by decide⟩, ⟨by decide, by decide⟩⟩
theorem keepS_B {b s : Spt} (hb : b.B) (hs : s.B) : (keepS b s).B := by unfold keepS; split <;> assumption
theorem bestF_B (xs : List SB) : (bestF xs).B := by
  have : ∀ (ys : List SB) (b : Spt), b.B → (ys.foldl (fun b s => keepS b s.1) b).B := by
    intro ys
    induction ys with
    | nil => intro b h; exact h
    | cons y ys ih => intro b h; exact ih _ (keepS_B h y.2)
  exact this xs _ spt0_B

theorem spots_any (A : Option Addr) (c n : Nat) (px py : Int) (w : World) :
    Calls Try.prog 38 #[.slice A n c, .agg #[.int .i64 px, .int .i64 py]] w fun e w' => e = .returned (.func (.func 66) #[] #[.pointer (some ⟨w.heap.size, 0, none⟩), .pointer (some ⟨w.heap.size + 1, 0, none⟩)]) ∧ w' = (w.alloc (.cells #[.slice A n c] 38)).alloc (.cells #[.int .i64 px, .int .i64 py] 24) := by
  go_enter Try.func38, Try.ntmps38
  go_wp2
  go_ret
  exact ⟨rfl, rfl⟩

theorem keep_grown {M : Nat → Prop} {W W' : World} {row : Option Nat} (h : W.grownBy W' row) (hr : ∀ r, row = some r → M r) : Reg.Keep M W W' := by
  obtain ⟨h1, h2, h3, h4, h5⟩ := h
  exact ⟨h1, h2, h3, h4, fun k hk hm => h5 k hk (fun e => hm (hr k e.symm))⟩
theorem keep_weak {M M' : Nat → Prop} {w w' : World} (h : Reg.Keep M w w') (hm : ∀ k, M k → M' k) : Reg.Keep M' w w' := ⟨h.os, h.tape, h.output, h.size, fun k hk hn => h.block k hk (fun e => hn (hm k e))⟩
theorem keep_of {B : Nat} {w w' : World} (h : Below B w w') : Reg.Keep (fun k => B ≤ k) w w' := ⟨h.os, h.tape, h.output, h.size, fun k _ hm => h.block k (by omega)⟩
theorem keeps_from {B g : Nat} {C : Array Value} {T : TypeId} {W W' : World} (h : Reg.Keep (fun k => k = g) W W') (hb : Reg.Blk g C T W) : KeepsFrom B W W' :=
  ⟨h.size, fun k o _ ho hc => (h.block k (Array.getElem?_eq_some_iff.1 ho).1 (fun e => by
    subst e
    have hb' : W.heap[k]? = _ := hb
    rw [hb'] at ho
    injection ho with ho
    subst ho
    simp [Obj.isCells] at hc)).trans ho⟩

set_option maxHeartbeats 8000000 in
theorem locate_ok (A : Option Addr) (c : Nat) (l : List P2) (px py : Int) (m : Nat) (fS : Nat → SB) (w : World) (hl : LineAt w A l) (hv : validL l = true) (hon : onB px py = true) (hm : l.length = m + 1) (hlen : l.length ≤ 1000) (hf : ∀ k, k < m → (fS k).1 = spotI l px py k) :
    Calls Try.prog 16 #[.slice A l.length c, .agg #[.int .i64 px, .int .i64 py]] w fun e w' => e = .returned (.tuple #[.agg (bestN l px py m).cells, .int .i64 0]) ∧ Below w.heap.size w w' := by
  have HL := Lib.hid hl
  have HF := Lib.hid hf
  have HV := Lib.hid (fun W (h : LineAt W A l) => valid_line A c l W h (by omega))
  rw [hv] at HV
  have HON := Lib.hid (fun W => on_any px py W)
  rw [hon] at HON
  have HLen := Lib.hid (And.intro hm hlen)
  clear hl hf hv hon hm hlen
  refine (callsIn_wide (n := 5)).1 ?_
  refine callsIn_of_wp_marks Try.func16 rfl trivial ?_ rfl
  simp only [Try.ntmps16, List.size_toArray, List.length_cons, List.length_nil, Nat.reduceAdd, Nat.reduceSub, Array.replicate_succ, Array.replicate_zero, List.push_toArray, List.append_toArray, List.nil_append, List.cons_append]
  gi_wp2_with fail
  refine ⟨trivial, ?_⟩
  have hal : Below w.heap.size w ((w.alloc (.cells #[.int .i64 px, .int .i64 py] 24)).alloc (.cells #[.int .i64 0, .int .i64 0, .int .i64 0, .int .i64 0, .int .i64 0, .int .i64 0] 34)) := ((Below.refl _ _).alloc (Nat.le_refl _) _).alloc (by simp) _
  refine (callsIn_wide.2 (HV.out _ (HL.out.below hal))).mono ?_
  rintro e w1 ⟨rfl, hb1⟩
  have HB := Lib.hid (hal.trans (hb1.mono hal.size))
  obtain ⟨k3, k4⟩ := Reg.Blk.new2 hb1
  clear hal hb1 HV
  obtain ⟨c3, f3, z3⟩ := k3.facts
  have HK3 := Lib.hid k3
  have HK4 := Lib.hid k4
  clear k3 k4
  gi_wp2_with fail
  refine ⟨trivial, ?_⟩
  refine (callsIn_wide.2 (HON.out _)).mono ?_
  rintro e w2 ⟨rfl, hb2⟩
  replace HB := Lib.hid (HB.out.trans (hb2.mono HB.out.size))
  replace HK3 := Lib.hid (HK3.out.keep hb2)
  replace HK4 := Lib.hid (HK4.out.keep hb2)
  clear hb2 HON c3 f3 z3
  obtain ⟨c3, f3, z3⟩ := HK3.out.facts
  obtain ⟨cN, fN, zN⟩ := Reg.Blk.facts (Reg.Blk.at1 (w := w2) (C := #[.int .i64 0, .int .i64 0, .int .i64 0, .int .i64 0, .int .i64 0, .int .i64 0]) (T := 34) #[Value.nilFunc] 61 rfl)
  gi_wp2_with fail
  refine ⟨trivial, ?_⟩
  refine (callsIn_wide.2 (spots_any A c l.length px py _)).mono ?_
  rintro e w3 ⟨rfl, hw3⟩
  obtain ⟨n6, n7, n8, n9⟩ := Reg.Blk.new4 (w := w2) (C := #[.int .i64 0, .int .i64 0, .int .i64 0, .int .i64 0, .int .i64 0, .int .i64 0]) (T := 34) (C' := #[Value.func (Fn.func 37) #[] #[Value.pointer (some ⟨w2.heap.size, 0, none⟩)]]) (T' := 61)
    (C'' := #[.slice A l.length c]) (T'' := 38) (C3 := #[.int .i64 px, .int .i64 py]) (T3 := 24) (Below.refl _ _)
  rw [← hw3] at n6 n7 n8 n9
  have hal : Below w2.heap.size w2 w3 := by
    rw [hw3]
    exact ((((Below.refl _ _).alloc (Nat.le_refl _) _).alloc (by simp) _).alloc (by simp; omega) _).alloc (by simp; omega) _
  have hsz : w3.heap.size = w2.heap.size + 4 := by rw [hw3]; simp
  have HLine := Lib.hid ((HL.out.below HB.out).below hal)
  replace HB := Lib.hid (HB.out.trans (hal.mono HB.out.size))
  have hg : w.heap.size + 1 < w2.heap.size := HK4.out.lt
  replace HK4 := Lib.hid (HK4.out.keep hal)
  simp only [World.size_alloc]
  clear hal hw3 c3 f3 z3 cN fN zN HK3
  generalize w2.heap.size = g at *
  gi_wp2_with fail
  have hfW := HF.out
  refine wpIn_rangeFunc_ownH (α := SB) rfl (by decide) (gf := 66) (lb := #[.pointer (some ⟨g + 1 + 1, 0, none⟩), .pointer (some ⟨g + 1 + 1 + 1, 0, none⟩)]) rfl trivial (enters_of Try.func66 (by kernel_rfl) rfl)
    (encs := fun s => #[.agg s.1.cells]) (Kp := Reg.Keep (fun k => k = g ∨ w3.heap.size ≤ k)) (S := fun xs => xs = uptoL fS m) (Sp := fun _ => True) (N := m) (w0 := w3) ?seq (fun h k => keepK h k) ?kb (Below.refl _ _) (fun _ => rfl)
    (fun pre W => Reg.Keep (fun k => k = g ∨ w3.heap.size ≤ k) w3 W ∧ Reg.Blk g (bestF pre).cells 34 W) (fun _ _ _ => False) ?hI (fun _ _ _ _ _ hs _ _ => hs) ?h0
    (fun x a' W => ∃ Bx, w3.heap.size ≤ Bx ∧ Reg.Blk Bx x.1.cells 34 W ∧ a' = { tmps := #[.slice A l.length c, .agg #[.int .i64 px, .int .i64 py], undef, .pointer (some ⟨w.heap.size, 0, none⟩), .pointer (some ⟨w.heap.size + 1, 0, none⟩), .int .i64 0, .pointer (some ⟨g, 0, none⟩), .pointer (some ⟨g + 1, 0, none⟩), .pointer (some ⟨Bx, 0, none⟩),
        .slice A l.length c, .bool true, .bool false, .bool false, .agg #[.int .i64 px, .int .i64 py], .bool true, .bool false, .bool false, undef, .func (Fn.func 37) #[] #[.pointer (some ⟨g, 0, none⟩)], .slice A l.length c, .agg #[.int .i64 px, .int .i64 py],
        .func (Fn.func 66) #[] #[.pointer (some ⟨g + 1 + 1, 0, none⟩), .pointer (some ⟨g + 1 + 1 + 1, 0, none⟩)], .agg x.1.cells, undef, undef, undef, undef], defers := [] }) ?hAx ?assign ?body ?done ?stop
  case seq =>
    intro l₀ J Jx W hW hJ hJx hY h0
    have hKW : Reg.Keep (fun k => k = g ∨ w3.heap.size ≤ k) w3 W := keep_below hW
    exact callsIn_wide.2 (spots1_any 3 l₀ (fun k => k = g ∨ w3.heap.size ≤ k) (g + 1 + 1) (g + 1 + 1 + 1) A c l px py m fS J Jx W HLen.out.1 HLen.out.2 (by omega) (by omega)
      (fun b off hA => by
        obtain ⟨b', off', hA', hb, _⟩ := HL.out 0 (by have := HLen.out; omega)
        rw [hA] at hA'
        injection hA' with h1
        injection h1 with h2
        subst h2
        omega)
      (n8.keep hW) (n9.keep hW) (HLine.out.below hW) hfW (fun s v v' h hb => hJ s v v' none h (below_grown hb) (fun r e => by cases e)) hY h0)
  case kb => exact fun W k o o' hk ho _ _ => ⟨rfl, rfl, rfl, by simp, fun j hj hm => World.putObj_heap_other (fun e => hm (.inr (by omega)))⟩
  case hI =>
    intro s W W' row hs hgr hr
    have hmr : ∀ r, row = some r → w3.heap.size ≤ r := fun r e => (hr r e).1
    refine ⟨keepK hs.1 (keep_grown hgr fun r e => .inr (hmr r e)), ?_⟩
    exact blkK hs.2 (M := fun k => w3.heap.size ≤ k) (keep_grown hgr hmr) (by omega)
  case h0 => exact ⟨keep_below (Below.refl _ _), n6⟩
  case hAx =>
    rintro x a' s W W' row ⟨Bx, hBx, hb, rfl⟩ hgr hr
    refine ⟨Bx, hBx, ?_, rfl⟩
    exact blkK hb (M := fun k => row = some k) (keep_grown hgr fun r e => e) (fun e => by
      obtain ⟨_, o, ho, hc⟩ := hr Bx e
      rw [hb] at ho
      injection ho with ho
      subst ho
      simp [Obj.isCells] at hc)
  case assign =>
    intro l₀ pre x W K hi hK
    have hab : Below W.heap.size W (W.alloc (.cells x.1.cells 34)) := (Below.refl _ _).alloc (Nat.le_refl _) _
    have hgo := hK _ _ ((KeepsOthers.alloc _ _).from _) (keep_below hab) ⟨keepK hi.1 (keep_below hab), hi.2.alloc _⟩ ⟨W.heap.size, hi.1.size, Reg.Blk.new _ _ _, rfl⟩
    have HG := Lib.hid hgo
    clear hgo hK
    simp only [Spt.cells] at HG ⊢
    gi_wp2_with fail
    exact HG.out
  case body =>
    rintro l₀ pre x a' W hl ⟨r, hr⟩ hI ⟨Bx, hBx, hb, rfl⟩ hlt
    have HI := Lib.hid hI
    have HQ := Lib.hid (keep_any x.1 (bestF pre) g W hI.2 x.2 (bestF_B pre))
    obtain ⟨c7, f7, z7⟩ := (blkK n7 hI.1 (by omega)).facts
    simp only [Spt.cells] at hb
    obtain ⟨cx, fx, zx⟩ := hb.facts
    clear hI hb hr n6 n7 n8 n9
    gi_wp2_with fail
    refine ⟨trivial, ?_⟩
    refine (CallsIn.inRound l₀ (callsIn_wide.2 HQ.out)).mono ?_
    rintro e W' ⟨rfl, hk, hbk⟩
    have HE := Lib.hid (And.intro hk hbk)
    clear hk hbk HQ
    gi_wp2_with fail
    refine ⟨keeps_from HE.out.1 HI.out.2, ?_, ?_, ?_⟩
    · exact keep_weak HE.out.1 fun k e => .inl e
    · exact keepK HI.out.1 (keep_weak HE.out.1 fun k e => .inl e)
    · rw [bestF_snoc]; exact HE.out.2
  case done =>
    rintro D xs W hD rfl ⟨hkp, hbest⟩ hdef
    rw [bestF_upto l px py m fS hfW m (Nat.le_refl _)] at hbest
    have hk4 := blkK HK4.out hkp (by omega)
    simp only [Spt.cells] at hbest
    obtain ⟨cg, fg, zg⟩ := hbest.facts
    obtain ⟨c4, f4, z4⟩ := hk4.facts
    have HKp := Lib.hid hkp
    have HDef := Lib.hid hdef
    have HK4b := Lib.hid hk4
    clear hkp hdef hbest hk4 n6 n7 n8 n9
    gi_wp2_with fail
    have hu := Reg.upd6 (x := .int .i64 (bestN l px py m).seg) (y := .int .i64 (bestN l px py m).pn) (z := .int .i64 (bestN l px py m).pd) (t := .int .i64 (bestN l px py m).side) (u := .int .i64 (bestN l px py m).an) (v := .int .i64 (bestN l px py m).ad) HK4b.out
    have hDg : D ≠ w.heap.size + 1 := by omega
    have hdf := (hu.far D hDg).trans HDef.out
    have hn4 : Reg.Blk (w.heap.size + 1) _ _ _ := hu.at_
    have hz3 : w.heap.size ≤ w3.heap.size := HB.out.size
    have kA : Reg.Keep (fun k => w.heap.size ≤ k) w w3 := keep_of HB.out
    have kB : Reg.Keep (fun k => w.heap.size ≤ k) w3 W := keep_weak HKp.out fun k e => by omega
    have kC := Reg.updK (M := fun k => w.heap.size ≤ k) (g := w.heap.size + 1) (by omega) _ _ _ _ (keepK kA kB) hu
    generalize ((((((W.setCell _ _).setCell _ _).setCell _ _).setCell _ _).setCell _ _).setCell _ _) = Wn at *
    have kD : Reg.Keep (fun k => w.heap.size ≤ k) w (Wn.putObj D (.deferred none)) := keepK kC ⟨rfl, rfl, rfl, by simp, fun j hj hm => World.putObj_heap_other (fun e => hm (by omega))⟩
    have hn5 : Reg.Blk (w.heap.size + 1) _ _ (Wn.putObj D (.deferred none)) := (World.putObj_heap_other (fun e => hDg e.symm)).trans hn4
    obtain ⟨c5, f5, z5⟩ := hn5.facts
    refine ⟨by simp, .inl ⟨_, _, rfl, run_takeDeferred hdf, ?_⟩⟩
    refine ⟨.tuple #[.agg (bestN l px py m).cells, .int .i64 0], ?_, ?_⟩
    · simp [results, Try.results16, go_sem, c5, Spt.cells]
    · exact ⟨rfl, kD.below fun k hk => by omega⟩
  case stop => exact fun _ _ _ _ _ _ h _ => h.elim

end G
end Go.Proofs.Ytjeapimjgojpoaa
