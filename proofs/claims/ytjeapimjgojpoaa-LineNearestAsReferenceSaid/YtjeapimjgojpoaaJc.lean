/- Numbers as lists of binary digits: 'digits'. -/
import Derived.Test.YtjeapimjgojpoaaJb
import Derived.Test.YtjeapimjgojpoaaAx
set_option linter.unusedSimpArgs false
set_option linter.unusedVariables false
set_option maxRecDepth 100000
namespace Go.Proofs.Ytjeapimjgojpoaa
open Go.RowKit
namespace G

theorem info_int : (Try.prog.info? 3).map (fun i => (i.zero, i.size, i.bytes)) = some (some (.int .i64 0), 1, 8) := by kernel_rfl
def dv (l : List Nat) : List Value := l.map fun d => .int .i64 (d : Nat)
theorem dv_one (l : List Nat) : ∀ u ∈ dv l, u.oneCell' = true := fun u hu => by obtain ⟨t, _, rfl⟩ := List.mem_map.1 hu; rfl
/-- A row of digits that owns its block. -/
def OwnD (B : Nat) (w : World) (v : Value) (l : List Nat) : Prop := w.ownsRow B 3 1 v l.length (dv l)
theorem OwnD.nil (B : Nat) (w : World) : OwnD B w (.slice none 0 0) [] := ⟨rfl, .inl ⟨rfl, rfl⟩⟩
theorem OwnD.below {B : Nat} {w w' : World} {v : Value} {l : List Nat} (h : OwnD B w v l) (hb : Below w.heap.size w w') : OwnD B w' v l := Ap.own_below h hb
theorem OwnD.dig {B : Nat} {w : World} {A : Option Addr} {c n : Nat} {l : List Nat} (h : OwnD B w (.slice A n c) l) : DigAt w A c l := by
  have h0 : w.ownsRow B 3 1 (.slice A n c) l.length (dv l) := h
  rcases h0.2 with ⟨e, h0⟩ | ⟨g, cap, cur, e, h2, hgg, h3, h4, _⟩
  · injection e with e1 e2 e3
    subst e1 e3
    exact ⟨fun i hi => by omega, by omega, by omega, fun _ => rfl⟩
  · injection e with e1 e2 e3
    subst e1 e2 e3
    have hs := Ap.SrcAt.own h0 (dv_one l)
    unfold maxLen at h4
    refine ⟨fun i hi => ?_, h3, h4, fun e => by cases e⟩
    obtain ⟨b, off, e, hb, c0⟩ := hs.at_ i (.int .i64 (l[i] : Nat)) (by unfold dv; rw [List.getElem?_map, List.getElem?_eq_getElem hi]; rfl)
    rw [dg_get hi]
    exact ⟨b, off, e, hb, c0⟩
theorem app1D {w0 w : World} {B cap : Nat} {A0 : Option Addr} {l : List Nat} (x : Nat) (hown : OwnD B w (.slice A0 l.length cap) l) (hn : l.length + 1 ≤ 1000000) (hB : Below B w0 w) (hBw : B ≤ w.heap.size) :
    ∃ A' c' w', (Ap.appA #[90, 90] 90 #[.slice A0 l.length cap, .slice (some ⟨w.heap.size, 0, none⟩) 1 1]).run Try.prog (w.alloc (.cells #[.int .i64 (x : Nat)] 3)) = .ok (.slice A' (l ++ [x]).length c') w' ∧
      OwnD B w' (.slice A' (l ++ [x]).length c') (l ++ [x]) ∧ Below B w0 w' := by
  obtain ⟨i0, hi0, hz⟩ := Option.map_eq_some_iff.1 info_int
  simp only [Prod.mk.injEq] at hz
  obtain ⟨hz0, hz1, hz2⟩ := hz
  have hb1 : Below w.heap.size w (w.alloc (.cells #[.int .i64 (x : Nat)] 3)) := (Below.refl _ _).alloc (Nat.le_refl _) _
  have hs : Ap.SrcAt (w.alloc (.cells #[.int .i64 (x : Nat)] 3)) (some ⟨w.heap.size, 0, none⟩) 1 1 [.int .i64 (x : Nat)] := Ap.SrcAt.blk1 (Reg.Blk.new w _ _) rfl
  obtain ⟨A', c', w', hrun, ho, hgr, _⟩ := Ap.run_appX (c := 1) Try.underlying90 hi0 hz0 hz1 hz2 rfl (by omega) (by omega) 90 (Ap.own_below hown hb1) hs (fun e => by cases e) hn (by simp; omega)
  have e1 : (l ++ [x]).length = l.length + 1 := by simp
  refine ⟨A', c', w', by rw [e1]; exact hrun, ?_, (hB.trans (hb1.mono hBw)).grown hgr (by simp; omega) (fun k e => ?_)⟩
  · show World.ownsRow _ _ _ _ _ _ _
    rw [e1, show dv (l ++ [x]) = dv l ++ [.int .i64 (x : Nat)] by simp [dv]]
    exact ho
  · have h0 : w.ownsRow B 3 1 (.slice A0 l.length cap) l.length (dv l) := hown
    exact (World.ownsRow.lt h0 k e).1

theorem digit_step (n : Int) : (n.tmod 2 < 0 → -(n.tmod 2) = ((n.natAbs % 2 : Nat) : Int)) ∧ (¬ n.tmod 2 < 0 → n.tmod 2 = ((n.natAbs % 2 : Nat) : Int)) ∧ (n.tdiv 2).natAbs = n.natAbs / 2 ∧ -1 ≤ n.tmod 2 ∧ n.tmod 2 ≤ 1 := by
  obtain ⟨k, hk⟩ : ∃ k, k = n.natAbs := ⟨_, rfl⟩
  have e1 : ((k : Int)).tmod 2 = ((k % 2 : Nat) : Int) := rfl
  have e2 : ((k : Int)).tdiv 2 = ((k / 2 : Nat) : Int) := rfl
  rw [← hk]
  rcases Int.natAbs_eq n with h | h
  · rw [← hk] at h
    rw [h, e1, e2]; omega
  · rw [← hk] at h
    rw [h, Int.neg_tmod, Int.neg_tdiv, e1, e2]; omega

attribute [local go_sem ↓ high] Ap.builtin_appA in
set_option maxHeartbeats 4000000 in
theorem digits_any (n : Int) (w : World) (hn : -9223372036854775808 < n ∧ n ≤ 9223372036854775807) :
    Calls Try.prog 63 #[.int .i64 n] w fun e w' => (∃ A c, e = .returned (.slice A (bitsOf n.natAbs).length c) ∧ DigAt w' A c (bitsOf n.natAbs)) ∧ Below w.heap.size w w' := by
  obtain ⟨K, hK⟩ : ∃ K, K = bitsOf n.natAbs := ⟨_, rfl⟩
  have hlen : K.length ≤ 63 := by rw [hK]; exact bits_len_le (by omega)
  rw [← hK]
  have HK := Lib.hid (And.intro hK hlen)
  have HN := Lib.hid hn
  clear hK hlen hn
  go_enter Try.func63, Try.ntmps63
  go_wp2_with fail
  go_loopw [0, 3, 4] (fun x v _ wr => ∃ (m : Int) (L : List Nat) (A : Option Addr) (c : Nat), x = .int .i64 m ∧ v = .slice A L.length c ∧ K = L ++ bitsOf m.natAbs ∧ m.natAbs ≤ n.natAbs ∧ OwnD w.heap.size wr (.slice A L.length c) L ∧ Below w.heap.size w wr) (fun x _ _ _ => (intOf x).natAbs)
  case atStart => exact ⟨n, [], none, 0, rfl, rfl, HK.out.1, Nat.le_refl _, OwnD.nil _ _, Below.refl _ _⟩
  case round =>
    obtain ⟨m, L, A, c, rfl, rfl, hKL, hm, ho, hbw⟩ := hrel
    have HKL := Lib.hid hKL
    have HM := Lib.hid hm
    have HO := Lib.hid ho
    have HB := Lib.hid hbw
    clear hKL hm ho hbw
    by_cases hz : m = 0
    · subst hz
      have e : K = L := by have h := HKL.out; simp only [Int.natAbs_zero, bits_zero, List.append_nil] at h; exact h
      subst e
      have H2 : Hid (DigAt wr A c K) := HO.out.dig
      clear HO HKL
      go_wp2_with fail
      go_ret
      exact ⟨⟨_, _, rfl, H2.out⟩, HB.out⟩
    · have hzb : (m == 0) = false := by rw [beq_eq_false_iff_ne]; exact hz
      obtain ⟨s1, s2, s3, s4, s5⟩ := digit_step m
      have hmb := HM.out
      have hnb := HN.out
      have hq : wrap64 (m.tdiv 2) = m.tdiv 2 := IntWalk.wrap64_in _ (by omega)
      have ht2 : wrap64 (-(m.tmod 2)) = -(m.tmod 2) := IntWalk.wrap64_in _ (by omega)
      have hb2 : K = (L ++ [m.natAbs % 2]) ++ bitsOf (m.tdiv 2).natAbs := by
        rw [s3, HKL.out, bits_pos (by omega)]; simp
      have hL : L.length + 1 ≤ 63 := by
        have h := HK.out.2
        rw [hb2] at h
        simp only [List.length_append, List.length_cons, List.length_nil] at h
        omega
      have hdec : (m.tdiv 2).natAbs < m.natAbs := by omega
      obtain ⟨A3, c3, w3, hrun, ho3, hL3⟩ := app1D (m.natAbs % 2) HO.out (by omega) HB.out HB.out.size
      have HO3 := Lib.hid ho3
      have HL3 := Lib.hid hL3
      have HB2 := Lib.hid hb2
      have HDEC := Lib.hid hdec
      have HM2 : Hid ((m.tdiv 2).natAbs ≤ n.natAbs) := by unfold Hid; omega
      rw [show (L ++ [m.natAbs % 2]).length = L.length + 1 by simp] at hrun HO3
      have hlv : L.length + 1 = (L ++ [m.natAbs % 2]).length := by simp
      have HLV := Lib.hid hlv
      clear hmb hnb hb2 hdec ho3 hL3 hL s3 s4 s5 HKL hlv
      obtain ⟨u, hu⟩ : ∃ u, m.tdiv 2 = u := ⟨_, rfl⟩
      obtain ⟨t, htt⟩ : ∃ t, m.tmod 2 = t := ⟨_, rfl⟩
      rw [hu] at hq HB2 HDEC HM2
      rw [htt] at s1 s2 ht2
      by_cases hneg : t < 0
      · have e1 := s1 hneg
        clear s1 s2
        replace ht2 := ht2.trans e1
        clear e1
        generalize m.natAbs % 2 = v at *
        go_wp2_with fail
        exact ⟨⟨u, L ++ [v], A3, c3, by rw [hq], by rw [HLV.out], HB2.out, HM2.out, by rw [← HLV.out]; exact HO3.out, HL3.out⟩, by simp only [intOf, hq]; exact HDEC.out⟩
      · have e1 := s2 hneg
        clear s1 s2 ht2
        subst e1
        have hneg' : decide (((m.natAbs % 2 : Nat) : Int) < 0) = false := decide_eq_false hneg
        generalize m.natAbs % 2 = v at *
        go_wp2_with fail
        exact ⟨⟨u, L ++ [v], A3, c3, by rw [hq], by rw [HLV.out], HB2.out, HM2.out, by rw [← HLV.out]; exact HO3.out, HL3.out⟩, by simp only [intOf, hq]; exact HDEC.out⟩

end G
end Go.Proofs.Ytjeapimjgojpoaa
