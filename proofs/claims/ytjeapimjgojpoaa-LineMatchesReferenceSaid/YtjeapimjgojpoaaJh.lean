/- Lines: plain laws of the order of places. -/
import Derived.Test.YtjeapimjgojpoaaIk
import Derived.Test.YtjeapimjgojpoaaIg
set_option linter.unusedSimpArgs false
set_option linter.unusedVariables false
set_option maxRecDepth 100000
namespace Go.Proofs.Ytjeapimjgojpoaa
open Go.RowKit
namespace G

def kc (a b : Spt) : Int := (compareI a.norm.pn a.norm.pd b.norm.pn b.norm.pd).1
theorem cmp_bd {n1 d1 n2 d2 : Int} : -1 ≤ (compareI n1 d1 n2 d2).1 ∧ (compareI n1 d1 n2 d2).1 ≤ 1 := by
  unfold compareI cmpI
  split
  · split
    · simp
    · split <;> simp
  · simp
theorem norm_valid {s : Spt} (h : s.formed = true) : validI s.norm.pn s.norm.pd = true := by
  have hf := (formed_iff s).1 h
  unfold Spt.norm
  split
  · show validI 0 1 = true
    decide +kernel
  · exact hf.2.1
theorem norm_pos {s : Spt} (h : s.formed = true) : 0 < s.norm.pd ∧ 0 ≤ s.norm.pn := by
  have hf := (formed_iff s).1 h
  have := valid_parts hf.2.1
  unfold Spt.norm
  split
  · simp
  · exact ⟨this.1, hf.2.2.1⟩
theorem cmp_flip {n1 d1 n2 d2 : Int} (h1 : validI n1 d1 = true) (h2 : validI n2 d2 = true) : (compareI n2 d2 n1 d1).1 = -(compareI n1 d1 n2 d2).1 := by
  have a := cmp_spec h1 h2
  have b := cmp_spec h2 h1
  have c := cmp_bd (n1 := n1) (d1 := d1) (n2 := n2) (d2 := d2)
  have d := cmp_bd (n1 := n2) (d1 := d2) (n2 := n1) (d2 := d1)
  rcases Int.lt_trichotomy (n1 * d2) (n2 * d1) with h | h | h
  · have := a.2.1.2 h
    have e1 : ¬ (compareI n2 d2 n1 d1).1 < 0 := fun hh => by have := b.2.1.1 hh; omega
    have e2 : ¬ (compareI n2 d2 n1 d1).1 = 0 := fun hh => by have := b.2.2.1 hh; omega
    omega
  · have := a.2.2.2 h
    have := b.2.2.2 h.symm
    omega
  · have := b.2.1.2 h
    have e1 : ¬ (compareI n1 d1 n2 d2).1 < 0 := fun hh => by have := a.2.1.1 hh; omega
    have e2 : ¬ (compareI n1 d1 n2 d2).1 = 0 := fun hh => by have := a.2.2.1 hh; omega
    omega
theorem before_cases {a b : Spt} (ha : a.formed = true) (hb : b.formed = true) : (a.norm.seg < b.norm.seg ∧ beforeI a b = -1) ∨ (b.norm.seg < a.norm.seg ∧ beforeI a b = 1) ∨ (a.norm.seg = b.norm.seg ∧ beforeI a b = kc a b) := by
  unfold beforeI kc
  rw [ha, hb]
  simp only [Bool.and_self, if_true]
  split
  · exact .inl ⟨by assumption, rfl⟩
  · split
    · exact .inr (.inl ⟨by assumption, rfl⟩)
    · exact .inr (.inr ⟨by omega, rfl⟩)
theorem before_no {a b : Spt} (h : (a.formed && b.formed) = false) : beforeI a b = 0 := by unfold beforeI; rw [h]; rfl
theorem before_flip (a b : Spt) : beforeI b a = -(beforeI a b) := by
  cases ha : a.formed with
  | false => rw [before_no (a := b) (by rw [ha]; simp), before_no (a := a) (by rw [ha]; simp)]; rfl
  | true =>
    cases hb : b.formed with
    | false => rw [before_no (a := b) (by rw [hb]; simp), before_no (a := a) (by rw [hb]; simp)]; rfl
    | true =>
      have hk : kc b a = -(kc a b) := cmp_flip (norm_valid ha) (norm_valid hb)
      rcases before_cases ha hb with ⟨h1, h2⟩ | ⟨h1, h2⟩ | ⟨h1, h2⟩ <;> rcases before_cases hb ha with ⟨k1, k2⟩ | ⟨k1, k2⟩ | ⟨k1, k2⟩ <;> omega
theorem before_refl (a : Spt) : beforeI a a = 0 := by have := before_flip a a; omega
theorem before_bd (a b : Spt) : -1 ≤ beforeI a b ∧ beforeI a b ≤ 1 := by
  cases h : a.formed && b.formed with
  | false => rw [before_no h]; omega
  | true =>
    rw [Bool.and_eq_true] at h
    have := cmp_bd (n1 := a.norm.pn) (d1 := a.norm.pd) (n2 := b.norm.pn) (d2 := b.norm.pd)
    rcases before_cases h.1 h.2 with ⟨h1, h2⟩ | ⟨h1, h2⟩ | ⟨h1, h2⟩
    · omega
    · omega
    · unfold kc at h2; omega
theorem kc_le {a b : Spt} (ha : a.formed = true) (hb : b.formed = true) : (kc a b ≤ 0 ↔ a.norm.pn * b.norm.pd ≤ b.norm.pn * a.norm.pd) ∧ (kc a b < 0 ↔ a.norm.pn * b.norm.pd < b.norm.pn * a.norm.pd) := by
  have h := cmp_spec (norm_valid ha) (norm_valid hb)
  unfold kc
  refine ⟨⟨fun h1 => ?_, fun h1 => ?_⟩, h.2.1⟩
  · rcases (by omega : (compareI a.norm.pn a.norm.pd b.norm.pn b.norm.pd).1 < 0 ∨ (compareI a.norm.pn a.norm.pd b.norm.pn b.norm.pd).1 = 0) with h2 | h2
    · have := h.2.1.1 h2; omega
    · have := h.2.2.1 h2; omega
  · rcases (by omega : a.norm.pn * b.norm.pd < b.norm.pn * a.norm.pd ∨ a.norm.pn * b.norm.pd = b.norm.pn * a.norm.pd) with h2 | h2
    · have := h.2.1.2 h2; omega
    · have := h.2.2.2 h2; omega
theorem before_trans {a b c : Spt} (ha : a.formed = true) (hb : b.formed = true) (hc : c.formed = true) (h1 : beforeI a b ≤ 0) (h2 : beforeI b c ≤ 0) : beforeI a c ≤ 0 ∧ ((beforeI a b < 0 ∨ beforeI b c < 0) → beforeI a c < 0) := by
  have pa := norm_pos ha
  have pb := norm_pos hb
  have pc := norm_pos hc
  have kab := kc_le ha hb
  have kbc := kc_le hb hc
  have kac := kc_le ha hc
  have k1 : kc a b ≤ 0 → kc b c ≤ 0 → kc a c ≤ 0 := fun x y => kac.1.2 (fr_le_le pa.1 pb.1 pc.1 (kab.1.1 x) (kbc.1.1 y))
  have k2 : kc a b < 0 → kc b c ≤ 0 → kc a c < 0 := fun x y => kac.2.2 (fr_lt_le pa.1 pb.1 pc.1 (kab.2.1 x) (kbc.1.1 y))
  have k3 : kc a b ≤ 0 → kc b c < 0 → kc a c < 0 := fun x y => kac.2.2 (fr_le_lt pa.1 pb.1 pc.1 (kab.1.1 x) (kbc.2.1 y))
  clear kab kbc kac pa pb pc
  rcases before_cases ha hb with ⟨x1, x2⟩ | ⟨x1, x2⟩ | ⟨x1, x2⟩
  · rcases before_cases hb hc with ⟨y1, y2⟩ | ⟨y1, y2⟩ | ⟨y1, y2⟩
    · rcases before_cases ha hc with ⟨z1, z2⟩ | ⟨z1, z2⟩ | ⟨z1, z2⟩ <;> omega
    · omega
    · rcases before_cases ha hc with ⟨z1, z2⟩ | ⟨z1, z2⟩ | ⟨z1, z2⟩ <;> omega
  · omega
  · rcases before_cases hb hc with ⟨y1, y2⟩ | ⟨y1, y2⟩ | ⟨y1, y2⟩
    · rcases before_cases ha hc with ⟨z1, z2⟩ | ⟨z1, z2⟩ | ⟨z1, z2⟩ <;> omega
    · omega
    · rcases before_cases ha hc with ⟨z1, z2⟩ | ⟨z1, z2⟩ | ⟨z1, z2⟩
      · omega
      · omega
      · rw [x2] at h1 ⊢
        rw [y2] at h2 ⊢
        rw [z2]
        exact ⟨k1 h1 h2, fun h => by rcases h with h | h; exact k2 h h2; exact k3 h1 h⟩
theorem before_law {a b c : Spt} (ha : a.formed = true) (hb : b.formed = true) (hc : c.formed = true) : ¬ (beforeI a b ≤ 0 ∧ beforeI b c ≤ 0 ∧ (0 < beforeI a c ∨ ((beforeI a b < 0 ∨ beforeI b c < 0) ∧ beforeI a c = 0))) := by
  rintro ⟨h1, h2, h3⟩
  have := before_trans ha hb hc h1 h2
  rcases h3 with h3 | ⟨h3, h4⟩
  · omega
  · have := this.2 h3; omega
theorem before_seg {a b : Spt} (ha : a.formed = true) (hb : b.formed = true) (h : a.seg < b.seg) : beforeI a b ≤ 0 := by
  have fa := (formed_iff a).1 ha
  have fb := (formed_iff b).1 hb
  have s1 : a.norm.seg = a.seg ∨ (a.norm.seg = a.seg + 1 ∧ a.norm.pn = 0 ∧ a.norm.pd = 1) := by
    unfold Spt.norm; split
    · right; simp
    · left; rfl
  have s2 : b.norm.seg = b.seg ∨ b.norm.seg = b.seg + 1 := by
    unfold Spt.norm; split
    · right; rfl
    · left; rfl
  have pb := norm_pos hb
  rcases before_cases ha hb with ⟨h1, h2⟩ | ⟨h1, h2⟩ | ⟨h1, h2⟩
  · omega
  · omega
  · rw [h2]
    refine (kc_le ha hb).1.2 ?_
    obtain ⟨e1, e2, e3⟩ : a.norm.seg = a.seg + 1 ∧ a.norm.pn = 0 ∧ a.norm.pd = 1 := by
      rcases s1 with s1 | s1
      · omega
      · exact s1
    rw [e2, e3]; omega

end G
end Go.Proofs.Ytjeapimjgojpoaa
