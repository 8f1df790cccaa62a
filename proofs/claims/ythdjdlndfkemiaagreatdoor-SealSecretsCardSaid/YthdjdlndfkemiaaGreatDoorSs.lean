/- Digests: the reference's 'digits', 'Decimal', 'Digit', 'Is'. -/
import Derived.Test.YthdjdlndfkemiaaGreatDoorSo
set_option linter.unusedSimpArgs false
set_option linter.unusedVariables false
set_option maxRecDepth 100000
namespace Go.Proofs.YthdjdlndfkemiaaGreatDoor
open Go.RowKit
namespace S

def dgt (d : Nat) : UInt8 := UInt8.ofNat (48 + d)
def decS : ByteArray := { data := #[48, 49, 50, 51, 52, 53, 54, 55, 56, 57] }
theorem decS_ext : ∀ d, d < 10 → (decS.extract d (d + 1)).data.toList = [dgt d] := by decide +kernel
theorem decS_str (d : Nat) (h : d < 10) : decS.extract d (d + 1) = str [dgt d] := by rw [← decS_ext d h, str_of]
def decR (u : Nat) : Tx := if u = 0 then [] else dec u
theorem dec_step (u : Nat) (h : u ≤ 1000000) : dec u = decR (u / 10) ++ [dgt (u % 10)] := by
  unfold dec decR
  rw [show (20 : Nat) = 19 + 1 from rfl]
  conv => lhs; rw [decs]
  show _ ++ [dgt (u % 10)] = _
  by_cases h1 : u < 10
  · rw [if_pos h1, if_pos (by omega)]
  · rw [if_neg h1, if_neg (by omega)]
    unfold dec
    rw [show (20 : Nat) = 19 + 1 from rfl, decs_lib 19 (u / 10) (by omega), show (19 : Nat) = 18 + 1 from rfl, decs_lib 18 (u / 10) (by omega)]
theorem digits_any (n : Nat) (w : World) (hn : n ≤ 1000000) : Calls Tryz.prog 69 #[.int .u64 n] w fun e w' => e = .returned (.string (str (dec n))) ∧ w' = w := by
  obtain ⟨d, hd⟩ : ∃ d, d = n % 10 := ⟨_, rfl⟩
  have hdm : (n : Int) % 10 = (d : Int) := by omega
  have hd10 : d < 10 := by omega
  have hd0 : (0 : Int) ≤ (d : Int) := by omega
  have hdI : (d : Int) + 1 ≤ 10 := by omega
  have hsl := decS_str d hd10
  unfold decS at hsl
  have HD : Hid (decR (n / 10) ++ [dgt d] = dec n) := by unfold Hid; rw [hd, ← dec_step n hn]
  clear hd
  go_enter Tryz.func69, Tryz.ntmps69
  go_wp2_with fail
  go_loop [0, 3] (fun x t => ∃ (u : Nat) (s : Tx), u ≤ 1000000 ∧ x = .int .u64 u ∧ t = .string (str s) ∧ decR u ++ s = dec n) (fun x _ => (intOf x).toNat)
  case atStart => exact ⟨n / 10, _, by omega, by go_num, rfl, HD.out⟩
  case round =>
    obtain ⟨u, s, hu, rfl, rfl, hs⟩ := hrel
    have hsl2 : s.length ≤ 20 := by have := dec_le n; rw [← hs, List.length_append] at this; omega
    by_cases h0 : 0 < u
    · have h0' : (0 : Int) < (u : Int) := by omega
      clear hsl hdm hd10 hd0 hdI HD
      obtain ⟨d, hd⟩ : ∃ d, d = u % 10 := ⟨_, rfl⟩
      have hdm : (u : Int) % 10 = (d : Int) := by omega
      have hd10 : d < 10 := by omega
      have hd0 : (0 : Int) ≤ (d : Int) := by omega
      have hdI : (d : Int) + 1 ≤ 10 := by omega
      have hsl := decS_str d hd10
      unfold decS at hsl
      have ho : ¬ 9223372036854775807 < (str [dgt d]).size + (str s).size := by rw [str_size, str_size]; simp; omega
      have HD : Hid (decR (u / 10) ++ ([dgt d] ++ s) = dec n) := by
        unfold Hid
        rw [← hs, hd, ← List.append_assoc, ← dec_step u hu]
        unfold decR; rw [if_neg (by omega)]
      clear hd hs
      go_wp2_with fail
      refine ⟨⟨u / 10, _, by omega, by go_num, by rw [str_app], HD.out⟩, by simp [intOf]; omega⟩
    · obtain rfl : u = 0 := by omega
      have HS : Hid (s = dec n) := by unfold Hid; rw [← hs]; rfl
      clear hs hsl hdm hd10 hd0 hdI HD
      go_wp2_with fail
      go_ret
      exact ⟨by rw [← HS.out]; rfl, rfl⟩
theorem decimal_any (n : Nat) (w : World) (hn : n ≤ 1000000) : Calls Tryz.prog 37 #[.int .i64 n] w fun e w' => e = .returned (.string (str (dec n))) ∧ w' = w := by
  have hn0 : ¬ (n : Int) < 0 := by omega
  have HQ := Lib.hid (digits_any n w hn)
  go_enter Tryz.func37, Tryz.ntmps37
  go_wp2_with fail
  (with_reducible refine HQ.out.mono ?_); rintro e w2 ⟨rfl, rfl⟩
  go_wp2_with fail
  go_ret
  exact ⟨rfl, rfl⟩

def digV (c : UInt8) : Int := if 48 ≤ c ∧ c ≤ 57 then (c.toNat : Int) - 48 else if 97 ≤ c ∧ c ≤ 102 then (c.toNat : Int) - 97 + 10 else -1
theorem digV_nat : ∀ n, n < 256 → ((digV (UInt8.ofNat n) < 0) ↔ digB (UInt8.ofNat n) = false) := by decide +kernel
theorem digV_neg (c : UInt8) : (digV c < 0) ↔ digB c = false := by
  have h := digV_nat c.toNat (UInt8.toNat_lt c)
  rwa [UInt8.ofNat_toNat] at h
theorem digit_any (c : UInt8) (w : World) : Calls Tryz.prog 73 #[.int .u8 (c.toNat : Int)] w fun e w' => e = .returned (.int .i64 (digV c)) ∧ w' = w := by
  obtain ⟨n, hn⟩ : ∃ n, n = c.toNat := ⟨_, rfl⟩
  have h8 : n < 256 := by rw [hn]; exact UInt8.toNat_lt c
  have HV : Hid (digV c = if 48 ≤ n ∧ n ≤ 57 then (n : Int) - 48 else if 97 ≤ n ∧ n ≤ 102 then (n : Int) - 97 + 10 else -1) := by unfold Hid digV; simp only [UInt8.le_iff_toNat_le, hn]; rfl
  rw [← hn]
  clear hn
  by_cases h1 : 48 ≤ n
  · have h1' : (48 : Int) ≤ (n : Int) := by omega
    by_cases h2 : n ≤ 57
    · have h2' : (n : Int) ≤ 57 := by omega
      have HR := Lib.hid (HV.out.trans (if_pos ⟨h1, h2⟩))
      go_enter Tryz.func73, Tryz.ntmps73
      go_wp2_with fail
      go_ret
      exact ⟨by rw [HR.out]; go_num, rfl⟩
    · have h2' : ¬ (n : Int) ≤ 57 := by omega
      have hr := HV.out.trans (if_neg (fun h => h2 h.2))
      by_cases h3 : 97 ≤ n
      · have h3' : (97 : Int) ≤ (n : Int) := by omega
        by_cases h4 : n ≤ 102
        · have h4' : (n : Int) ≤ 102 := by omega
          have HR := Lib.hid (hr.trans (if_pos ⟨h3, h4⟩))
          clear hr
          go_enter Tryz.func73, Tryz.ntmps73
          go_wp2_with fail
          go_ret
          exact ⟨by rw [HR.out]; go_num, rfl⟩
        · have h4' : ¬ (n : Int) ≤ 102 := by omega
          have HR := Lib.hid (hr.trans (if_neg (fun h => h4 h.2)))
          clear hr
          go_enter Tryz.func73, Tryz.ntmps73
          go_wp2_with fail
          go_ret
          exact ⟨by rw [HR.out]; rfl, rfl⟩
      · have h3' : ¬ (97 : Int) ≤ (n : Int) := by omega
        have HR := Lib.hid (hr.trans (if_neg (fun h => h3 h.1)))
        clear hr
        go_enter Tryz.func73, Tryz.ntmps73
        go_wp2_with fail
        go_ret
        exact ⟨by rw [HR.out]; rfl, rfl⟩
  · have h1' : ¬ (48 : Int) ≤ (n : Int) := by omega
    have h3' : ¬ (97 : Int) ≤ (n : Int) := by omega
    have HR := Lib.hid ((HV.out.trans (if_neg (fun h => h1 h.1))).trans (if_neg (fun h => by omega)))
    go_enter Tryz.func73, Tryz.ntmps73
    go_wp2_with fail
    go_ret
    exact ⟨by rw [HR.out]; rfl, rfl⟩

theorem ris_any (s : ByteArray) (w : World) (hs : s.size ≤ 140737488351232) :
    Calls Tryz.prog 47 #[.string s] w fun e w' => e = .returned (.bool (isD s.data.toList)) ∧ w' = w := by
  have HZ : Hid (s.data.toList.length = s.size) := by unfold Hid; rw [Lib.size_eq]
  go_enter Tryz.func47, Tryz.ntmps47
  go_wp2_with fail
  go_loop [3] (fun i => ∃ k : Nat, k ≤ 16 ∧ k ≤ s.size ∧ i = .int .i64 k ∧ (s.data.toList.take k).all digB = true) (fun i => 16 - (intOf i).toNat)
  case atStart => exact ⟨0, by omega, by omega, rfl, by simp⟩
  case round =>
    obtain ⟨k, hk16, hk, rfl, hall⟩ := hrel
    have HA := Lib.hid hall
    have hk0 : (0 : Int) ≤ (k : Int) := by omega
    clear hall
    by_cases hlt : k < s.size
    · have hki : (k : Int) < (s.size : Int) := by omega
      by_cases hlt16 : k < 16
      · have hk4 : (k : Int) < 16 := by omega
        have hlt' : k < s.data.toList.length := by rw [HZ.out]; exact hlt
        have HT : Hid (s.data.toList.take (k + 1) = s.data.toList.take k ++ [s[k]]) := (List.take_append_getElem hlt').symm
        have HM : Hid (s[k] ∈ s.data.toList) := List.getElem_mem hlt'
        have HQ := Lib.hid (digit_any s[k] w)
        by_cases hd : digV s[k] < 0
        · have hb := (digV_neg s[k]).1 hd
          have HF : Hid (isD s.data.toList = false) := by
            unfold Hid isD
            rw [Bool.and_eq_false_iff]; right
            rw [List.all_eq_false]
            exact ⟨s[k], HM.out, by simp [hb]⟩
          clear hb
          go_wp2_with fail
          (with_reducible refine HQ.out.mono ?_); rintro e w2 ⟨rfl, rfl⟩
          go_wp2_with fail
          go_ret
          exact ⟨by rw [HF.out]; rfl, rfl⟩
        · have HB : Hid (digB s[k] = true) := by
            unfold Hid
            cases h : digB s[k] with
            | true => rfl
            | false => exact absurd ((digV_neg s[k]).2 h) hd
          go_wp2_with fail
          (with_reducible refine HQ.out.mono ?_); rintro e w2 ⟨rfl, rfl⟩
          go_wp2_with fail
          refine ⟨⟨k + 1, by omega, by omega, by go_num, ?_⟩, by simp [intOf]; omega⟩
          rw [HT.out, List.all_append, HA.out]
          simp [HB.out]
      · obtain rfl : k = 16 := by omega
        have HF : Hid (isD s.data.toList = decide ((s.size : Int) = 16)) := by
          unfold Hid isD
          have e1 : decide (s.data.toList.length = 16) = false := by rw [HZ.out]; exact decide_eq_false (by omega)
          have e2 : decide ((s.size : Int) = 16) = false := decide_eq_false (by omega)
          rw [e1, e2]; rfl
        go_wp2_with fail
        go_ret
        exact ⟨by rw [HF.out]; rfl, rfl⟩
    · obtain rfl : k = s.size := by omega
      have hki : ¬ (s.size : Int) < (s.size : Int) := by omega
      have ha := HA.out
      rw [List.take_of_length_le (by rw [HZ.out]; exact Nat.le_refl _)] at ha
      have HF : Hid (isD s.data.toList = decide ((s.size : Int) = 16)) := by
        unfold Hid isD
        rw [ha, Bool.and_true, HZ.out]
        exact decide_eq_decide.2 (by omega)
      clear ha
      go_wp2_with fail
      go_ret
      exact ⟨by rw [HF.out]; rfl, rfl⟩

end S
end Go.Proofs.YthdjdlndfkemiaaGreatDoor

/- Digests: the reference's 'Joined', 'List'. -/
namespace Go.Proofs.YthdjdlndfkemiaaGreatDoor
open Go.RowKit
namespace S

def szs (l : List Tx) : Nat := (l.map fun t => t.length + 21).sum
theorem szs_snoc (l : List Tx) (t : Tx) : szs (l ++ [t]) = szs l + (t.length + 21) := by simp [szs]
theorem szs_take (l : List Tx) (k : Nat) (hk : k < l.length) : szs (l.take (k + 1)) = szs (l.take k) + (l[k].length + 21) := by
  rw [← List.take_append_getElem hk, szs_snoc]
theorem szs_le : ∀ l : List Tx, (∀ t ∈ l, t.length ≤ 1000) → szs l ≤ 1021 * l.length
  | [], _ => by simp [szs]
  | t :: l, h => by
    have h1 := szs_le l fun t ht => h t (List.mem_cons_of_mem _ ht)
    have h2 := h t List.mem_cons_self
    simp only [szs, List.map_cons, List.sum_cons, List.length_cons] at h1 ⊢; omega

theorem run_own_string {w : World} {B n : Nat} {v : Value} {t : Tx} (h : w.ownsRow B 5 1 v n (Lib.byteCells t)) :
    (convert 78 9 v).run Tryz.prog w = .ok (.string (str t)) w := by
  obtain ⟨h0, h1⟩ := h
  rw [bytes_len] at h0
  rcases h1 with ⟨rfl, rfl⟩ | ⟨g, cap, cur, rfl, hb, hg, hn, hc, hs, ht⟩
  · obtain rfl : t = [] := List.eq_nil_of_length_eq_zero (by omega)
    rw [run_convert_bytes_string w 78 9 5 none 0 0 Tryz.underlying78 Tryz.underlying5 Tryz.underlying9]
    simp [Conv.bytesToString]
    rfl
  · obtain rfl : n = t.length := by omega
    refine (run_convert_bytes_back (P := Tryz.prog) w 78 9 5 ⟨g, 0, none⟩ cap t Tryz.underlying78 Tryz.underlying5 Tryz.underlying9 (fun j hj => ?_))
    rw [show (⟨g, 0, none⟩ : Addr).add j = ⟨g, j, none⟩ by simp [Addr.add, eq_comm], Lib.cell_of_heap hg]
    have e : cur.toList[j]? = (Lib.byteCells t)[j]? := by
      rw [← ht, List.getElem?_take_of_lt (by omega)]
    rw [Array.getElem?_toList] at e
    rw [e]
    simp [Lib.byteCells, hj]

theorem joinT_leK (l : List Tx) (h : ∀ t ∈ l, t.length ≤ 1000) : (joinT l).length ≤ 1021 * l.length := by
  induction l with
  | nil => simp [joinT]
  | cons t l ih =>
    have q1 := ih fun t ht => h t (List.mem_cons_of_mem _ ht)
    have q2 := h t List.mem_cons_self
    have q3 := dec_le t.length
    simp only [joinT, List.length_append, List.length_cons, List.length_nil]; omega
set_option maxHeartbeats 2000000 in
theorem joinedK_any (A : Option Addr) (c : Nat) (l : List Tx) (w : World) (hl : StrsAt w A l) (hf : fewB l 1000 = true) :
    Calls Tryz.prog 36 #[.slice A l.length c] w fun e w' => e = .returned (.string (str (joinT l))) ∧ Below w.heap.size w w' := by
  obtain ⟨i0, hi, hz0, hz1, hz2⟩ := info_parts infoByte
  have HL := Lib.hid hl
  have hlen := fewB_len hf
  have h1 : ∀ t ∈ l, t.length ≤ 1000 := fun t ht => by have := fewB_all hf t ht; omega
  have HTk : Hid (∀ k, szs (l.take k) ≤ 30630) := fun k => by
    have := szs_le (l.take k) fun t ht => h1 t (List.mem_of_mem_take ht)
    have : (l.take k).length ≤ l.length := by rw [List.length_take]; omega
    omega
  have HJ : Hid ((joinT l).length ≤ 30630) := by
    have := joinT_leK l h1
    unfold Hid; omega
  have H1 := Lib.hid h1
  clear hl h1 hf
  go_enter Tryz.func36, Tryz.ntmps36
  go_wp2_with fail
  go_loop [3, 4] (fun n i => ∃ k : Nat, k ≤ l.length ∧ i = .int .i64 k ∧ n = .int .i64 (szs (l.take k) : Nat)) (fun _ i => l.length - (intOf i).toNat)
  case atStart => exact ⟨0, Nat.zero_le _, rfl, by simp [szs]⟩
  case round =>
    obtain ⟨k, hk, rfl, rfl⟩ := hrel
    obtain ⟨q, hq⟩ : ∃ q, q = szs (l.take k) := ⟨_, rfl⟩
    have hqb := HTk.out k
    rw [← hq] at hqb ⊢
    by_cases hlt : k < l.length
    · obtain ⟨bs, off, hA, hbs, c0⟩ := HL.out k hlt
      subst hA
      have hki : (k : Int) < (l.length : Int) := by omega
      have hk0 : (0 : Int) ≤ (k : Int) := by omega
      have hx2 := H1.out l[k] (List.getElem_mem hlt)
      have HT := Lib.hid (szs_take l k hlt)
      rw [← hq] at HT
      generalize l[k] = x at *
      have hsz := str_size x
      have hsb : ((str x).size : Int) ≤ 1000 := by omega
      clear hq
      go_wp2_with fail
      refine ⟨⟨k + 1, by omega, by go_num, ?_⟩, by simp [intOf]; omega⟩
      rw [HT.out, ← hsz]; go_num
    · obtain rfl : k = l.length := by omega
      clear hq
      go_wp2_with (at_make; refine wpList_make_own _ rfl _ _ 78 rfl w.heap.size 5 i0 (.int .u8 0) 1 Tryz.underlying78 hi hz0 hz1 .i64 .i64 _ q rfl rfl rfl ?c1 ?c2 ?c3 ?_)
      case c1 => omega
      case c2 => unfold maxLen; omega
      intro w1 hown hgr
      have hgb := (Below.refl w.heap.size w).grown hgr (Nat.le_refl _) (by simp)
      have HG := Lib.hid hgb
      have HO := Lib.hid hown
      have HNE : Hid ((Value.slice (some ⟨w.heap.size, 0, none⟩) 0 q) ≠ .slice none 0 0) := by simp [Hid]
      clear hgb hown hgr hqb
      go_wp2_with fail
      go_loopw [5, 6] (fun v i wr => ∃ k : Nat, k ≤ l.length ∧ i = .int .i64 k ∧ wr.ownsRow w.heap.size 5 1 v (joinT (l.take k)).length (Lib.byteCells (joinT (l.take k))) ∧ Below w.heap.size w wr) (fun _ i _ => l.length - (intOf i).toNat)
      case atStart => exact ⟨0, Nat.zero_le _, rfl, HO.out, HG.out⟩
      case round =>
        obtain ⟨k, hk, rfl, hown, hlow⟩ := hrel
        have HLow := Lib.hid hlow
        have HOwn := Lib.hid hown
        have hz : w.heap.size ≤ wr.heap.size := hlow.size
        clear hown hlow HO HG HNE
        by_cases hlt : k < l.length
        · obtain ⟨bs, off, hA, hbs, c00⟩ := HL.out k hlt
          subst hA
          have c0 := ((bcell HLow.out).1 bs (off + k) hbs).trans c00
          have hki : (k : Int) < (l.length : Int) := by omega
          have hk0 : (0 : Int) ≤ (k : Int) := by omega
          have hx2 := H1.out l[k] (List.getElem_mem hlt)
          have hsn : joinT (l.take (k + 1)) = joinT (l.take k) ++ dec l[k].length ++ [58] ++ l[k] := by rw [← joinT_snoc, List.take_append_getElem hlt]
          have hle := joinT_take_le l (k + 1)
          rw [hsn] at hle
          simp only [List.length_append, List.length_cons, List.length_nil] at hle
          have HLE : Hid ((joinT (l.take k)).length + (dec l[k].length).length + 1 + l[k].length ≤ 30630) := by unfold Hid; have := HJ.out; omega
          have HSN := Lib.hid hsn
          clear hsn hle
          generalize l[k] = x at *
          have HQ : Hid (Calls Tryz.prog 37 #[.int .i64 ((str x).size : Int)] wr fun e w' => e = .returned (.string (str (dec x.length))) ∧ w' = wr) := by
            unfold Hid
            rw [str_size]
            exact decimal_any x.length wr (by omega)
          go_wp2_with fail
          (with_reducible refine HQ.out.mono ?_); rintro e w2 ⟨rfl, rfl⟩
          have hsd := str_size (dec x.length)
          have hsx := str_size x
          have hLE := HLE.out
          go_wp2_with (at_builtin; refine Lib.wpList_append_own_string _ rfl _ _ 78 9 rfl w.heap.size 5 i0 Tryz.underlying78 Tryz.underlying9 hi hz0 hz1 hz2 _ _ _ rfl HOwn.out (str (dec x.length)) rfl ?d3 ?d4 ?d5 ?_)
          case d3 => unfold maxLen; omega
          case d4 => omega
          case d5 => exact hz
          intro v2 W2 hown2 hg2 _
          have hb2 : Below w.heap.size w W2 := HLow.out.grown hg2 hz (fun k hk => (HOwn.out.lt k hk).1)
          rw [cells_str, ← bytes_app] at hown2
          have hz2' : w.heap.size ≤ W2.heap.size := hb2.size
          have HO2 := Lib.hid hown2
          have HB2 := Lib.hid hb2
          clear hown2 hg2 hb2
          go_wp2_with (at_builtin; refine wpList_append_own _ rfl _ _ 78 rfl w.heap.size 5 i0 (.int .u8 0) 1 1 Tryz.underlying78 hi hz0 hz1 hz2 rfl (by decide) _ _ _ rfl (HO2.out.alloc _) ⟨W2.heap.size, 0, none⟩ 1 1 [.int .u8 58] rfl rfl ?e1 ?e2 ?e3 ?e4 ?e5 ?_)
          case e1 =>
            intro j u hj
            match j, hj with
            | 0, hj => simp at hj; subst hj; simp [Addr.add]
          case e2 => intro u hu; simp at hu; subst hu; rfl
          case e3 => unfold maxLen; omega
          case e4 => omega
          case e5 => simp; omega
          intro v3 W3 hown3 hg3 _
          have hb3 : Below w.heap.size w W3 := (HB2.out.alloc hz2' _).grown hg3 (by simp; omega) (fun k hk => (HO2.out.lt k hk).1)
          rw [show ([Value.int .u8 58] : List Value) = Lib.byteCells [58] from rfl, ← bytes_app] at hown3
          have hz3' : w.heap.size ≤ W3.heap.size := hb3.size
          have c3 : W3.cell? ⟨bs, off + k, none⟩ = some (.string (str x)) := ((bcell hb3).1 _ _ hbs).trans c00
          have HO3 := Lib.hid hown3
          have HB3 := Lib.hid hb3
          clear hown3 hg3 hb3 HO2
          clear c00
          go_wp2_with (at_builtin; refine Lib.wpList_append_own_string _ rfl _ _ 78 9 rfl w.heap.size 5 i0 Tryz.underlying78 Tryz.underlying9 hi hz0 hz1 hz2 _ _ _ rfl HO3.out (str x) rfl ?f3 ?f4 ?f5 ?_)
          case f3 => unfold maxLen; omega
          case f4 => omega
          case f5 => exact hz3'
          intro v4 W4 hown4 hg4 _
          have hb4 : Below w.heap.size w W4 := HB3.out.grown hg4 hz3' (fun k hk => (HO3.out.lt k hk).1)
          rw [cells_str, ← bytes_app] at hown4
          have HO4 := Lib.hid hown4
          have HB4 := Lib.hid hb4
          clear hown4 hg4 hb4 HO3
          go_wp2_with fail
          refine ⟨⟨k + 1, by omega, by go_num, ?_, HB4.out⟩, by simp [intOf]; omega⟩
          rw [HSN.out]
          have h := HO4.out
          rw [← List.append_assoc (joinT (l.take k))] at h
          have he : (joinT (l.take k) ++ dec x.length ++ [58] ++ x).length = (joinT (l.take k)).length + (dec x.length).length + 1 + x.length := by simp; omega
          rw [he]
          exact h
        · obtain rfl : k = l.length := by omega
          have hown := HOwn.out
          rw [List.take_length] at hown
          have hcv := run_own_string hown
          clear hown
          go_wp2_with fail
          go_ret
          exact ⟨rfl, HLow.out⟩

theorem fewB_mono {l : List Tx} (h : fewB l 200 = true) : fewB l 1000 = true := by
  have h1 := fewB_all h
  have h2 := fewB_len h
  unfold fewB
  simp only [Bool.and_eq_true, List.all_eq_true, decide_eq_true_eq]
  exact ⟨fun t ht => by have := h1 t ht; omega, h2⟩
theorem joined_any (A : Option Addr) (c : Nat) (l : List Tx) (w : World) (hl : StrsAt w A l) (hf : fewB l 200 = true) :
    Calls Tryz.prog 36 #[.slice A l.length c] w fun e w' => e = .returned (.string (str (joinT l))) ∧ Below w.heap.size w w' := joinedK_any A c l w hl (fewB_mono hf)

end S
end Go.Proofs.YthdjdlndfkemiaaGreatDoor

/- Digests: the reference's 'List', 'Same'. -/
namespace Go.Proofs.YthdjdlndfkemiaaGreatDoor
open Go.RowKit
namespace S

theorem few_joinK {l : List Tx} (h : fewB l 1000 = true) : (joinT l).length ≤ 140737488351232 := by
  have := joinT_leK l fun t ht => by have := fewB_all h t ht; omega
  have := fewB_len h
  omega
theorem rlistK_any (A : Option Addr) (c : Nat) (l : List Tx) (w : World) (hl : StrsAt w A l) (hf : fewB l 1000 = true) :
    Calls Tryz.prog 50 #[.slice A l.length c] w fun e w' => e = .returned (.string (str (listL l))) ∧ Below w.heap.size w w' := by
  have HJ := Lib.hid (joinedK_any A c l w hl hf)
  have HF := Lib.hid (few_joinK hf)
  clear hl hf
  go_enter Tryz.func50, Tryz.ntmps50
  go_wp2_with fail
  (with_reducible refine HJ.out.mono ?_); rintro e w1 ⟨rfl, hb1⟩
  have hq := rsum_any (str (joinT l)) w1 (by rw [str_size]; exact HF.out)
  rw [str_data] at hq
  have HQ := Lib.hid hq
  have HB := Lib.hid hb1
  clear hq hb1 HJ
  go_wp2_with fail
  (with_reducible refine HQ.out.mono ?_); rintro e w2 ⟨rfl, rfl⟩
  go_wp2_with fail
  go_ret
  exact ⟨rfl, HB.out⟩
theorem rlist_any (A : Option Addr) (c : Nat) (l : List Tx) (w : World) (hl : StrsAt w A l) (hf : fewB l 200 = true) :
    Calls Tryz.prog 50 #[.slice A l.length c] w fun e w' => e = .returned (.string (str (listL l))) ∧ Below w.heap.size w w' := rlistK_any A c l w hl (fewB_mono hf)

set_option maxHeartbeats 2000000 in
theorem same_any (A : Option Addr) (c : Nat) (a : List Tx) (B : Option Addr) (d : Nat) (b : List Tx) (w : World) (ha : StrsAt w A a) (hb : StrsAt w B b) (la : a.length ≤ 9223372036854775807) (lb : b.length ≤ 9223372036854775807) :
    Calls Tryz.prog 46 #[.slice A a.length c, .slice B b.length d] w fun e w' => e = .returned (.bool (decide (a = b))) ∧ Below w.heap.size w w' := by
  have HA := Lib.hid ha
  have HB := Lib.hid hb
  have hstl := str_toList
  clear ha hb
  by_cases hl : a.length = b.length
  · have hli : (a.length : Int) = (b.length : Int) := by omega
    have HLI := Lib.hid hl
    go_enter Tryz.func46, Tryz.ntmps46
    go_wp2_with fail
    clear hli hl
    go_loopw [5] (fun i wr => ∃ k : Nat, k ≤ a.length ∧ i = .int .i64 k ∧ a.take k = b.take k ∧ Below w.heap.size w wr) (fun i _ => a.length - (intOf i).toNat)
    case atStart => exact ⟨0, Nat.zero_le _, rfl, by simp, Below.refl _ _⟩
    case round =>
      obtain ⟨k, hk, rfl, hall, hlow⟩ := hrel
      have HT := Lib.hid hall
      have HLow := Lib.hid hlow
      clear hall hlow
      by_cases hlt : k < a.length
      · have hlt2 : k < b.length := by have := HLI.out; omega
        obtain ⟨b1, o1, hA, hb1, c1⟩ := (HA.out.below HLow.out) k hlt
        obtain ⟨b2, o2, hB, hb2, c2⟩ := (HB.out.below HLow.out) k hlt2
        subst hA hB
        have hki : (k : Int) < (a.length : Int) := by omega
        have hki2 : (k : Int) < (b.length : Int) := by omega
        have hk0 : (0 : Int) ≤ (k : Int) := by omega
        have HX : Hid (a.take (k + 1) = a.take k ++ [a[k]]) := (List.take_append_getElem hlt).symm
        have HY : Hid (b.take (k + 1) = b.take k ++ [b[k]]) := (List.take_append_getElem hlt2).symm
        have HN : Hid (a = b → a[k] = b[k]) := by intro h; subst h; rfl
        generalize a[k] = x at *
        generalize b[k] = y at *
        go_wp2_with fail
        refine Reg.wp_region_seq (by kernel_rfl) (by kernel_rfl) ?_
        simp only
        iterate 9
          apply Reg.SeqOK.val
          · intro γ W hW K hK
            obtain ⟨hc, hf, _⟩ := bcell hW
            simp only [Act.put, List.setIfInBounds_toArray, List.set_cons_zero, List.set_cons_succ] at hK
            unfold Reg.Does
            go_simp
            try simp only [IntWalk.i64_left]
            first
              | exact hK _ (Below.refl _ _)
              | (trace_state; fail)
          simp only [Act.put, List.setIfInBounds_toArray, List.set_cons_zero, List.set_cons_succ, List.nil_append, List.cons_append, Nat.reduceAdd, Nat.zero_add]
        refine Reg.SeqOK.nil (by kernel_rfl) (fun γ W hW _ _ _ => ?_)
        have HW := Lib.hid (HLow.out.trans (hW.mono HLow.out.size))
        clear hW
        generalize hq : (x == y) = q
        cases q with
        | true =>
          have HE : Hid (x = y) := by unfold Hid; simpa using hq
          clear hq
          simp only [Bool.not_true]
          go_wp2_with fail
          refine ⟨⟨k + 1, by omega, by go_num, ?_, HW.out⟩, by simp [intOf]; omega⟩
          rw [HX.out, HY.out, HT.out, HE.out]
        | false =>
          have HD : Hid (decide (a = b) = false) := decide_eq_false fun h => by rw [HN.out h] at hq; simp at hq
          clear hq
          simp only [Bool.not_false]
          go_wp2_with fail
          go_ret
          exact ⟨by rw [HD.out]; rfl, HW.out⟩
      · obtain rfl : k = a.length := by omega
        have h := HT.out
        rw [List.take_length, HLI.out, List.take_length] at h
        have HD : Hid (decide (a = b) = true) := decide_eq_true h
        clear h
        go_wp2_with fail
        go_ret
        exact ⟨by rw [HD.out]; rfl, HLow.out⟩
  · have hli : ¬ (a.length : Int) = (b.length : Int) := by omega
    have HD : Hid (decide (a = b) = false) := decide_eq_false fun h => hl (by rw [h])
    go_enter Tryz.func46, Tryz.ntmps46
    go_wp2_with fail
    go_ret
    exact ⟨by rw [HD.out]; rfl, Below.refl _ _⟩

end S
end Go.Proofs.YthdjdlndfkemiaaGreatDoor
