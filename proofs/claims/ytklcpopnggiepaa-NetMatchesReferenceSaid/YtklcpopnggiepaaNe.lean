/- Net: how a network lies in memory; what a call on it may change. -/
import Derived.Test.YtklcpopnggiepaaProg
import Derived.Test.YtklcpopnggiepaaReg
import Derived.Test.YtklcpopnggiepaaNm
import Derived.Test.YtklcpopnggiepaaNk
import Derived.WalkKit
import Derived.ProofKit
import Derived.WalkSpells
import Derived.WalkLawsBesides
import Derived.Defers
import Derived.Deep.RegionHeld3
import Derived.Deep.RegionLaw
import Derived.Deep.DeepCutAuto
import Derived.Deep.AppendLies
import Derived.KernelRfl
import Derived.Lib.Hide
set_option linter.unusedSimpArgs false
set_option linter.unusedVariables false
set_option maxRecDepth 100000
namespace Go.Proofs.Ytklcpopnggiepaa
open Go.RowKit
namespace N

theorem bcell {B : Nat} {W w1 : World} (hb : Below B W w1) : (∀ b o, b < B → w1.cell? ⟨b, o, none⟩ = W.cell? ⟨b, o, none⟩) ∧ (∀ b o, b < B → w1.frozen? ⟨b, o, none⟩ = W.frozen? ⟨b, o, none⟩) ∧ B ≤ B :=
  ⟨fun b o h => hb.cell (p := ⟨b, o, none⟩) h, fun b o h => hb.frozen (p := ⟨b, o, none⟩) h, Nat.le_refl _⟩
theorem ret_bool {a b : Bool} (h : a = b) : Ending.returned (.bool a) = .returned (.bool b) := by rw [h]
theorem ret_int {k : IntKind} {a b : Int} (h : a = b) : Ending.returned (.int k a) = .returned (.int k b) := by rw [h]

/-- A text as the model has it. -/
def str (l : Tx) : ByteArray := ⟨l.toArray⟩
theorem str_size (l : Tx) : (str l).size = l.length := by simp [str, ByteArray.size]
theorem str_of (s : ByteArray) : s = str s.data.toList := by cases s; simp [str]
theorem str_inj {a b : Tx} (h : str a = str b) : a = b := by
  have := congrArg (fun s : ByteArray => s.data.toList) h
  simpa [str] using this
theorem str_append (a b : Tx) : str a ++ str b = str (a ++ b) := by
  unfold str
  apply ByteArray.ext
  simp
theorem str_nil : (str []) = ⟨#[]⟩ := rfl
theorem str_eq (a b : Tx) : (str a == str b) = (a == b) := by
  show (a.toArray == b.toArray) = _
  simp
theorem str_toList (l : Tx) : (str l).toList = l := by rw [ByteArray.toList_eq]; simp [str]
theorem str_emp (l : Tx) : (str l).toList.isEmpty = l.isEmpty := by rw [str_toList]

def StrsAt (w : World) (A : Option Addr) (l : List Tx) : Prop := ∀ i (hi : i < l.length), ∃ b off, A = some ⟨b, off, none⟩ ∧ b < w.heap.size ∧ w.cell? ⟨b, off + i, none⟩ = some (.string (str l[i]))
theorem StrsAt.below {w w' : World} {A : Option Addr} {l : List Tx} (h : StrsAt w A l) (hb : Below w.heap.size w w') : StrsAt w' A l := fun i hi => by
  obtain ⟨b, off, hA, hlt, c0⟩ := h i hi
  exact ⟨b, off, hA, Nat.lt_of_lt_of_le hlt hb.size, ((bcell hb).1 _ _ hlt).trans c0⟩
def sv (l : List Tx) : List Value := l.map fun t => .string (str t)
theorem StrsAt.own {w : World} {B n c : Nat} {A : Option Addr} {l : List Tx} (h : w.ownsRow B 9 1 (.slice A n c) n (sv l)) (hn : l.length = n) : StrsAt w A l := fun i hi => by
  obtain ⟨g, cap, hv, _, hlt⟩ := h.form (by omega)
  injection hv with hA _ hc
  subst hA hc
  refine ⟨g, 0, rfl, hlt, ?_⟩
  rw [Nat.zero_add, h.cellAt _ (by omega)]
  simp [sv, hi]

set_option maxHeartbeats 2000000 in
theorem sv_snoc (l : List Tx) (t : Tx) : sv (l ++ [t]) = sv l ++ [.string (str t)] := by simp [sv]
theorem sv_len (l : List Tx) : (sv l).length = l.length := by simp [sv]
theorem sv_get (l : List Tx) (j : Nat) : (sv l)[j]? = (l[j]?).map fun t => Value.string (str t) := by simp [sv]
theorem own_below {w w' : World} {B : Nat} {e : TypeId} {size n : Nat} {v : Value} {xs : List Value} (h : w.ownsRow B e size v n xs) (hb : Below w.heap.size w w') : w'.ownsRow B e size v n xs := by
  refine ⟨h.1, ?_⟩
  rcases h.2 with hn | ⟨g', cap, cur, e1, hB, hg, rest⟩
  · exact .inl hn
  · exact .inr ⟨g', cap, cur, e1, hB, (hb.block g' (Array.getElem?_eq_some_iff.1 hg).1).trans hg, rest⟩
theorem info_str : (Try.prog.info? 9).map (fun i => (i.zero, i.size, i.bytes)) = some (some (.string ByteArray.empty), 1, 16) := by kernel_rfl

theorem own_type {w : World} {B n sz : Nat} {e : TypeId} {v : Value} {xs : List Value} (h : w.ownsRow B e sz v n xs) {k : Nat} {C : Array Value} {T : TypeId} (hk : Reg.Blk k C T w) (hT : T ≠ e) : v.ownBlock ≠ some k := by
  rcases h.2 with ⟨e1, _⟩ | ⟨g', cap, cur, e1, _, hh, _⟩
  · rw [e1]; simp [Value.ownBlock]
  · rw [e1]
    simp only [Value.ownBlock, ne_eq, Option.some.injEq]
    rintro rfl
    have := hk.symm.trans hh
    injection this with this
    injection this with _ e2
    exact hT e2
theorem own_apart {w : World} {B B' n n' sz sz' : Nat} {e e' : TypeId} {v v' : Value} {xs xs' : List Value} (h : w.ownsRow B e sz v n xs) (h' : w.ownsRow B' e' sz' v' n' xs') (hT : e ≠ e') {k : Nat} (hk : v.ownBlock = some k) : v'.ownBlock ≠ some k := by
  rcases h.2 with ⟨e1, _⟩ | ⟨g', cap, cur, e1, _, hh, _⟩
  · rw [e1] at hk; simp [Value.ownBlock] at hk
  · rw [e1] at hk
    simp only [Value.ownBlock, Option.some.injEq] at hk
    subst hk
    exact own_type h' hh hT

theorem own_of {w w' : World} {B : Nat} {e : TypeId} {size n : Nat} {v : Value} {xs : List Value} (h : w.ownsRow B e size v n xs) (hb : ∀ k, v.ownBlock = some k → w'.heap[k]? = w.heap[k]?) : w'.ownsRow B e size v n xs := by
  refine ⟨h.1, ?_⟩
  rcases h.2 with hn | ⟨g', cap, cur, e1, hB, hg, rest⟩
  · exact .inl hn
  · exact .inr ⟨g', cap, cur, e1, hB, (hb g' (by rw [e1]; rfl)).trans hg, rest⟩
/-- What a call on a network leaves: all blocks but the network's; what the network holds then is its old blocks and new ones. -/
structure Moved (M M' : Nat → Prop) (w w' : World) : Prop where
  keep : Reg.Keep M w w'
  sub : ∀ k, M' k → M k ∨ w.heap.size ≤ k
theorem Moved.refl (M : Nat → Prop) (w : World) : Moved M M w w := ⟨⟨rfl, rfl, rfl, Nat.le_refl _, fun _ _ _ => rfl⟩, fun _ h => .inl h⟩
theorem Moved.trans {M M1 M2 : Nat → Prop} {w w1 w2 : World} (h : Moved M M1 w w1) (k : Moved M1 M2 w1 w2) : Moved M M2 w w2 :=
  ⟨⟨k.keep.os.trans h.keep.os, k.keep.tape.trans h.keep.tape, k.keep.output.trans h.keep.output, Nat.le_trans h.keep.size k.keep.size,
    fun i hi hm => (k.keep.block i (Nat.lt_of_lt_of_le hi h.keep.size) (fun m1 => by rcases h.sub i m1 with m | m; exact hm m; omega)).trans (h.keep.block i hi hm)⟩,
   fun i m2 => by rcases k.sub i m2 with m1 | m1; exact h.sub i m1; exact .inr (Nat.le_trans h.keep.size m1)⟩
theorem Moved.below {M : Nat → Prop} {w w' : World} (hb : Below w.heap.size w w') : Moved M M w w' := ⟨⟨hb.os, hb.tape, hb.output, hb.size, fun k hk _ => hb.block k hk⟩, fun _ h => .inl h⟩
theorem Moved.set {M : Nat → Prop} (w : World) (a : Addr) (v : Value) (hm : M a.block) : Moved M M w (w.setCell a v) :=
  ⟨⟨rfl, rfl, rfl, by simp, fun k _ hn => Below.heap_setCell w a v k (fun e => hn (e ▸ hm))⟩, fun _ h => .inl h⟩
theorem Moved.alloc {M : Nat → Prop} (w : World) (o : Obj) : Moved M M w (w.alloc o) := ⟨⟨rfl, rfl, rfl, by simp, fun k hk _ => Below.heap_alloc w o k hk⟩, fun _ h => .inl h⟩
theorem Moved.draw {M : Nat → Prop} (w : World) : Moved M M w w.drew := ⟨⟨rfl, rfl, rfl, Nat.le_refl _, fun _ _ _ => rfl⟩, fun _ h => .inl h⟩
theorem Moved.toBelow {M M' : Nat → Prop} {w w' : World} {B : Nat} (h : Moved M M' w w') (hM : ∀ k, M k → B ≤ k) (hB : B ≤ w.heap.size) : Below B w w' :=
  h.keep.below fun k hk => ⟨Nat.lt_of_lt_of_le hk hB, fun m => by have := hM k m; omega⟩
/-- A block that is not the network's stays. -/
theorem Moved.blk {M M' : Nat → Prop} {w w' : World} (h : Moved M M' w w') {g : Nat} {C : Array Value} {T : TypeId} (hb : Reg.Blk g C T w) (hm : ¬ M g) : Reg.Blk g C T w' := (h.keep.block g hb.lt hm).trans hb


theorem own_base {w : World} {B B' : Nat} {e : TypeId} {size n : Nat} {v : Value} {xs : List Value} (h : w.ownsRow B e size v n xs) (hb : B' ≤ B) : w.ownsRow B' e size v n xs := by
  refine ⟨h.1, ?_⟩
  rcases h.2 with hn | ⟨g', cap, cur, e1, hB, rest⟩
  · exact .inl hn
  · exact .inr ⟨g', cap, cur, e1, Nat.le_trans hb hB, rest⟩
theorem Moved.turned {M : Nat → Prop} {w w' : World} {b : Nat} (h : Turned b w w') (hm : M b) : Moved M M w w' :=
  ⟨⟨h.os, h.tape, h.output, by rw [h.size]; exact Nat.le_refl _, fun k _ hn => h.far k (fun e => hn (e ▸ hm))⟩, fun _ h => .inl h⟩

def nilS : Value := .slice none 0 0
/-- The value of a queue. -/
def qv (f : Int → Int → Option Value) (a b : Int) : Value := (f a b).getD nilS
structure IsN (w : World) (B : Nat) (M : Nat → Prop) (g : Nat) (d : Nt) (bq bc : Nat) (fq fc : Int → Int → Option Value) : Prop where
  blk : Reg.Blk g #[.int .i64 d.n, .map (some bq), .map (some bc)] 57 w
  mpq : MapIs Try.prog 59 w bq fq
  mpc : MapIs Try.prog 59 w bc fc
  cut : ∀ a b, (fc a b).getD (.bool false) = .bool (d.c a b)
  row : ∀ a b, w.ownsRow B 9 1 (qv fq a b) (d.q a b).length (sv (d.q a b))
  sep : ∀ a b a' b' k, (qv fq a b).ownBlock = some k → (qv fq a' b').ownBlock = some k → a = a' ∧ b = b'
  mg : M g
  mq : M bq
  mc : M bc
  mr : ∀ a b k, (qv fq a b).ownBlock = some k → M k
  bb : ∀ k, M k → B ≤ k ∧ k < w.heap.size
  ne : bq ≠ bc

def NetAt (w : World) (B : Nat) (M : Nat → Prop) (g : Nat) (d : Nt) : Prop := ∃ bq bc fq fc, IsN w B M g d bq bc fq fc

/-- Whatever leaves the network's own blocks leaves the network. -/
theorem IsN.same {w w' : World} {B : Nat} {M : Nat → Prop} {g : Nat} {d : Nt} {bq bc : Nat} {fq fc : Int → Int → Option Value} (h : IsN w B M g d bq bc fq fc) (hs : w.heap.size ≤ w'.heap.size) (hk : ∀ k, M k → w'.heap[k]? = w.heap[k]?) : IsN w' B M g d bq bc fq fc :=
  ⟨(hk g h.mg).trans h.blk, h.mpq.same (hk _ h.mq), h.mpc.same (hk _ h.mc), h.cut, fun a b => own_of (h.row a b) fun k e => hk k (h.mr a b k e), h.sep, h.mg, h.mq, h.mc, h.mr, fun k m => ⟨(h.bb k m).1, Nat.lt_of_lt_of_le (h.bb k m).2 hs⟩, h.ne⟩
section
variable {w w' : World} {B : Nat} {M : Nat → Prop} {g : Nat} {d : Nt} {bq bc : Nat} {fq fc : Int → Int → Option Value}
theorem IsN.below (h : IsN w B M g d bq bc fq fc) (hb : Below w.heap.size w w') : IsN w' B M g d bq bc fq fc := h.same hb.size fun k m => hb.block k (h.bb k m).2
theorem IsN.alloc (h : IsN w B M g d bq bc fq fc) (o : Obj) : IsN (w.alloc o) B M g d bq bc fq fc := h.same (by simp) fun k m => Below.heap_alloc w o k (h.bb k m).2
theorem IsN.drew (h : IsN w B M g d bq bc fq fc) : IsN w.drew B M g d bq bc fq fc := h.same (Nat.le_refl _) fun _ _ => rfl
theorem IsN.set (h : IsN w B M g d bq bc fq fc) (a : Addr) (v : Value) (hn : ¬ M a.block) : IsN (w.setCell a v) B M g d bq bc fq fc := h.same (by simp) fun k m => Below.heap_setCell w a v k (fun e => hn (e ▸ m))
theorem NetAt.below (h : NetAt w B M g d) (hb : Below w.heap.size w w') : NetAt w' B M g d := by
  obtain ⟨_, _, _, _, h⟩ := h; exact ⟨_, _, _, _, h.below hb⟩
end

def Post (w : World) (B : Nat) (M : Nat → Prop) (g : Nat) (d : Nt) (w' : World) : Prop := ∃ M', NetAt w' B M' g d ∧ Moved M M' w w'
theorem Post.trans {w w1 : World} {B : Nat} {M M1 : Nat → Prop} {g : Nat} {d : Nt} {w' : World} (m : Moved M M1 w w1) (h : Post w1 B M1 g d w') : Post w B M g d w' := by
  obtain ⟨M', hd, hm⟩ := h
  exact ⟨M', hd, m.trans hm⟩
theorem Post.quiet {w w' : World} {B : Nat} {M : Nat → Prop} {g : Nat} {d : Nt} (h : NetAt w B M g d) (hb : Below w.heap.size w w') : Post w B M g d w' := ⟨M, h.below hb, Moved.below hb⟩

/-! ### Keys -/
theorem laidOut : laidOutB Try.prog = true := by kernel_rfl
theorem key_law : Go.Maps.Keyed Try.prog 59 := .of_law (deep_law_laid laidOut (m := 2) (by omega) (of_decide_eq_true (by kernel_rfl)) (by kernel_rfl) (by kernel_rfl))
def B64 (x : Int) : Prop := -9223372036854775808 ≤ x ∧ x ≤ 9223372036854775807
theorem under59 : Try.prog.underlying 59 = some (.array 2 3) := Try.underlying59
theorem psize : Try.prog.types.size = 94 := by kernel_rfl
theorem wf64 {a : Int} (ha : B64 a) : (Lit.int .i64 a).wf = true := by
  have h := ha
  unfold B64 at h
  simpa [Lit.wf, IntKind.min, IntKind.max, IntKind.signed, IntKind.bits] using h
theorem lits_int (n : Nat) {a : Int} (ha : B64 a) : Try.prog.keyLits (n + 1) 3 [.int .i64 a] = some [.int .i64 a] := by
  unfold Program.keyLits
  simp [Try.underlying3, wf64 ha]
theorem lits_way (n : Nat) {a b : Int} (ha : B64 a) (hb : B64 b) : Try.prog.keyLits (n + 1 + 1) 59 [.int .i64 a, .int .i64 b] = some [.int .i64 a, .int .i64 b] := by
  have hc : Try.prog.cellsOf 59 = 2 := by kernel_rfl
  have hc1 : Try.prog.cellsOf 3 = 1 := by kernel_rfl
  unfold Program.keyLits
  simp [under59, hc, hc1, List.range, List.range.loop, lits_int n ha, lits_int n hb]
theorem key_of {a b : Int} (ha : B64 a) (hb : B64 b) : ∃ l, keyOf Try.prog 59 (way a b) = some l := by
  have hc : Try.prog.cellsOf 59 = 2 := by kernel_rfl
  have hk : Try.prog.keyType 59 = true := by kernel_rfl
  have hf : (way a b).formed Try.prog 59 = true := by simp [way, Value.formed, under59, hc]
  refine ⟨.string (keyBytes [.int .i64 a, .int .i64 b]), ?_⟩
  unfold keyOf
  rw [under59]
  simp only [hk, hf, Bool.and_self, if_true, psize]
  have := lits_way 93 ha hb
  simp only [way, Value.cells]
  rw [this]
  rfl

end N
end Go.Proofs.Ytklcpopnggiepaa
