/- Disk: how a disk lies in memory; what a call on it may change. -/
import Derived.Test.YtopjekdhecikdaaProg
import Derived.Test.YtopjekdhecikdaaPlain
import Derived.Test.YtopjekdhecikdaaReg
import Derived.Test.YtopjekdhecikdaaDm
import Derived.WalkKit
import Derived.ProofKit
import Derived.WalkSpells
import Derived.WalkLawsBesides
import Derived.Deep.RegionHeld3
import Derived.Deep.DeepCutAuto
import Derived.Deep.AppendLies
import Derived.KernelRfl
import Derived.Lib.Hide
set_option linter.unusedSimpArgs false
set_option linter.unusedVariables false
set_option maxRecDepth 100000
namespace Go.Proofs.Ytopjekdhecikdaa
open Go.RowKit
namespace D

theorem bcell {B : Nat} {W w1 : World} (hb : Below B W w1) : (∀ b o, b < B → w1.cell? ⟨b, o, none⟩ = W.cell? ⟨b, o, none⟩) ∧ (∀ b o, b < B → w1.frozen? ⟨b, o, none⟩ = W.frozen? ⟨b, o, none⟩) ∧ B ≤ B :=
  ⟨fun b o h => hb.cell (p := ⟨b, o, none⟩) h, fun b o h => hb.frozen (p := ⟨b, o, none⟩) h, Nat.le_refl _⟩
theorem ret_bool {a b : Bool} (h : a = b) : Ending.returned (.bool a) = .returned (.bool b) := by rw [h]
theorem ret_int {k : IntKind} {a b : Int} (h : a = b) : Ending.returned (.int k a) = .returned (.int k b) := by rw [h]

/-- A text as the model has it. -/
def str (l : Tx) : ByteArray := ⟨l.toArray⟩
theorem str_size (l : Tx) : (str l).size = l.length := by simp [str, ByteArray.size]
theorem str_of (s : ByteArray) : s = str s.data.toList := by cases s; simp [str]
theorem str_inj {a b : Tx} (h : str a = str b) : a = b := by
  have := congrArg (fun s : ByteArray => s.data.toList) h
  simpa [str] using this
def bts (l : Tx) : List Value := l.map fun b => .int .u8 (b.toNat : Int)
theorem bts_len (l : Tx) : (bts l).length = l.length := by simp [bts]
theorem bts_get (l : Tx) (i : Nat) : (bts l)[i]? = (l[i]?).map fun b => Value.int .u8 (b.toNat : Int) := by simp [bts]
def pnd (q : List (Nat × Tx)) : List Value := q.flatMap fun p => [.int .i64 ((p.1 : Int) * 64), .int .i64 (((p.1 : Int) + 1) * 64), .string (str p.2)]
theorem pnd_len (q : List (Nat × Tx)) : (pnd q).length = q.length * 3 := by
  induction q with
  | nil => rfl
  | cons p q ih => simp only [pnd, List.flatMap_cons, List.length_append, List.length_cons, List.length_nil] at ih ⊢; omega
theorem pnd_get {q : List (Nat × Tx)} : ∀ {i : Nat} (h : i < q.length), (pnd q)[i * 3]? = some (.int .i64 ((q[i].1 : Int) * 64)) ∧ (pnd q)[i * 3 + 1]? = some (.int .i64 (((q[i].1 : Int) + 1) * 64)) ∧ (pnd q)[i * 3 + 2]? = some (.string (str q[i].2)) := by
  induction q with
  | nil => intro i h; simp at h
  | cons p q ih =>
    intro i h
    cases i with
    | zero => simp [pnd]
    | succ i =>
      have := ih (i := i) (by simpa using h)
      have e : pnd (p :: q) = [.int .i64 ((p.1 : Int) * 64), .int .i64 (((p.1 : Int) + 1) * 64), .string (str p.2)] ++ pnd q := by simp [pnd]
      rw [e, List.getElem?_append_right (by simp; omega), List.getElem?_append_right (by simp; omega), List.getElem?_append_right (by simp; omega)]
      simp only [List.length_cons, List.length_nil, List.getElem_cons_succ]
      rw [show (i + 1) * 3 - (0 + 1 + 1 + 1) = i * 3 from by omega, show (i + 1) * 3 + 1 - (0 + 1 + 1 + 1) = i * 3 + 1 from by omega, show (i + 1) * 3 + 2 - (0 + 1 + 1 + 1) = i * 3 + 2 from by omega]
      exact this
theorem pnd_snoc (q : List (Nat × Tx)) (s : Nat) (t : Tx) : pnd (q ++ [(s, t)]) = pnd q ++ [.int .i64 ((s : Int) * 64), .int .i64 (((s : Int) + 1) * 64), .string (str t)] := by simp [pnd]

def ArmAt (w : World) (M : Nat → Prop) : Option (Int × Int × Int) → Value → Prop
  | none, av => av = .pointer none
  | some (a, x, y), av => ∃ ga, av = .pointer (some ⟨ga, 0, none⟩) ∧ Reg.Blk ga #[.int .i64 a, .int .i64 x, .int .i64 y] 76 w ∧ M ga

structure IsD (w : World) (B : Nat) (M : Nat → Prop) (g : Nat) (d : Dk) (gs : Nat) (qv av : Value) : Prop where
  blk : Reg.Blk g #[.slice (some ⟨gs, 0, none⟩) d.st.length d.st.length, qv, .bool d.off, av] 60 w
  stb : Reg.Blk gs (bts d.st).toArray 5 w
  que : w.ownsRow B 70 3 qv d.q.length (pnd d.q)
  arm : ArmAt w M d.arm av
  mg : M g
  ms : M gs
  mq : ∀ k, qv.ownBlock = some k → M k
  bb : ∀ k, M k → B ≤ k ∧ k < w.heap.size

def DiskAt (w : World) (B : Nat) (M : Nat → Prop) (g : Nat) (d : Dk) : Prop := ∃ gs qv av, IsD w B M g d gs qv av

/-- Whatever leaves the disk's own blocks leaves the disk. -/
theorem IsD.same {w w' : World} {B : Nat} {M : Nat → Prop} {g : Nat} {d : Dk} {gs : Nat} {qv av : Value} (h : IsD w B M g d gs qv av) (hs : w.heap.size ≤ w'.heap.size) (hk : ∀ k, M k → w'.heap[k]? = w.heap[k]?) : IsD w' B M g d gs qv av := by
  refine ⟨(hk g h.mg).trans h.blk, (hk gs h.ms).trans h.stb, ?_, ?_, h.mg, h.ms, h.mq, fun k m => ⟨(h.bb k m).1, Nat.lt_of_lt_of_le (h.bb k m).2 hs⟩⟩
  · refine ⟨h.que.1, ?_⟩
    rcases h.que.2 with hn | ⟨g', cap, cur, e, hb, hg, rest⟩
    · exact .inl hn
    · exact .inr ⟨g', cap, cur, e, hb, (hk g' (h.mq g' (by rw [e]; rfl))).trans hg, rest⟩
  · have ha := h.arm
    revert ha
    cases d.arm with
    | none => exact id
    | some t =>
      obtain ⟨a, x, y⟩ := t
      rintro ⟨ga, e, hb, hm⟩
      exact ⟨ga, e, (hk ga hm).trans hb, hm⟩
theorem IsD.below {w w' : World} {B : Nat} {M : Nat → Prop} {g : Nat} {d : Dk} {gs : Nat} {qv av : Value} (h : IsD w B M g d gs qv av) (hb : Below w.heap.size w w') : IsD w' B M g d gs qv av :=
  h.same hb.size fun k m => hb.block k (h.bb k m).2
theorem IsD.alloc {w : World} {B : Nat} {M : Nat → Prop} {g : Nat} {d : Dk} {gs : Nat} {qv av : Value} (h : IsD w B M g d gs qv av) (o : Obj) : IsD (w.alloc o) B M g d gs qv av :=
  h.same (by simp) fun k m => Below.heap_alloc w o k (h.bb k m).2
theorem IsD.set {w : World} {B : Nat} {M : Nat → Prop} {g : Nat} {d : Dk} {gs : Nat} {qv av : Value} (h : IsD w B M g d gs qv av) (a : Addr) (v : Value) (hn : ¬ M a.block) : IsD (w.setCell a v) B M g d gs qv av :=
  h.same (by simp) fun k m => Below.heap_setCell w a v k (fun e => hn (e ▸ m))

/-- What a call on a disk leaves: all blocks but the disk's; what the disk holds then is its old blocks and new ones. -/
structure Moved (M M' : Nat → Prop) (w w' : World) : Prop where
  keep : Reg.Keep M w w'
  sub : ∀ k, M' k → M k ∨ w.heap.size ≤ k
theorem Moved.refl (M : Nat → Prop) (w : World) : Moved M M w w := ⟨⟨rfl, rfl, rfl, Nat.le_refl _, fun _ _ _ => rfl⟩, fun _ h => .inl h⟩
theorem Moved.trans {M M1 M2 : Nat → Prop} {w w1 w2 : World} (h : Moved M M1 w w1) (k : Moved M1 M2 w1 w2) : Moved M M2 w w2 :=
  ⟨⟨k.keep.os.trans h.keep.os, k.keep.tape.trans h.keep.tape, k.keep.output.trans h.keep.output, Nat.le_trans h.keep.size k.keep.size,
    fun i hi hm => (k.keep.block i (Nat.lt_of_lt_of_le hi h.keep.size) (fun m1 => by rcases h.sub i m1 with m | m; exact hm m; omega)).trans (h.keep.block i hi hm)⟩,
   fun i m2 => by rcases k.sub i m2 with m1 | m1; exact h.sub i m1; exact .inr (Nat.le_trans h.keep.size m1)⟩
theorem Moved.below {M : Nat → Prop} {w w' : World} (hb : Below w.heap.size w w') : Moved M M w w' := ⟨⟨hb.os, hb.tape, hb.output, hb.size, fun k hk _ => hb.block k hk⟩, fun _ h => .inl h⟩
theorem Moved.set {M : Nat → Prop} (w : World) (a : Addr) (v : Value) (hm : M a.block) : Moved M M w (w.setCell a v) :=
  ⟨⟨rfl, rfl, rfl, by simp, fun k _ hn => Below.heap_setCell w a v k (fun e => hn (e ▸ hm))⟩, fun _ h => .inl h⟩
theorem Moved.alloc {M : Nat → Prop} (w : World) (o : Obj) : Moved M M w (w.alloc o) := ⟨⟨rfl, rfl, rfl, by simp, fun k hk _ => Below.heap_alloc w o k hk⟩, fun _ h => .inl h⟩
theorem Moved.draw {M : Nat → Prop} (w : World) : Moved M M w w.drew := ⟨⟨rfl, rfl, rfl, Nat.le_refl _, fun _ _ _ => rfl⟩, fun _ h => .inl h⟩
theorem Moved.toBelow {M M' : Nat → Prop} {w w' : World} {B : Nat} (h : Moved M M' w w') (hM : ∀ k, M k → B ≤ k) (hB : B ≤ w.heap.size) : Below B w w' :=
  h.keep.below fun k hk => ⟨Nat.lt_of_lt_of_le hk hB, fun m => by have := hM k m; omega⟩
/-- A block that is not the disk's stays. -/
theorem Moved.blk {M M' : Nat → Prop} {w w' : World} (h : Moved M M' w w') {g : Nat} {C : Array Value} {T : TypeId} (hb : Reg.Blk g C T w) (hm : ¬ M g) : Reg.Blk g C T w' := (h.keep.block g hb.lt hm).trans hb

def Post (w : World) (B : Nat) (M : Nat → Prop) (g : Nat) (d : Dk) (w' : World) : Prop := ∃ M', DiskAt w' B M' g d ∧ Moved M M' w w'
theorem Post.trans {w w1 : World} {B : Nat} {M M1 : Nat → Prop} {g : Nat} {d : Dk} {w' : World} (m : Moved M M1 w w1) (h : Post w1 B M1 g d w') : Post w B M g d w' := by
  obtain ⟨M', hd, hm⟩ := h
  exact ⟨M', hd, m.trans hm⟩

end D
end Go.Proofs.Ytopjekdhecikdaa
