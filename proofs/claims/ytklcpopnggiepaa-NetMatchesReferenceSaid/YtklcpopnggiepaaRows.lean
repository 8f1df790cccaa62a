/-
  No cell of these rows narrows 'for every input' (looked for: loops, veiled, ifaces, maps, wideKeys, modest, calm, conditions, laid).
  DERIVED. THE GIVEN ROWS OF THIS SEAT. 7 by the template 'for every input the law returns true; each argument reads behind the call as it read before'; 0 by the template 'total and deterministic' (their statements: YtklcpopnggiepaaTotals.lean).
  GIVEN WITH THE SEED: the statements are not yours to turn. If you find one false, say at which input.
  Laid BY PROGRAM, IN A SANDBOX (cutbox-rows.mjs): the forced cells as the released guide's own fill.sh prints them over the translation 8ffec34ca5b18b66… (all of the seat's roots in one cut). By AI agents, Wed Nov 11 2026. No macro, syntax, notation, axiom, sorry.
-/
import Derived.Test.YtklcpopnggiepaaChecked
import GoSem.Claim
import GoSem.ClaimJoined
import GoSem.ClaimMapViews
import Derived.JoinedTies
import Derived.KernelRfl
namespace Go.Proofs.Ytklcpopnggiepaa
/- THE CELL 'sum', in the pinned program and in every row, IS THE sha256 OF THE DUMP (.gsa) THAT YtklcpopnggiepaaProg.lean LOADS. Nothing in Lean hashes anything: it is a label: what it is worth is what the hold of that sum in a sandbox is worth. -/
noncomputable def Try.pinned : Pinned := { name := "ytklcpopnggiepaa", sum := "8ffec34ca5b18b661d4aa605781cb51714bb410fe2c9a386b370773f7c35706d", checked := Try.checked }
namespace Rows
def none {H : Type} : Left H := { results := [], args := [] }

/-- 'gazetteerlaw51.NetOrder': WHATEVER THE INPUT: true; the input reads as it did. -/
def netOrderSpec : ChangeSpec := { name := "netOrder", fn := fun _ => fun
  | [d1, d2, d3, d4] => { results := [.lit (.bool true)], args := [d1, d2, d3, d4] }
  | _ => none }
def netOrderRow : OpenClaim := { program := "ytklcpopnggiepaa", sum := "8ffec34ca5b18b661d4aa605781cb51714bb410fe2c9a386b370773f7c35706d", func := "gazetteer/gazetteerlaw51.NetOrder", spec := "netOrder", unfollowed := true, recurses := true, plainKeys := false, apart := false }
def NetOrderSaid : Prop := netOrderRow.holds Try.pinned (OpenSpec.ofChange netOrderSpec)

/-- ITS FALSE NEIGHBOUR: 'it returns false'. Refute it at one input. -/
def netOrderWrong : ChangeSpec := { name := "netOrder", fn := fun _ => fun
  | [d1, d2, d3, d4] => { results := [.lit (.bool false)], args := [d1, d2, d3, d4] }
  | _ => none }
def NetOrderWrongFalsely : Prop := netOrderRow.holds Try.pinned (OpenSpec.ofChange netOrderWrong)

/-- 'gazetteerlaw51.NetTakes': WHATEVER THE INPUT: true; the input reads as it did. -/
def netTakesSpec : ChangeSpec := { name := "netTakes", fn := fun _ => fun
  | [d1, d2, d3] => { results := [.lit (.bool true)], args := [d1, d2, d3] }
  | _ => none }
def netTakesRow : OpenClaim := { program := "ytklcpopnggiepaa", sum := "8ffec34ca5b18b661d4aa605781cb51714bb410fe2c9a386b370773f7c35706d", func := "gazetteer/gazetteerlaw51.NetTakes", spec := "netTakes", unfollowed := true, recurses := true, plainKeys := false, apart := false }
def NetTakesSaid : Prop := netTakesRow.holds Try.pinned (OpenSpec.ofChange netTakesSpec)

/-- ITS FALSE NEIGHBOUR: 'it returns false'. Refute it at one input. -/
def netTakesWrong : ChangeSpec := { name := "netTakes", fn := fun _ => fun
  | [d1, d2, d3] => { results := [.lit (.bool false)], args := [d1, d2, d3] }
  | _ => none }
def NetTakesWrongFalsely : Prop := netTakesRow.holds Try.pinned (OpenSpec.ofChange netTakesWrong)

/-- 'gazetteerlaw51.NetFull': WHATEVER THE INPUT: true; the input reads as it did. -/
def netFullSpec : ChangeSpec := { name := "netFull", fn := fun _ => fun
  | [d1, d2] => { results := [.lit (.bool true)], args := [d1, d2] }
  | _ => none }
def netFullRow : OpenClaim := { program := "ytklcpopnggiepaa", sum := "8ffec34ca5b18b661d4aa605781cb51714bb410fe2c9a386b370773f7c35706d", func := "gazetteer/gazetteerlaw51.NetFull", spec := "netFull", unfollowed := true, recurses := true, plainKeys := false, apart := false }
def NetFullSaid : Prop := netFullRow.holds Try.pinned (OpenSpec.ofChange netFullSpec)

/-- ITS FALSE NEIGHBOUR: 'it returns false'. Refute it at one input. -/
def netFullWrong : ChangeSpec := { name := "netFull", fn := fun _ => fun
  | [d1, d2] => { results := [.lit (.bool false)], args := [d1, d2] }
  | _ => none }
def NetFullWrongFalsely : Prop := netFullRow.holds Try.pinned (OpenSpec.ofChange netFullWrong)

/-- 'gazetteerlaw51.NetMatchesReference': WHATEVER THE INPUT: true; the input reads as it did. -/
def netMatchesReferenceSpec : ChangeSpec := { name := "netMatchesReference", fn := fun _ => fun
  | [d1, d2, d3, d4] => { results := [.lit (.bool true)], args := [d1, d2, d3, d4] }
  | _ => none }
def netMatchesReferenceRow : OpenClaim := { program := "ytklcpopnggiepaa", sum := "8ffec34ca5b18b661d4aa605781cb51714bb410fe2c9a386b370773f7c35706d", func := "gazetteer/gazetteerlaw51.NetMatchesReference", spec := "netMatchesReference", unfollowed := true, recurses := true, plainKeys := false, apart := false }
def NetMatchesReferenceSaid : Prop := netMatchesReferenceRow.holds Try.pinned (OpenSpec.ofChange netMatchesReferenceSpec)

/-- ITS FALSE NEIGHBOUR: 'it returns false'. Refute it at one input. -/
def netMatchesReferenceWrong : ChangeSpec := { name := "netMatchesReference", fn := fun _ => fun
  | [d1, d2, d3, d4] => { results := [.lit (.bool false)], args := [d1, d2, d3, d4] }
  | _ => none }
def NetMatchesReferenceWrongFalsely : Prop := netMatchesReferenceRow.holds Try.pinned (OpenSpec.ofChange netMatchesReferenceWrong)

/-- 'gazetteerlaw51.NetNil': WHATEVER THE INPUT: true; the input reads as it did. -/
def netNilSpec : ChangeSpec := { name := "netNil", fn := fun _ => fun
  | [d1, d2, d3, d4, d5] => { results := [.lit (.bool true)], args := [d1, d2, d3, d4, d5] }
  | _ => none }
def netNilRow : OpenClaim := { program := "ytklcpopnggiepaa", sum := "8ffec34ca5b18b661d4aa605781cb51714bb410fe2c9a386b370773f7c35706d", func := "gazetteer/gazetteerlaw51.NetNil", spec := "netNil", unfollowed := true, recurses := true, plainKeys := false, apart := false }
def NetNilSaid : Prop := netNilRow.holds Try.pinned (OpenSpec.ofChange netNilSpec)

/-- ITS FALSE NEIGHBOUR: 'it returns false'. Refute it at one input. -/
def netNilWrong : ChangeSpec := { name := "netNil", fn := fun _ => fun
  | [d1, d2, d3, d4, d5] => { results := [.lit (.bool false)], args := [d1, d2, d3, d4, d5] }
  | _ => none }
def NetNilWrongFalsely : Prop := netNilRow.holds Try.pinned (OpenSpec.ofChange netNilWrong)

/-- 'gazetteerlaw51.NetHonest': WHATEVER THE INPUT: true; the input reads as it did. -/
def netHonestSpec : ChangeSpec := { name := "netHonest", fn := fun _ => fun
  | [d1, d2] => { results := [.lit (.bool true)], args := [d1, d2] }
  | _ => none }
def netHonestRow : OpenClaim := { program := "ytklcpopnggiepaa", sum := "8ffec34ca5b18b661d4aa605781cb51714bb410fe2c9a386b370773f7c35706d", func := "gazetteer/gazetteerlaw51.NetHonest", spec := "netHonest", unfollowed := true, recurses := true, plainKeys := false, apart := false }
def NetHonestSaid : Prop := netHonestRow.holds Try.pinned (OpenSpec.ofChange netHonestSpec)

/-- ITS FALSE NEIGHBOUR: 'it returns false'. Refute it at one input. -/
def netHonestWrong : ChangeSpec := { name := "netHonest", fn := fun _ => fun
  | [d1, d2] => { results := [.lit (.bool false)], args := [d1, d2] }
  | _ => none }
def NetHonestWrongFalsely : Prop := netHonestRow.holds Try.pinned (OpenSpec.ofChange netHonestWrong)

/-- 'gazetteerlaw51.NetLines': WHATEVER THE INPUT: true; the input reads as it did. -/
def netLinesSpec : ChangeSpec := { name := "netLines", fn := fun _ => fun
  | [d1, d2, d3, d4] => { results := [.lit (.bool true)], args := [d1, d2, d3, d4] }
  | _ => none }
def netLinesRow : OpenClaim := { program := "ytklcpopnggiepaa", sum := "8ffec34ca5b18b661d4aa605781cb51714bb410fe2c9a386b370773f7c35706d", func := "gazetteer/gazetteerlaw51.NetLines", spec := "netLines", unfollowed := true, recurses := true, plainKeys := false, apart := false }
def NetLinesSaid : Prop := netLinesRow.holds Try.pinned (OpenSpec.ofChange netLinesSpec)

/-- ITS FALSE NEIGHBOUR: 'it returns false'. Refute it at one input. -/
def netLinesWrong : ChangeSpec := { name := "netLines", fn := fun _ => fun
  | [d1, d2, d3, d4] => { results := [.lit (.bool false)], args := [d1, d2, d3, d4] }
  | _ => none }
def NetLinesWrongFalsely : Prop := netLinesRow.holds Try.pinned (OpenSpec.ofChange netLinesWrong)

/- THE SECOND FORM. 'bulk': how many values and letters a reading holds, each counted each time it is reached (what is shared counts as often as it is met; a slice's spare places count too). A statement '..UptoSaid' is the law's where the arguments, and the package variables that the reading takes, are together of bulk at most 1048576: NARROWER than '..Said'. Prove '..Said' where nothing that the law and all that it calls make is longer than what came in: it says more and counts as full. Else prove '..UptoSaid'. A law counts once. -/
mutual
def uptoBulk {H : Type} : DataW H → Nat
  | .lit (.string bytes) => bytes.length + 1
  | .lit _ => 1
  | .nil => 1
  | .ptr d => uptoBulk d + 1
  | .slice elems spare => uptoBulkAll elems + uptoBulkAll spare + 1
  | .agg parts => uptoBulkAll parts + 1
  | .iface _ d => uptoBulk d + 1
  | .map entries => uptoBulkEntries entries + 1
  | .held _ => 1
def uptoBulkAll {H : Type} : List (DataW H) → Nat
  | [] => 0
  | d :: r => uptoBulk d + uptoBulkAll r
def uptoBulkEntries {H : Type} : List (Lit × DataW H) → Nat
  | [] => 0
  | x :: r => uptoBulkEntry x + uptoBulkEntries r
def uptoBulkEntry {H : Type} : Lit × DataW H → Nat
  | (.string bytes, d) => bytes.length + uptoBulk d + 1
  | (_, d) => uptoBulk d + 1
 end
def uptoSmall : (H : Type) → List (DataW H) → Bool := fun _ ds => decide (uptoBulkAll ds ≤ 1048576)
def OpenSpec.upto (s : _root_.Go.ChangeSpec) : _root_.Go.OpenSpec := { _root_.Go.OpenSpec.ofChange s with cond := some uptoSmall }

/-- 'gazetteerlaw51.NetOrder', WHERE WHAT IT READS IS OF BULK AT MOST 1048576: true; the input reads as it did. -/
def netOrderUptoRow : OpenClaim := { program := "ytklcpopnggiepaa", sum := "8ffec34ca5b18b661d4aa605781cb51714bb410fe2c9a386b370773f7c35706d", func := "gazetteer/gazetteerlaw51.NetOrder", spec := "netOrder", unfollowed := true, recurses := true, plainKeys := false, apart := false, narrowed := true }
def NetOrderUptoSaid : Prop := netOrderUptoRow.holds Try.pinned (OpenSpec.upto netOrderSpec)

/-- 'gazetteerlaw51.NetTakes', WHERE WHAT IT READS IS OF BULK AT MOST 1048576: true; the input reads as it did. -/
def netTakesUptoRow : OpenClaim := { program := "ytklcpopnggiepaa", sum := "8ffec34ca5b18b661d4aa605781cb51714bb410fe2c9a386b370773f7c35706d", func := "gazetteer/gazetteerlaw51.NetTakes", spec := "netTakes", unfollowed := true, recurses := true, plainKeys := false, apart := false, narrowed := true }
def NetTakesUptoSaid : Prop := netTakesUptoRow.holds Try.pinned (OpenSpec.upto netTakesSpec)

/-- 'gazetteerlaw51.NetFull', WHERE WHAT IT READS IS OF BULK AT MOST 1048576: true; the input reads as it did. -/
def netFullUptoRow : OpenClaim := { program := "ytklcpopnggiepaa", sum := "8ffec34ca5b18b661d4aa605781cb51714bb410fe2c9a386b370773f7c35706d", func := "gazetteer/gazetteerlaw51.NetFull", spec := "netFull", unfollowed := true, recurses := true, plainKeys := false, apart := false, narrowed := true }
def NetFullUptoSaid : Prop := netFullUptoRow.holds Try.pinned (OpenSpec.upto netFullSpec)

/-- 'gazetteerlaw51.NetMatchesReference', WHERE WHAT IT READS IS OF BULK AT MOST 1048576: true; the input reads as it did. -/
def netMatchesReferenceUptoRow : OpenClaim := { program := "ytklcpopnggiepaa", sum := "8ffec34ca5b18b661d4aa605781cb51714bb410fe2c9a386b370773f7c35706d", func := "gazetteer/gazetteerlaw51.NetMatchesReference", spec := "netMatchesReference", unfollowed := true, recurses := true, plainKeys := false, apart := false, narrowed := true }
def NetMatchesReferenceUptoSaid : Prop := netMatchesReferenceUptoRow.holds Try.pinned (OpenSpec.upto netMatchesReferenceSpec)

/-- 'gazetteerlaw51.NetNil', WHERE WHAT IT READS IS OF BULK AT MOST 1048576: true; the input reads as it did. -/
def netNilUptoRow : OpenClaim := { program := "ytklcpopnggiepaa", sum := "8ffec34ca5b18b661d4aa605781cb51714bb410fe2c9a386b370773f7c35706d", func := "gazetteer/gazetteerlaw51.NetNil", spec := "netNil", unfollowed := true, recurses := true, plainKeys := false, apart := false, narrowed := true }
def NetNilUptoSaid : Prop := netNilUptoRow.holds Try.pinned (OpenSpec.upto netNilSpec)

/-- 'gazetteerlaw51.NetHonest', WHERE WHAT IT READS IS OF BULK AT MOST 1048576: true; the input reads as it did. -/
def netHonestUptoRow : OpenClaim := { program := "ytklcpopnggiepaa", sum := "8ffec34ca5b18b661d4aa605781cb51714bb410fe2c9a386b370773f7c35706d", func := "gazetteer/gazetteerlaw51.NetHonest", spec := "netHonest", unfollowed := true, recurses := true, plainKeys := false, apart := false, narrowed := true }
def NetHonestUptoSaid : Prop := netHonestUptoRow.holds Try.pinned (OpenSpec.upto netHonestSpec)

/-- 'gazetteerlaw51.NetLines', WHERE WHAT IT READS IS OF BULK AT MOST 1048576: true; the input reads as it did. -/
def netLinesUptoRow : OpenClaim := { program := "ytklcpopnggiepaa", sum := "8ffec34ca5b18b661d4aa605781cb51714bb410fe2c9a386b370773f7c35706d", func := "gazetteer/gazetteerlaw51.NetLines", spec := "netLines", unfollowed := true, recurses := true, plainKeys := false, apart := false, narrowed := true }
def NetLinesUptoSaid : Prop := netLinesUptoRow.holds Try.pinned (OpenSpec.upto netLinesSpec)

end Rows
end Go.Proofs.Ytklcpopnggiepaa
