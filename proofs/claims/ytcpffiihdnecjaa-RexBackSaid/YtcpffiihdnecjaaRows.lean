/-
  No cell of these rows narrows 'for every input' (looked for: loops, veiled, ifaces, maps, wideKeys, modest, calm, conditions, laid).
  DERIVED. THE GIVEN ROWS OF THIS SEAT. 4 by the template 'for every input the law returns true; each argument reads behind the call as it read before'; 0 by the template 'total and deterministic' (their statements: YtcpffiihdnecjaaTotals.lean).
  GIVEN WITH THE SEED: the statements are not yours to turn. If you find one false, say at which input.
  Laid BY PROGRAM, IN A SANDBOX (cutbox-rows.mjs): the forced cells as the released guide's own fill.sh prints them over the translation f1cf2acf622b374c… (all of the seat's roots in one cut). By AI agents, Wed Nov 11 2026. No macro, syntax, notation, axiom, sorry.
-/
import Derived.Test.YtcpffiihdnecjaaChecked
import GoSem.Claim
import GoSem.ClaimJoined
import GoSem.ClaimMapViews
import Derived.JoinedTies
import Derived.KernelRfl
namespace Go.Proofs.Ytcpffiihdnecjaa
/- THE CELL 'sum', in the pinned program and in every row, IS THE sha256 OF THE DUMP (.gsa) THAT YtcpffiihdnecjaaProg.lean LOADS. Nothing in Lean hashes anything: it is a label: what it is worth is what the hold of that sum in a sandbox is worth. -/
noncomputable def Try.pinned : Pinned := { name := "ytcpffiihdnecjaa", sum := "f1cf2acf622b374c2e10b29e206000f932a1c5ce72f4681576eff95d9bea20df", checked := Try.checked }
namespace Rows
def none {H : Type} : Left H := { results := [], args := [] }

/-- 'linotypelaw10.RexReads': WHATEVER THE INPUT: true; the input reads as it did. -/
def rexReadsSpec : ChangeSpec := { name := "rexReads", fn := fun _ => fun
  | [d] => { results := [.lit (.bool true)], args := [d] }
  | _ => none }
def rexReadsRow : OpenClaim := { program := "ytcpffiihdnecjaa", sum := "f1cf2acf622b374c2e10b29e206000f932a1c5ce72f4681576eff95d9bea20df", func := "linotype/linotypelaw10.RexReads", spec := "rexReads", apart := false }
def RexReadsSaid : Prop := rexReadsRow.holds Try.pinned (OpenSpec.ofChange rexReadsSpec)

/-- ITS FALSE NEIGHBOUR: 'it returns false'. Refute it at one input. -/
def rexReadsWrong : ChangeSpec := { name := "rexReads", fn := fun _ => fun
  | [d] => { results := [.lit (.bool false)], args := [d] }
  | _ => none }
def RexReadsWrongFalsely : Prop := rexReadsRow.holds Try.pinned (OpenSpec.ofChange rexReadsWrong)

/-- 'linotypelaw10.RexLays': WHATEVER THE INPUT: true; the input reads as it did. -/
def rexLaysSpec : ChangeSpec := { name := "rexLays", fn := fun _ => fun
  | [d1, d2, d3, d4, d5, d6] => { results := [.lit (.bool true)], args := [d1, d2, d3, d4, d5, d6] }
  | _ => none }
def rexLaysRow : OpenClaim := { program := "ytcpffiihdnecjaa", sum := "f1cf2acf622b374c2e10b29e206000f932a1c5ce72f4681576eff95d9bea20df", func := "linotype/linotypelaw10.RexLays", spec := "rexLays", unfollowed := true, recurses := true, apart := false }
def RexLaysSaid : Prop := rexLaysRow.holds Try.pinned (OpenSpec.ofChange rexLaysSpec)

/-- ITS FALSE NEIGHBOUR: 'it returns false'. Refute it at one input. -/
def rexLaysWrong : ChangeSpec := { name := "rexLays", fn := fun _ => fun
  | [d1, d2, d3, d4, d5, d6] => { results := [.lit (.bool false)], args := [d1, d2, d3, d4, d5, d6] }
  | _ => none }
def RexLaysWrongFalsely : Prop := rexLaysRow.holds Try.pinned (OpenSpec.ofChange rexLaysWrong)

/-- 'linotypelaw10.RexKnown': WHATEVER THE INPUT: true; the input reads as it did. -/
def rexKnownSpec : ChangeSpec := { name := "rexKnown", fn := fun _ => fun
  | [] => { results := [.lit (.bool true)], args := [] }
  | _ => none }
def rexKnownRow : OpenClaim := { program := "ytcpffiihdnecjaa", sum := "f1cf2acf622b374c2e10b29e206000f932a1c5ce72f4681576eff95d9bea20df", func := "linotype/linotypelaw10.RexKnown", spec := "rexKnown", unfollowed := true, recurses := true, apart := false }
def RexKnownSaid : Prop := rexKnownRow.holds Try.pinned (OpenSpec.ofChange rexKnownSpec)

/-- ITS FALSE NEIGHBOUR: 'it returns false'. Refute it at one input. -/
def rexKnownWrong : ChangeSpec := { name := "rexKnown", fn := fun _ => fun
  | [] => { results := [.lit (.bool false)], args := [] }
  | _ => none }
def RexKnownWrongFalsely : Prop := rexKnownRow.holds Try.pinned (OpenSpec.ofChange rexKnownWrong)

/-- 'linotypelaw10.RexBack': WHATEVER THE INPUT: true; the input reads as it did. -/
def rexBackSpec : ChangeSpec := { name := "rexBack", fn := fun _ => fun
  | [d1, d2, d3] => { results := [.lit (.bool true)], args := [d1, d2, d3] }
  | _ => none }
def rexBackRow : OpenClaim := { program := "ytcpffiihdnecjaa", sum := "f1cf2acf622b374c2e10b29e206000f932a1c5ce72f4681576eff95d9bea20df", func := "linotype/linotypelaw10.RexBack", spec := "rexBack", unfollowed := true, recurses := true, apart := false }
def RexBackSaid : Prop := rexBackRow.holds Try.pinned (OpenSpec.ofChange rexBackSpec)

/-- ITS FALSE NEIGHBOUR: 'it returns false'. Refute it at one input. -/
def rexBackWrong : ChangeSpec := { name := "rexBack", fn := fun _ => fun
  | [d1, d2, d3] => { results := [.lit (.bool false)], args := [d1, d2, d3] }
  | _ => none }
def RexBackWrongFalsely : Prop := rexBackRow.holds Try.pinned (OpenSpec.ofChange rexBackWrong)

/- THE SECOND FORM. 'bulk': how many values and letters a reading holds, each counted each time it is reached (what is shared counts as often as it is met; a slice's spare places count too). A statement '..UptoSaid' is the law's where the arguments, and the package variables that the reading takes, are together of bulk at most 1048576: NARROWER than '..Said'. Prove '..Said' where nothing that the law and all that it calls make is longer than what came in: it says more and counts as full. Else prove '..UptoSaid'. A law counts once. -/
mutual
def uptoBulk {H : Type} : DataW H → Nat
  | .lit (.string bytes) => bytes.length + 1
  | .lit _ => 1
  | .nil => 1
  | .ptr d => uptoBulk d + 1
  | .slice elems spare => uptoBulkAll elems + uptoBulkAll spare + 1
  | .agg parts => uptoBulkAll parts + 1
  | .iface _ d => uptoBulk d + 1
  | .map entries => uptoBulkEntries entries + 1
  | .held _ => 1
def uptoBulkAll {H : Type} : List (DataW H) → Nat
  | [] => 0
  | d :: r => uptoBulk d + uptoBulkAll r
def uptoBulkEntries {H : Type} : List (Lit × DataW H) → Nat
  | [] => 0
  | x :: r => uptoBulkEntry x + uptoBulkEntries r
def uptoBulkEntry {H : Type} : Lit × DataW H → Nat
  | (.string bytes, d) => bytes.length + uptoBulk d + 1
  | (_, d) => uptoBulk d + 1
 end
def uptoSmall : (H : Type) → List (DataW H) → Bool := fun _ ds => decide (uptoBulkAll ds ≤ 1048576)
def OpenSpec.upto (s : _root_.Go.ChangeSpec) : _root_.Go.OpenSpec := { _root_.Go.OpenSpec.ofChange s with cond := some uptoSmall }

/-- 'linotypelaw10.RexReads', WHERE WHAT IT READS IS OF BULK AT MOST 1048576: true; the input reads as it did. -/
def rexReadsUptoRow : OpenClaim := { program := "ytcpffiihdnecjaa", sum := "f1cf2acf622b374c2e10b29e206000f932a1c5ce72f4681576eff95d9bea20df", func := "linotype/linotypelaw10.RexReads", spec := "rexReads", apart := false, narrowed := true }
def RexReadsUptoSaid : Prop := rexReadsUptoRow.holds Try.pinned (OpenSpec.upto rexReadsSpec)

/-- 'linotypelaw10.RexLays', WHERE WHAT IT READS IS OF BULK AT MOST 1048576: true; the input reads as it did. -/
def rexLaysUptoRow : OpenClaim := { program := "ytcpffiihdnecjaa", sum := "f1cf2acf622b374c2e10b29e206000f932a1c5ce72f4681576eff95d9bea20df", func := "linotype/linotypelaw10.RexLays", spec := "rexLays", unfollowed := true, recurses := true, apart := false, narrowed := true }
def RexLaysUptoSaid : Prop := rexLaysUptoRow.holds Try.pinned (OpenSpec.upto rexLaysSpec)

/-- 'linotypelaw10.RexKnown', WHERE WHAT IT READS IS OF BULK AT MOST 1048576: true; the input reads as it did. -/
def rexKnownUptoRow : OpenClaim := { program := "ytcpffiihdnecjaa", sum := "f1cf2acf622b374c2e10b29e206000f932a1c5ce72f4681576eff95d9bea20df", func := "linotype/linotypelaw10.RexKnown", spec := "rexKnown", unfollowed := true, recurses := true, apart := false, narrowed := true }
def RexKnownUptoSaid : Prop := rexKnownUptoRow.holds Try.pinned (OpenSpec.upto rexKnownSpec)

/-- 'linotypelaw10.RexBack', WHERE WHAT IT READS IS OF BULK AT MOST 1048576: true; the input reads as it did. -/
def rexBackUptoRow : OpenClaim := { program := "ytcpffiihdnecjaa", sum := "f1cf2acf622b374c2e10b29e206000f932a1c5ce72f4681576eff95d9bea20df", func := "linotype/linotypelaw10.RexBack", spec := "rexBack", unfollowed := true, recurses := true, apart := false, narrowed := true }
def RexBackUptoSaid : Prop := rexBackUptoRow.holds Try.pinned (OpenSpec.upto rexBackSpec)

end Rows
end Go.Proofs.Ytcpffiihdnecjaa
