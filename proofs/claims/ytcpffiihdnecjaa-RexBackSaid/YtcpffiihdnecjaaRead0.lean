/- rex.Read and the document's Read: the runs. -/
import Derived.Test.YtcpffiihdnecjaaRows
import Derived.Test.YtcpffiihdnecjaaEv33
import Derived.Test.YtcpffiihdnecjaaEv35
import Derived.Test.YtcpffiihdnecjaaKept
namespace Go.Proofs.Ytcpffiihdnecjaa
open Go Go.RowKit Ev
set_option linter.unusedVariables false
set_option linter.unusedSimpArgs false
set_option linter.unusedSectionVars false

noncomputable def V2 : Env := { P := Try.prog, E := tabOf Try.prog, G := 2, ext := .nil, sum := .nil }
theorem sure2 : Sure V2 := sure0 rfl rfl rfl (by kernel_rfl)
theorem small2 : V2.P.globals.size ≤ 1 := of_decide_eq_true (by kernel_rfl)

/-- A REX. -/
def tailL (pre n : Int) : List Int → Int × Int × Int
  | x :: _ => bif 64 ≤ x && x ≤ 79 then (pre, x - 64, n + 1) else (pre, -1, n)
  | [] => (pre, -1, n)
/-- F2 or F3, then a REX. -/
def midL (pre n : Int) : List Int → Int × Int × Int
  | x :: r => bif x == 242 then tailL (pre + 2) (n + 1) r else bif x == 243 then tailL (pre + 4) (n + 1) r else tailL pre n (x :: r)
  | [] => (pre, -1, n)
/-- Which prefixes bytes begin with. -/
def readL : List Int → Int × Int × Int
  | x :: r => bif x == 102 then midL 1 1 r else midL 0 0 (x :: r)
  | [] => (0, -1, 0)

/-- A row of which at most the first seven cells are looked at. -/
noncomputable def argRow (l : List AV) (t fr : Nat) : Row := { cells := T.ofF 3 (fun i => l[i]?), len := l.length, cls := 0, ep := 0, fr := fr, elem := t, whole := false, sh := false }

noncomputable def runB (f : FuncId) (l : List Int) (t fr cap : Nat) : Bool :=
  match evA V2 100000 f [.slice 1 0 l.length cap] (tabM 2 1 (argRow (l.map (AV.int .u8)) t fr)) with
  | some (.tuple [.int .i64 a, .int .i64 b, .int .i64 c], _) => a == (readL l).1 && b == (readL l).2.1 && c == (readL l).2.2
  | _ => false

noncomputable def bothB (l : List Int) (t fr cap : Nat) : Bool := runB 9 l t fr cap && runB 10 l t fr cap

theorem r_empty : ∀ (t fr cap : Nat), bothB [] t fr cap = true := fun t fr cap => by kernel_rfl
end Go.Proofs.Ytcpffiihdnecjaa
