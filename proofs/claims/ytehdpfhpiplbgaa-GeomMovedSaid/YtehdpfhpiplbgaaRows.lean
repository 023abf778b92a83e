/-
  No cell of these rows narrows 'for every input' (looked for: loops, veiled, ifaces, maps, wideKeys, modest, calm, conditions, laid).
  DERIVED. THE GIVEN ROWS OF THIS SEAT. 4 by the template 'for every input the law returns true; each argument reads behind the call as it read before'; 0 by the template 'total and deterministic' (their statements: YtehdpfhpiplbgaaTotals.lean).
  GIVEN WITH THE SEED: the statements are not yours to turn. If you find one false, say at which input.
  Laid BY PROGRAM, IN A SANDBOX (cutbox-rows.mjs): the forced cells as the released guide's own fill.sh prints them over the translation 118161e00e58f86d… (all of the seat's roots in one cut). By AI agents, Wed Nov 11 2026. No macro, syntax, notation, axiom, sorry.
-/
import Derived.Test.YtehdpfhpiplbgaaChecked
import GoSem.Claim
import GoSem.ClaimJoined
import GoSem.ClaimMapViews
import Derived.JoinedTies
import Derived.KernelRfl
namespace Go.Proofs.Ytehdpfhpiplbgaa
/- THE CELL 'sum', in the pinned program and in every row, IS THE sha256 OF THE DUMP (.gsa) THAT YtehdpfhpiplbgaaProg.lean LOADS. Nothing in Lean hashes anything: it is a label: what it is worth is what the hold of that sum in a sandbox is worth. -/
noncomputable def Try.pinned : Pinned := { name := "ytehdpfhpiplbgaa", sum := "118161e00e58f86d4cbc6e7ba05f97222463fd8a1852be238d0a8f10983d220e", checked := Try.checked }
namespace Rows
def none {H : Type} : Left H := { results := [], args := [] }

/-- 'parterrelaw6.GeomAsks': WHATEVER THE INPUT: true; the input reads as it did. -/
def geomAsksSpec : ChangeSpec := { name := "geomAsks", fn := fun _ => fun
  | [d1, d2, d3, d4, d5, d6] => { results := [.lit (.bool true)], args := [d1, d2, d3, d4, d5, d6] }
  | _ => none }
def geomAsksRow : OpenClaim := { program := "ytehdpfhpiplbgaa", sum := "118161e00e58f86d4cbc6e7ba05f97222463fd8a1852be238d0a8f10983d220e", func := "parterre/parterrelaw6.GeomAsks", spec := "geomAsks", apart := false }
def GeomAsksSaid : Prop := geomAsksRow.holds Try.pinned (OpenSpec.ofChange geomAsksSpec)

/-- ITS FALSE NEIGHBOUR: 'it returns false'. Refute it at one input. -/
def geomAsksWrong : ChangeSpec := { name := "geomAsks", fn := fun _ => fun
  | [d1, d2, d3, d4, d5, d6] => { results := [.lit (.bool false)], args := [d1, d2, d3, d4, d5, d6] }
  | _ => none }
def GeomAsksWrongFalsely : Prop := geomAsksRow.holds Try.pinned (OpenSpec.ofChange geomAsksWrong)

/-- 'parterrelaw6.GeomFar': WHATEVER THE INPUT: true; the input reads as it did. -/
def geomFarSpec : ChangeSpec := { name := "geomFar", fn := fun _ => fun
  | [d1, d2, d3] => { results := [.lit (.bool true)], args := [d1, d2, d3] }
  | _ => none }
def geomFarRow : OpenClaim := { program := "ytehdpfhpiplbgaa", sum := "118161e00e58f86d4cbc6e7ba05f97222463fd8a1852be238d0a8f10983d220e", func := "parterre/parterrelaw6.GeomFar", spec := "geomFar", apart := false }
def GeomFarSaid : Prop := geomFarRow.holds Try.pinned (OpenSpec.ofChange geomFarSpec)

/-- ITS FALSE NEIGHBOUR: 'it returns false'. Refute it at one input. -/
def geomFarWrong : ChangeSpec := { name := "geomFar", fn := fun _ => fun
  | [d1, d2, d3] => { results := [.lit (.bool false)], args := [d1, d2, d3] }
  | _ => none }
def GeomFarWrongFalsely : Prop := geomFarRow.holds Try.pinned (OpenSpec.ofChange geomFarWrong)

/-- 'parterrelaw6.GeomMoved': WHATEVER THE INPUT: true; the input reads as it did. -/
def geomMovedSpec : ChangeSpec := { name := "geomMoved", fn := fun _ => fun
  | [d1, d2, d3, d4] => { results := [.lit (.bool true)], args := [d1, d2, d3, d4] }
  | _ => none }
def geomMovedRow : OpenClaim := { program := "ytehdpfhpiplbgaa", sum := "118161e00e58f86d4cbc6e7ba05f97222463fd8a1852be238d0a8f10983d220e", func := "parterre/parterrelaw6.GeomMoved", spec := "geomMoved", apart := false }
def GeomMovedSaid : Prop := geomMovedRow.holds Try.pinned (OpenSpec.ofChange geomMovedSpec)

/-- ITS FALSE NEIGHBOUR: 'it returns false'. Refute it at one input. -/
def geomMovedWrong : ChangeSpec := { name := "geomMoved", fn := fun _ => fun
  | [d1, d2, d3, d4] => { results := [.lit (.bool false)], args := [d1, d2, d3, d4] }
  | _ => none }
def GeomMovedWrongFalsely : Prop := geomMovedRow.holds Try.pinned (OpenSpec.ofChange geomMovedWrong)

/-- 'parterrelaw6.GeomNear': WHATEVER THE INPUT: true; the input reads as it did. -/
def geomNearSpec : ChangeSpec := { name := "geomNear", fn := fun _ => fun
  | [d1, d2, d3, d4] => { results := [.lit (.bool true)], args := [d1, d2, d3, d4] }
  | _ => none }
def geomNearRow : OpenClaim := { program := "ytehdpfhpiplbgaa", sum := "118161e00e58f86d4cbc6e7ba05f97222463fd8a1852be238d0a8f10983d220e", func := "parterre/parterrelaw6.GeomNear", spec := "geomNear", apart := false }
def GeomNearSaid : Prop := geomNearRow.holds Try.pinned (OpenSpec.ofChange geomNearSpec)

/-- ITS FALSE NEIGHBOUR: 'it returns false'. Refute it at one input. -/
def geomNearWrong : ChangeSpec := { name := "geomNear", fn := fun _ => fun
  | [d1, d2, d3, d4] => { results := [.lit (.bool false)], args := [d1, d2, d3, d4] }
  | _ => none }
def GeomNearWrongFalsely : Prop := geomNearRow.holds Try.pinned (OpenSpec.ofChange geomNearWrong)

/- THE SECOND FORM. 'bulk': how many values and letters a reading holds, each counted each time it is reached (what is shared counts as often as it is met; a slice's spare places count too). A statement '..UptoSaid' is the law's where the arguments, and the package variables that the reading takes, are together of bulk at most 1048576: NARROWER than '..Said'. Prove '..Said' where nothing that the law and all that it calls make is longer than what came in: it says more and counts as full. Else prove '..UptoSaid'. A law counts once. -/
mutual
def uptoBulk {H : Type} : DataW H → Nat
  | .lit (.string bytes) => bytes.length + 1
  | .lit _ => 1
  | .nil => 1
  | .ptr d => uptoBulk d + 1
  | .slice elems spare => uptoBulkAll elems + uptoBulkAll spare + 1
  | .agg parts => uptoBulkAll parts + 1
  | .iface _ d => uptoBulk d + 1
  | .map entries => uptoBulkEntries entries + 1
  | .held _ => 1
def uptoBulkAll {H : Type} : List (DataW H) → Nat
  | [] => 0
  | d :: r => uptoBulk d + uptoBulkAll r
def uptoBulkEntries {H : Type} : List (Lit × DataW H) → Nat
  | [] => 0
  | x :: r => uptoBulkEntry x + uptoBulkEntries r
def uptoBulkEntry {H : Type} : Lit × DataW H → Nat
  | (.string bytes, d) => bytes.length + uptoBulk d + 1
  | (_, d) => uptoBulk d + 1
 end
def uptoSmall : (H : Type) → List (DataW H) → Bool := fun _ ds => decide (uptoBulkAll ds ≤ 1048576)
def OpenSpec.upto (s : _root_.Go.ChangeSpec) : _root_.Go.OpenSpec := { _root_.Go.OpenSpec.ofChange s with cond := some uptoSmall }

/-- 'parterrelaw6.GeomAsks', WHERE WHAT IT READS IS OF BULK AT MOST 1048576: true; the input reads as it did. -/
def geomAsksUptoRow : OpenClaim := { program := "ytehdpfhpiplbgaa", sum := "118161e00e58f86d4cbc6e7ba05f97222463fd8a1852be238d0a8f10983d220e", func := "parterre/parterrelaw6.GeomAsks", spec := "geomAsks", apart := false, narrowed := true }
def GeomAsksUptoSaid : Prop := geomAsksUptoRow.holds Try.pinned (OpenSpec.upto geomAsksSpec)

/-- 'parterrelaw6.GeomFar', WHERE WHAT IT READS IS OF BULK AT MOST 1048576: true; the input reads as it did. -/
def geomFarUptoRow : OpenClaim := { program := "ytehdpfhpiplbgaa", sum := "118161e00e58f86d4cbc6e7ba05f97222463fd8a1852be238d0a8f10983d220e", func := "parterre/parterrelaw6.GeomFar", spec := "geomFar", apart := false, narrowed := true }
def GeomFarUptoSaid : Prop := geomFarUptoRow.holds Try.pinned (OpenSpec.upto geomFarSpec)

/-- 'parterrelaw6.GeomMoved', WHERE WHAT IT READS IS OF BULK AT MOST 1048576: true; the input reads as it did. -/
def geomMovedUptoRow : OpenClaim := { program := "ytehdpfhpiplbgaa", sum := "118161e00e58f86d4cbc6e7ba05f97222463fd8a1852be238d0a8f10983d220e", func := "parterre/parterrelaw6.GeomMoved", spec := "geomMoved", apart := false, narrowed := true }
def GeomMovedUptoSaid : Prop := geomMovedUptoRow.holds Try.pinned (OpenSpec.upto geomMovedSpec)

/-- 'parterrelaw6.GeomNear', WHERE WHAT IT READS IS OF BULK AT MOST 1048576: true; the input reads as it did. -/
def geomNearUptoRow : OpenClaim := { program := "ytehdpfhpiplbgaa", sum := "118161e00e58f86d4cbc6e7ba05f97222463fd8a1852be238d0a8f10983d220e", func := "parterre/parterrelaw6.GeomNear", spec := "geomNear", apart := false, narrowed := true }
def GeomNearUptoSaid : Prop := geomNearUptoRow.holds Try.pinned (OpenSpec.upto geomNearSpec)

end Rows
end Go.Proofs.Ytehdpfhpiplbgaa
