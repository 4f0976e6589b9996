/-
  No cell of these rows narrows 'for every input' (looked for: loops, veiled, ifaces, maps, wideKeys, modest, calm, conditions, laid).
  DERIVED. THE GIVEN ROWS OF THIS SEAT. 6 by the template 'for every input the law returns true; each argument reads behind the call as it read before'; 0 by the template 'total and deterministic' (their statements: YtakjcodfcoaadabTotals.lean).
  GIVEN WITH THE SEED: the statements are not yours to turn. If you find one false, say at which input.
  Laid BY PROGRAM, IN A SANDBOX (cutbox-rows.mjs): the forced cells as the released guide's own fill.sh prints them over the translation 86e7ef40311192e5… (all of the seat's roots in one cut). By AI agents, Wed Nov 11 2026. No macro, syntax, notation, axiom, sorry.
-/
import Derived.Test.YtakjcodfcoaadabChecked
import GoSem.Claim
import GoSem.ClaimJoined
import GoSem.ClaimMapViews
import Derived.JoinedTies
import Derived.KernelRfl
namespace Go.Proofs.Ytakjcodfcoaadab
/- THE CELL 'sum', in the pinned program and in every row, IS THE sha256 OF THE DUMP (.gsa) THAT YtakjcodfcoaadabProg.lean LOADS. Nothing in Lean hashes anything: it is a label: what it is worth is what the hold of that sum in a sandbox is worth. -/
noncomputable def Try.pinned : Pinned := { name := "ytakjcodfcoaadab", sum := "86e7ef40311192e5b982008937750460137b4e6444575b0351cab81d1a35091a", checked := Try.checked }
namespace Rows
def none {H : Type} : Left H := { results := [], args := [] }

/-- 'lotdrawerlaw.StatsSum': WHATEVER THE INPUT: true; the input reads as it did. -/
def statsSumSpec : ChangeSpec := { name := "statsSum", fn := fun _ => fun
  | [d1, d2, d3] => { results := [.lit (.bool true)], args := [d1, d2, d3] }
  | _ => none }
def statsSumRow : OpenClaim := { program := "ytakjcodfcoaadab", sum := "86e7ef40311192e5b982008937750460137b4e6444575b0351cab81d1a35091a", func := "lotdrawer/lotdrawerlaw.StatsSum", spec := "statsSum", plainKeys := false, apart := false }
def StatsSumSaid : Prop := statsSumRow.holds Try.pinned (OpenSpec.ofChange statsSumSpec)

/-- ITS FALSE NEIGHBOUR: 'it returns false'. Refute it at one input. -/
def statsSumWrong : ChangeSpec := { name := "statsSum", fn := fun _ => fun
  | [d1, d2, d3] => { results := [.lit (.bool false)], args := [d1, d2, d3] }
  | _ => none }
def StatsSumWrongFalsely : Prop := statsSumRow.holds Try.pinned (OpenSpec.ofChange statsSumWrong)

/-- 'lotdrawerlaw.PoolAdds': WHATEVER THE INPUT: true; the input reads as it did. -/
def poolAddsSpec : ChangeSpec := { name := "poolAdds", fn := fun _ => fun
  | [d1, d2, d3, d4] => { results := [.lit (.bool true)], args := [d1, d2, d3, d4] }
  | _ => none }
def poolAddsRow : OpenClaim := { program := "ytakjcodfcoaadab", sum := "86e7ef40311192e5b982008937750460137b4e6444575b0351cab81d1a35091a", func := "lotdrawer/lotdrawerlaw.PoolAdds", spec := "poolAdds", plainKeys := false, apart := false }
def PoolAddsSaid : Prop := poolAddsRow.holds Try.pinned (OpenSpec.ofChange poolAddsSpec)

/-- ITS FALSE NEIGHBOUR: 'it returns false'. Refute it at one input. -/
def poolAddsWrong : ChangeSpec := { name := "poolAdds", fn := fun _ => fun
  | [d1, d2, d3, d4] => { results := [.lit (.bool false)], args := [d1, d2, d3, d4] }
  | _ => none }
def PoolAddsWrongFalsely : Prop := poolAddsRow.holds Try.pinned (OpenSpec.ofChange poolAddsWrong)

/-- 'lotdrawerlaw.PoolAll': WHATEVER THE INPUT: true; the input reads as it did. -/
def poolAllSpec : ChangeSpec := { name := "poolAll", fn := fun _ => fun
  | [d1, d2, d3, d4] => { results := [.lit (.bool true)], args := [d1, d2, d3, d4] }
  | _ => none }
def poolAllRow : OpenClaim := { program := "ytakjcodfcoaadab", sum := "86e7ef40311192e5b982008937750460137b4e6444575b0351cab81d1a35091a", func := "lotdrawer/lotdrawerlaw.PoolAll", spec := "poolAll", plainKeys := false, apart := false }
def PoolAllSaid : Prop := poolAllRow.holds Try.pinned (OpenSpec.ofChange poolAllSpec)

/-- ITS FALSE NEIGHBOUR: 'it returns false'. Refute it at one input. -/
def poolAllWrong : ChangeSpec := { name := "poolAll", fn := fun _ => fun
  | [d1, d2, d3, d4] => { results := [.lit (.bool false)], args := [d1, d2, d3, d4] }
  | _ => none }
def PoolAllWrongFalsely : Prop := poolAllRow.holds Try.pinned (OpenSpec.ofChange poolAllWrong)

/-- 'lotdrawerlaw.UrnsCount': WHATEVER THE INPUT: true; the input reads as it did. -/
def urnsCountSpec : ChangeSpec := { name := "urnsCount", fn := fun _ => fun
  | [d1, d2] => { results := [.lit (.bool true)], args := [d1, d2] }
  | _ => none }
def urnsCountRow : OpenClaim := { program := "ytakjcodfcoaadab", sum := "86e7ef40311192e5b982008937750460137b4e6444575b0351cab81d1a35091a", func := "lotdrawer/lotdrawerlaw.UrnsCount", spec := "urnsCount", unfollowed := true, recurses := true, plainKeys := false, apart := false }
def UrnsCountSaid : Prop := urnsCountRow.holds Try.pinned (OpenSpec.ofChange urnsCountSpec)

/-- ITS FALSE NEIGHBOUR: 'it returns false'. Refute it at one input. -/
def urnsCountWrong : ChangeSpec := { name := "urnsCount", fn := fun _ => fun
  | [d1, d2] => { results := [.lit (.bool false)], args := [d1, d2] }
  | _ => none }
def UrnsCountWrongFalsely : Prop := urnsCountRow.holds Try.pinned (OpenSpec.ofChange urnsCountWrong)

/-- 'lotdrawerlaw.UrnsSums': WHATEVER THE INPUT: true; the input reads as it did. -/
def urnsSumsSpec : ChangeSpec := { name := "urnsSums", fn := fun _ => fun
  | [d1, d2] => { results := [.lit (.bool true)], args := [d1, d2] }
  | _ => none }
def urnsSumsRow : OpenClaim := { program := "ytakjcodfcoaadab", sum := "86e7ef40311192e5b982008937750460137b4e6444575b0351cab81d1a35091a", func := "lotdrawer/lotdrawerlaw.UrnsSums", spec := "urnsSums", recurses := true, plainKeys := false, apart := false }
def UrnsSumsSaid : Prop := urnsSumsRow.holds Try.pinned (OpenSpec.ofChange urnsSumsSpec)

/-- ITS FALSE NEIGHBOUR: 'it returns false'. Refute it at one input. -/
def urnsSumsWrong : ChangeSpec := { name := "urnsSums", fn := fun _ => fun
  | [d1, d2] => { results := [.lit (.bool false)], args := [d1, d2] }
  | _ => none }
def UrnsSumsWrongFalsely : Prop := urnsSumsRow.holds Try.pinned (OpenSpec.ofChange urnsSumsWrong)

/-- 'lotdrawerlaw.RuinWell': WHATEVER THE INPUT: true; the input reads as it did. -/
def ruinWellSpec : ChangeSpec := { name := "ruinWell", fn := fun _ => fun
  | [d1, d2, d3, d4] => { results := [.lit (.bool true)], args := [d1, d2, d3, d4] }
  | _ => none }
def ruinWellRow : OpenClaim := { program := "ytakjcodfcoaadab", sum := "86e7ef40311192e5b982008937750460137b4e6444575b0351cab81d1a35091a", func := "lotdrawer/lotdrawerlaw.RuinWell", spec := "ruinWell", plainKeys := false, apart := false }
def RuinWellSaid : Prop := ruinWellRow.holds Try.pinned (OpenSpec.ofChange ruinWellSpec)

/-- ITS FALSE NEIGHBOUR: 'it returns false'. Refute it at one input. -/
def ruinWellWrong : ChangeSpec := { name := "ruinWell", fn := fun _ => fun
  | [d1, d2, d3, d4] => { results := [.lit (.bool false)], args := [d1, d2, d3, d4] }
  | _ => none }
def RuinWellWrongFalsely : Prop := ruinWellRow.holds Try.pinned (OpenSpec.ofChange ruinWellWrong)

/- THE SECOND FORM. 'bulk': how many values and letters a reading holds, each counted each time it is reached (what is shared counts as often as it is met; a slice's spare places count too). A statement '..UptoSaid' is the law's where the arguments, and the package variables that the reading takes, are together of bulk at most 1048576: NARROWER than '..Said'. Prove '..Said' where nothing that the law and all that it calls make is longer than what came in: it says more and counts as full. Else prove '..UptoSaid'. A law counts once. -/
mutual
def uptoBulk {H : Type} : DataW H → Nat
  | .lit (.string bytes) => bytes.length + 1
  | .lit _ => 1
  | .nil => 1
  | .ptr d => uptoBulk d + 1
  | .slice elems spare => uptoBulkAll elems + uptoBulkAll spare + 1
  | .agg parts => uptoBulkAll parts + 1
  | .iface _ d => uptoBulk d + 1
  | .map entries => uptoBulkEntries entries + 1
  | .held _ => 1
def uptoBulkAll {H : Type} : List (DataW H) → Nat
  | [] => 0
  | d :: r => uptoBulk d + uptoBulkAll r
def uptoBulkEntries {H : Type} : List (Lit × DataW H) → Nat
  | [] => 0
  | x :: r => uptoBulkEntry x + uptoBulkEntries r
def uptoBulkEntry {H : Type} : Lit × DataW H → Nat
  | (.string bytes, d) => bytes.length + uptoBulk d + 1
  | (_, d) => uptoBulk d + 1
 end
def uptoSmall : (H : Type) → List (DataW H) → Bool := fun _ ds => decide (uptoBulkAll ds ≤ 1048576)
def OpenSpec.upto (s : _root_.Go.ChangeSpec) : _root_.Go.OpenSpec := { _root_.Go.OpenSpec.ofChange s with cond := some uptoSmall }

/-- 'lotdrawerlaw.StatsSum', WHERE WHAT IT READS IS OF BULK AT MOST 1048576: true; the input reads as it did. -/
def statsSumUptoRow : OpenClaim := { program := "ytakjcodfcoaadab", sum := "86e7ef40311192e5b982008937750460137b4e6444575b0351cab81d1a35091a", func := "lotdrawer/lotdrawerlaw.StatsSum", spec := "statsSum", plainKeys := false, apart := false, narrowed := true }
def StatsSumUptoSaid : Prop := statsSumUptoRow.holds Try.pinned (OpenSpec.upto statsSumSpec)

/-- 'lotdrawerlaw.PoolAdds', WHERE WHAT IT READS IS OF BULK AT MOST 1048576: true; the input reads as it did. -/
def poolAddsUptoRow : OpenClaim := { program := "ytakjcodfcoaadab", sum := "86e7ef40311192e5b982008937750460137b4e6444575b0351cab81d1a35091a", func := "lotdrawer/lotdrawerlaw.PoolAdds", spec := "poolAdds", plainKeys := false, apart := false, narrowed := true }
def PoolAddsUptoSaid : Prop := poolAddsUptoRow.holds Try.pinned (OpenSpec.upto poolAddsSpec)

/-- 'lotdrawerlaw.PoolAll', WHERE WHAT IT READS IS OF BULK AT MOST 1048576: true; the input reads as it did. -/
def poolAllUptoRow : OpenClaim := { program := "ytakjcodfcoaadab", sum := "86e7ef40311192e5b982008937750460137b4e6444575b0351cab81d1a35091a", func := "lotdrawer/lotdrawerlaw.PoolAll", spec := "poolAll", plainKeys := false, apart := false, narrowed := true }
def PoolAllUptoSaid : Prop := poolAllUptoRow.holds Try.pinned (OpenSpec.upto poolAllSpec)

/-- 'lotdrawerlaw.UrnsCount', WHERE WHAT IT READS IS OF BULK AT MOST 1048576: true; the input reads as it did. -/
def urnsCountUptoRow : OpenClaim := { program := "ytakjcodfcoaadab", sum := "86e7ef40311192e5b982008937750460137b4e6444575b0351cab81d1a35091a", func := "lotdrawer/lotdrawerlaw.UrnsCount", spec := "urnsCount", unfollowed := true, recurses := true, plainKeys := false, apart := false, narrowed := true }
def UrnsCountUptoSaid : Prop := urnsCountUptoRow.holds Try.pinned (OpenSpec.upto urnsCountSpec)

/-- 'lotdrawerlaw.UrnsSums', WHERE WHAT IT READS IS OF BULK AT MOST 1048576: true; the input reads as it did. -/
def urnsSumsUptoRow : OpenClaim := { program := "ytakjcodfcoaadab", sum := "86e7ef40311192e5b982008937750460137b4e6444575b0351cab81d1a35091a", func := "lotdrawer/lotdrawerlaw.UrnsSums", spec := "urnsSums", recurses := true, plainKeys := false, apart := false, narrowed := true }
def UrnsSumsUptoSaid : Prop := urnsSumsUptoRow.holds Try.pinned (OpenSpec.upto urnsSumsSpec)

/-- 'lotdrawerlaw.RuinWell', WHERE WHAT IT READS IS OF BULK AT MOST 1048576: true; the input reads as it did. -/
def ruinWellUptoRow : OpenClaim := { program := "ytakjcodfcoaadab", sum := "86e7ef40311192e5b982008937750460137b4e6444575b0351cab81d1a35091a", func := "lotdrawer/lotdrawerlaw.RuinWell", spec := "ruinWell", plainKeys := false, apart := false, narrowed := true }
def RuinWellUptoSaid : Prop := ruinWellUptoRow.holds Try.pinned (OpenSpec.upto ruinWellSpec)

end Rows
end Go.Proofs.Ytakjcodfcoaadab
