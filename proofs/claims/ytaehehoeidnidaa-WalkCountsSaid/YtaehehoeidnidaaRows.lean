/-
  No cell of these rows narrows 'for every input' (looked for: loops, veiled, ifaces, maps, wideKeys, modest, calm, conditions, laid).
  DERIVED. THE GIVEN ROWS OF THIS SEAT. 9 by the template 'for every input the law returns true; each argument reads behind the call as it read before'; 0 by the template 'total and deterministic' (their statements: YtaehehoeidnidaaTotals.lean).
  GIVEN WITH THE SEED: the statements are not yours to turn. If you find one false, say at which input.
  Laid BY PROGRAM, IN A SANDBOX (cutbox-rows.mjs): the forced cells as the released guide's own fill.sh prints them over the translation 6f474a0c145d2f0b… (all of the seat's roots in one cut). By AI agents, Wed Nov 11 2026. No macro, syntax, notation, axiom, sorry.
-/
import Derived.Test.YtaehehoeidnidaaChecked
import GoSem.Claim
import GoSem.ClaimJoined
import GoSem.ClaimMapViews
import Derived.JoinedTies
import Derived.KernelRfl
namespace Go.Proofs.Ytaehehoeidnidaa
/- THE CELL 'sum', in the pinned program and in every row, IS THE sha256 OF THE DUMP (.gsa) THAT YtaehehoeidnidaaProg.lean LOADS. Nothing in Lean hashes anything: it is a label: what it is worth is what the hold of that sum in a sandbox is worth. -/
noncomputable def Try.pinned : Pinned := { name := "ytaehehoeidnidaa", sum := "6f474a0c145d2f0be12f00c9442b6b535c216b3e2ad9d3266d32b0b0a672f8eb", checked := Try.checked }
namespace Rows
def none {H : Type} : Left H := { results := [], args := [] }

/-- 'lotdrawerlaw.RuinWell': WHATEVER THE INPUT: true; the input reads as it did. -/
def ruinWellSpec : ChangeSpec := { name := "ruinWell", fn := fun _ => fun
  | [d1, d2, d3, d4] => { results := [.lit (.bool true)], args := [d1, d2, d3, d4] }
  | _ => none }
def ruinWellRow : OpenClaim := { program := "ytaehehoeidnidaa", sum := "6f474a0c145d2f0be12f00c9442b6b535c216b3e2ad9d3266d32b0b0a672f8eb", func := "lotdrawer/lotdrawerlaw.RuinWell", spec := "ruinWell", apart := false }
def RuinWellSaid : Prop := ruinWellRow.holds Try.pinned (OpenSpec.ofChange ruinWellSpec)

/-- ITS FALSE NEIGHBOUR: 'it returns false'. Refute it at one input. -/
def ruinWellWrong : ChangeSpec := { name := "ruinWell", fn := fun _ => fun
  | [d1, d2, d3, d4] => { results := [.lit (.bool false)], args := [d1, d2, d3, d4] }
  | _ => none }
def RuinWellWrongFalsely : Prop := ruinWellRow.holds Try.pinned (OpenSpec.ofChange ruinWellWrong)

/-- 'lotdrawerlaw.WalkCounts': WHATEVER THE INPUT: true; the input reads as it did. -/
def walkCountsSpec : ChangeSpec := { name := "walkCounts", fn := fun _ => fun
  | [d1, d2, d3, d4] => { results := [.lit (.bool true)], args := [d1, d2, d3, d4] }
  | _ => none }
def walkCountsRow : OpenClaim := { program := "ytaehehoeidnidaa", sum := "6f474a0c145d2f0be12f00c9442b6b535c216b3e2ad9d3266d32b0b0a672f8eb", func := "lotdrawer/lotdrawerlaw.WalkCounts", spec := "walkCounts", unfollowed := true, recurses := true, apart := false }
def WalkCountsSaid : Prop := walkCountsRow.holds Try.pinned (OpenSpec.ofChange walkCountsSpec)

/-- ITS FALSE NEIGHBOUR: 'it returns false'. Refute it at one input. -/
def walkCountsWrong : ChangeSpec := { name := "walkCounts", fn := fun _ => fun
  | [d1, d2, d3, d4] => { results := [.lit (.bool false)], args := [d1, d2, d3, d4] }
  | _ => none }
def WalkCountsWrongFalsely : Prop := walkCountsRow.holds Try.pinned (OpenSpec.ofChange walkCountsWrong)

/-- 'lotdrawerlaw.BayesSees': WHATEVER THE INPUT: true; the input reads as it did. -/
def bayesSeesSpec : ChangeSpec := { name := "bayesSees", fn := fun _ => fun
  | [d1, d2, d3] => { results := [.lit (.bool true)], args := [d1, d2, d3] }
  | _ => none }
def bayesSeesRow : OpenClaim := { program := "ytaehehoeidnidaa", sum := "6f474a0c145d2f0be12f00c9442b6b535c216b3e2ad9d3266d32b0b0a672f8eb", func := "lotdrawer/lotdrawerlaw.BayesSees", spec := "bayesSees", apart := false }
def BayesSeesSaid : Prop := bayesSeesRow.holds Try.pinned (OpenSpec.ofChange bayesSeesSpec)

/-- ITS FALSE NEIGHBOUR: 'it returns false'. Refute it at one input. -/
def bayesSeesWrong : ChangeSpec := { name := "bayesSees", fn := fun _ => fun
  | [d1, d2, d3] => { results := [.lit (.bool false)], args := [d1, d2, d3] }
  | _ => none }
def BayesSeesWrongFalsely : Prop := bayesSeesRow.holds Try.pinned (OpenSpec.ofChange bayesSeesWrong)

/-- 'lotdrawerlaw.NatAdds': WHATEVER THE INPUT: true; the input reads as it did. -/
def natAddsSpec : ChangeSpec := { name := "natAdds", fn := fun _ => fun
  | [d1, d2, d3] => { results := [.lit (.bool true)], args := [d1, d2, d3] }
  | _ => none }
def natAddsRow : OpenClaim := { program := "ytaehehoeidnidaa", sum := "6f474a0c145d2f0be12f00c9442b6b535c216b3e2ad9d3266d32b0b0a672f8eb", func := "lotdrawer/lotdrawerlaw.NatAdds", spec := "natAdds", inPlace := ["math/bits.Add64", "math/bits.Sub64"], apart := false }
def NatAddsSaid : Prop := natAddsRow.holds Try.pinned (OpenSpec.ofChange natAddsSpec)

/-- ITS FALSE NEIGHBOUR: 'it returns false'. Refute it at one input. -/
def natAddsWrong : ChangeSpec := { name := "natAdds", fn := fun _ => fun
  | [d1, d2, d3] => { results := [.lit (.bool false)], args := [d1, d2, d3] }
  | _ => none }
def NatAddsWrongFalsely : Prop := natAddsRow.holds Try.pinned (OpenSpec.ofChange natAddsWrong)

/-- 'lotdrawerlaw.ChainGoes': WHATEVER THE INPUT: true; the input reads as it did. -/
def chainGoesSpec : ChangeSpec := { name := "chainGoes", fn := fun _ => fun
  | [d1, d2, d3] => { results := [.lit (.bool true)], args := [d1, d2, d3] }
  | _ => none }
def chainGoesRow : OpenClaim := { program := "ytaehehoeidnidaa", sum := "6f474a0c145d2f0be12f00c9442b6b535c216b3e2ad9d3266d32b0b0a672f8eb", func := "lotdrawer/lotdrawerlaw.ChainGoes", spec := "chainGoes", recurses := true, apart := false }
def ChainGoesSaid : Prop := chainGoesRow.holds Try.pinned (OpenSpec.ofChange chainGoesSpec)

/-- ITS FALSE NEIGHBOUR: 'it returns false'. Refute it at one input. -/
def chainGoesWrong : ChangeSpec := { name := "chainGoes", fn := fun _ => fun
  | [d1, d2, d3] => { results := [.lit (.bool false)], args := [d1, d2, d3] }
  | _ => none }
def ChainGoesWrongFalsely : Prop := chainGoesRow.holds Try.pinned (OpenSpec.ofChange chainGoesWrong)

/-- 'lotdrawerlaw.NatDivides': WHATEVER THE INPUT: true; the input reads as it did. -/
def natDividesSpec : ChangeSpec := { name := "natDivides", fn := fun _ => fun
  | [d1, d2, d3, d4] => { results := [.lit (.bool true)], args := [d1, d2, d3, d4] }
  | _ => none }
def natDividesRow : OpenClaim := { program := "ytaehehoeidnidaa", sum := "6f474a0c145d2f0be12f00c9442b6b535c216b3e2ad9d3266d32b0b0a672f8eb", func := "lotdrawer/lotdrawerlaw.NatDivides", spec := "natDivides", inPlace := ["math/bits.Add64"], named := ["math/bits.divideError", "math/bits.overflowError"], apart := false }
def NatDividesSaid : Prop := natDividesRow.holds Try.pinned (OpenSpec.ofChange natDividesSpec)

/-- ITS FALSE NEIGHBOUR: 'it returns false'. Refute it at one input. -/
def natDividesWrong : ChangeSpec := { name := "natDivides", fn := fun _ => fun
  | [d1, d2, d3, d4] => { results := [.lit (.bool false)], args := [d1, d2, d3, d4] }
  | _ => none }
def NatDividesWrongFalsely : Prop := natDividesRow.holds Try.pinned (OpenSpec.ofChange natDividesWrong)

/-- 'lotdrawerlaw.DiceCount': WHATEVER THE INPUT: true; the input reads as it did. -/
def diceCountSpec : ChangeSpec := { name := "diceCount", fn := fun _ => fun
  | [d1, d2, d3] => { results := [.lit (.bool true)], args := [d1, d2, d3] }
  | _ => none }
def diceCountRow : OpenClaim := { program := "ytaehehoeidnidaa", sum := "6f474a0c145d2f0be12f00c9442b6b535c216b3e2ad9d3266d32b0b0a672f8eb", func := "lotdrawer/lotdrawerlaw.DiceCount", spec := "diceCount", unfollowed := true, recurses := true, apart := false }
def DiceCountSaid : Prop := diceCountRow.holds Try.pinned (OpenSpec.ofChange diceCountSpec)

/-- ITS FALSE NEIGHBOUR: 'it returns false'. Refute it at one input. -/
def diceCountWrong : ChangeSpec := { name := "diceCount", fn := fun _ => fun
  | [d1, d2, d3] => { results := [.lit (.bool false)], args := [d1, d2, d3] }
  | _ => none }
def DiceCountWrongFalsely : Prop := diceCountRow.holds Try.pinned (OpenSpec.ofChange diceCountWrong)

/-- 'lotdrawerlaw.QuantAdds': WHATEVER THE INPUT: true; the input reads as it did. -/
def quantAddsSpec : ChangeSpec := { name := "quantAdds", fn := fun _ => fun
  | [d1, d2, d3, d4, d5] => { results := [.lit (.bool true)], args := [d1, d2, d3, d4, d5] }
  | _ => none }
def quantAddsRow : OpenClaim := { program := "ytaehehoeidnidaa", sum := "6f474a0c145d2f0be12f00c9442b6b535c216b3e2ad9d3266d32b0b0a672f8eb", func := "lotdrawer/lotdrawerlaw.QuantAdds", spec := "quantAdds", inPlace := ["slices.overlaps[lotdrawer/api.Rank]"], unfollowed := true, recurses := true, apart := false }
def QuantAddsSaid : Prop := quantAddsRow.holds Try.pinned (OpenSpec.ofChange quantAddsSpec)

/-- ITS FALSE NEIGHBOUR: 'it returns false'. Refute it at one input. -/
def quantAddsWrong : ChangeSpec := { name := "quantAdds", fn := fun _ => fun
  | [d1, d2, d3, d4, d5] => { results := [.lit (.bool false)], args := [d1, d2, d3, d4, d5] }
  | _ => none }
def QuantAddsWrongFalsely : Prop := quantAddsRow.holds Try.pinned (OpenSpec.ofChange quantAddsWrong)

/-- 'lotdrawerlaw.BottomJoins': WHATEVER THE INPUT: true; the input reads as it did. -/
def bottomJoinsSpec : ChangeSpec := { name := "bottomJoins", fn := fun _ => fun
  | [d1, d2, d3, d4, d5] => { results := [.lit (.bool true)], args := [d1, d2, d3, d4, d5] }
  | _ => none }
def bottomJoinsRow : OpenClaim := { program := "ytaehehoeidnidaa", sum := "6f474a0c145d2f0be12f00c9442b6b535c216b3e2ad9d3266d32b0b0a672f8eb", func := "lotdrawer/lotdrawerlaw.BottomJoins", spec := "bottomJoins", unfollowed := true, recurses := true, apart := false }
def BottomJoinsSaid : Prop := bottomJoinsRow.holds Try.pinned (OpenSpec.ofChange bottomJoinsSpec)

/-- ITS FALSE NEIGHBOUR: 'it returns false'. Refute it at one input. -/
def bottomJoinsWrong : ChangeSpec := { name := "bottomJoins", fn := fun _ => fun
  | [d1, d2, d3, d4, d5] => { results := [.lit (.bool false)], args := [d1, d2, d3, d4, d5] }
  | _ => none }
def BottomJoinsWrongFalsely : Prop := bottomJoinsRow.holds Try.pinned (OpenSpec.ofChange bottomJoinsWrong)

/- THE SECOND FORM. 'bulk': how many values and letters a reading holds, each counted each time it is reached (what is shared counts as often as it is met; a slice's spare places count too). A statement '..UptoSaid' is the law's where the arguments, and the package variables that the reading takes, are together of bulk at most 1048576: NARROWER than '..Said'. Prove '..Said' where nothing that the law and all that it calls make is longer than what came in: it says more and counts as full. Else prove '..UptoSaid'. A law counts once. -/
mutual
def uptoBulk {H : Type} : DataW H → Nat
  | .lit (.string bytes) => bytes.length + 1
  | .lit _ => 1
  | .nil => 1
  | .ptr d => uptoBulk d + 1
  | .slice elems spare => uptoBulkAll elems + uptoBulkAll spare + 1
  | .agg parts => uptoBulkAll parts + 1
  | .iface _ d => uptoBulk d + 1
  | .map entries => uptoBulkEntries entries + 1
  | .held _ => 1
def uptoBulkAll {H : Type} : List (DataW H) → Nat
  | [] => 0
  | d :: r => uptoBulk d + uptoBulkAll r
def uptoBulkEntries {H : Type} : List (Lit × DataW H) → Nat
  | [] => 0
  | x :: r => uptoBulkEntry x + uptoBulkEntries r
def uptoBulkEntry {H : Type} : Lit × DataW H → Nat
  | (.string bytes, d) => bytes.length + uptoBulk d + 1
  | (_, d) => uptoBulk d + 1
 end
def uptoSmall : (H : Type) → List (DataW H) → Bool := fun _ ds => decide (uptoBulkAll ds ≤ 1048576)
def OpenSpec.upto (s : _root_.Go.ChangeSpec) : _root_.Go.OpenSpec := { _root_.Go.OpenSpec.ofChange s with cond := some uptoSmall }

/-- 'lotdrawerlaw.RuinWell', WHERE WHAT IT READS IS OF BULK AT MOST 1048576: true; the input reads as it did. -/
def ruinWellUptoRow : OpenClaim := { program := "ytaehehoeidnidaa", sum := "6f474a0c145d2f0be12f00c9442b6b535c216b3e2ad9d3266d32b0b0a672f8eb", func := "lotdrawer/lotdrawerlaw.RuinWell", spec := "ruinWell", apart := false, narrowed := true }
def RuinWellUptoSaid : Prop := ruinWellUptoRow.holds Try.pinned (OpenSpec.upto ruinWellSpec)

/-- 'lotdrawerlaw.WalkCounts', WHERE WHAT IT READS IS OF BULK AT MOST 1048576: true; the input reads as it did. -/
def walkCountsUptoRow : OpenClaim := { program := "ytaehehoeidnidaa", sum := "6f474a0c145d2f0be12f00c9442b6b535c216b3e2ad9d3266d32b0b0a672f8eb", func := "lotdrawer/lotdrawerlaw.WalkCounts", spec := "walkCounts", unfollowed := true, recurses := true, apart := false, narrowed := true }
def WalkCountsUptoSaid : Prop := walkCountsUptoRow.holds Try.pinned (OpenSpec.upto walkCountsSpec)

/-- 'lotdrawerlaw.BayesSees', WHERE WHAT IT READS IS OF BULK AT MOST 1048576: true; the input reads as it did. -/
def bayesSeesUptoRow : OpenClaim := { program := "ytaehehoeidnidaa", sum := "6f474a0c145d2f0be12f00c9442b6b535c216b3e2ad9d3266d32b0b0a672f8eb", func := "lotdrawer/lotdrawerlaw.BayesSees", spec := "bayesSees", apart := false, narrowed := true }
def BayesSeesUptoSaid : Prop := bayesSeesUptoRow.holds Try.pinned (OpenSpec.upto bayesSeesSpec)

/-- 'lotdrawerlaw.NatAdds', WHERE WHAT IT READS IS OF BULK AT MOST 1048576: true; the input reads as it did. -/
def natAddsUptoRow : OpenClaim := { program := "ytaehehoeidnidaa", sum := "6f474a0c145d2f0be12f00c9442b6b535c216b3e2ad9d3266d32b0b0a672f8eb", func := "lotdrawer/lotdrawerlaw.NatAdds", spec := "natAdds", inPlace := ["math/bits.Add64", "math/bits.Sub64"], apart := false, narrowed := true }
def NatAddsUptoSaid : Prop := natAddsUptoRow.holds Try.pinned (OpenSpec.upto natAddsSpec)

/-- 'lotdrawerlaw.ChainGoes', WHERE WHAT IT READS IS OF BULK AT MOST 1048576: true; the input reads as it did. -/
def chainGoesUptoRow : OpenClaim := { program := "ytaehehoeidnidaa", sum := "6f474a0c145d2f0be12f00c9442b6b535c216b3e2ad9d3266d32b0b0a672f8eb", func := "lotdrawer/lotdrawerlaw.ChainGoes", spec := "chainGoes", recurses := true, apart := false, narrowed := true }
def ChainGoesUptoSaid : Prop := chainGoesUptoRow.holds Try.pinned (OpenSpec.upto chainGoesSpec)

/-- 'lotdrawerlaw.NatDivides', WHERE WHAT IT READS IS OF BULK AT MOST 1048576: true; the input reads as it did. -/
def natDividesUptoRow : OpenClaim := { program := "ytaehehoeidnidaa", sum := "6f474a0c145d2f0be12f00c9442b6b535c216b3e2ad9d3266d32b0b0a672f8eb", func := "lotdrawer/lotdrawerlaw.NatDivides", spec := "natDivides", inPlace := ["math/bits.Add64"], named := ["math/bits.divideError", "math/bits.overflowError"], apart := false, narrowed := true }
def NatDividesUptoSaid : Prop := natDividesUptoRow.holds Try.pinned (OpenSpec.upto natDividesSpec)

/-- 'lotdrawerlaw.DiceCount', WHERE WHAT IT READS IS OF BULK AT MOST 1048576: true; the input reads as it did. -/
def diceCountUptoRow : OpenClaim := { program := "ytaehehoeidnidaa", sum := "6f474a0c145d2f0be12f00c9442b6b535c216b3e2ad9d3266d32b0b0a672f8eb", func := "lotdrawer/lotdrawerlaw.DiceCount", spec := "diceCount", unfollowed := true, recurses := true, apart := false, narrowed := true }
def DiceCountUptoSaid : Prop := diceCountUptoRow.holds Try.pinned (OpenSpec.upto diceCountSpec)

/-- 'lotdrawerlaw.QuantAdds', WHERE WHAT IT READS IS OF BULK AT MOST 1048576: true; the input reads as it did. -/
def quantAddsUptoRow : OpenClaim := { program := "ytaehehoeidnidaa", sum := "6f474a0c145d2f0be12f00c9442b6b535c216b3e2ad9d3266d32b0b0a672f8eb", func := "lotdrawer/lotdrawerlaw.QuantAdds", spec := "quantAdds", inPlace := ["slices.overlaps[lotdrawer/api.Rank]"], unfollowed := true, recurses := true, apart := false, narrowed := true }
def QuantAddsUptoSaid : Prop := quantAddsUptoRow.holds Try.pinned (OpenSpec.upto quantAddsSpec)

/-- 'lotdrawerlaw.BottomJoins', WHERE WHAT IT READS IS OF BULK AT MOST 1048576: true; the input reads as it did. -/
def bottomJoinsUptoRow : OpenClaim := { program := "ytaehehoeidnidaa", sum := "6f474a0c145d2f0be12f00c9442b6b535c216b3e2ad9d3266d32b0b0a672f8eb", func := "lotdrawer/lotdrawerlaw.BottomJoins", spec := "bottomJoins", unfollowed := true, recurses := true, apart := false, narrowed := true }
def BottomJoinsUptoSaid : Prop := bottomJoinsUptoRow.holds Try.pinned (OpenSpec.upto bottomJoinsSpec)

end Rows
end Go.Proofs.Ytaehehoeidnidaa
