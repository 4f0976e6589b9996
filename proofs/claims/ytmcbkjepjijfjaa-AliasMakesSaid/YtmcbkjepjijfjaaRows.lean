/-
  No cell of these rows narrows 'for every input' (looked for: loops, veiled, ifaces, maps, wideKeys, modest, calm, conditions, laid).
  DERIVED. THE GIVEN ROWS OF THIS SEAT. 10 by the template 'for every input the law returns true; each argument reads behind the call as it read before'; 0 by the template 'total and deterministic' (their statements: YtmcbkjepjijfjaaTotals.lean).
  GIVEN WITH THE SEED: the statements are not yours to turn. If you find one false, say at which input.
  Laid BY PROGRAM, IN A SANDBOX (cutbox-rows.mjs): the forced cells as the released guide's own fill.sh prints them over the translation 93e9557b9672360f… (all of the seat's roots in one cut). By AI agents, Wed Nov 11 2026. No macro, syntax, notation, axiom, sorry.
-/
import Derived.Test.YtmcbkjepjijfjaaChecked
import GoSem.Claim
import GoSem.ClaimJoined
import GoSem.ClaimMapViews
import Derived.JoinedTies
import Derived.KernelRfl
namespace Go.Proofs.Ytmcbkjepjijfjaa
/- THE CELL 'sum', in the pinned program and in every row, IS THE sha256 OF THE DUMP (.gsa) THAT YtmcbkjepjijfjaaProg.lean LOADS. Nothing in Lean hashes anything: it is a label: what it is worth is what the hold of that sum in a sandbox is worth. -/
noncomputable def Try.pinned : Pinned := { name := "ytmcbkjepjijfjaa", sum := "93e9557b9672360f16d042ad8e18f0c0aa6461e3569356029316dc2f08d14e56", checked := Try.checked }
namespace Rows
def none {H : Type} : Left H := { results := [], args := [] }

/-- 'lotdrawerlaw.ComboCounts': WHATEVER THE INPUT: true; the input reads as it did. -/
def comboCountsSpec : ChangeSpec := { name := "comboCounts", fn := fun _ => fun
  | [d1, d2, d3] => { results := [.lit (.bool true)], args := [d1, d2, d3] }
  | _ => none }
def comboCountsRow : OpenClaim := { program := "ytmcbkjepjijfjaa", sum := "93e9557b9672360f16d042ad8e18f0c0aa6461e3569356029316dc2f08d14e56", func := "lotdrawer/lotdrawerlaw.ComboCounts", spec := "comboCounts", apart := false }
def ComboCountsSaid : Prop := comboCountsRow.holds Try.pinned (OpenSpec.ofChange comboCountsSpec)

/-- ITS FALSE NEIGHBOUR: 'it returns false'. Refute it at one input. -/
def comboCountsWrong : ChangeSpec := { name := "comboCounts", fn := fun _ => fun
  | [d1, d2, d3] => { results := [.lit (.bool false)], args := [d1, d2, d3] }
  | _ => none }
def ComboCountsWrongFalsely : Prop := comboCountsRow.holds Try.pinned (OpenSpec.ofChange comboCountsWrong)

/-- 'lotdrawerlaw.PermDeals': WHATEVER THE INPUT: true; the input reads as it did. -/
def permDealsSpec : ChangeSpec := { name := "permDeals", fn := fun _ => fun
  | [d1, d2, d3] => { results := [.lit (.bool true)], args := [d1, d2, d3] }
  | _ => none }
def permDealsRow : OpenClaim := { program := "ytmcbkjepjijfjaa", sum := "93e9557b9672360f16d042ad8e18f0c0aa6461e3569356029316dc2f08d14e56", func := "lotdrawer/lotdrawerlaw.PermDeals", spec := "permDeals", apart := false }
def PermDealsSaid : Prop := permDealsRow.holds Try.pinned (OpenSpec.ofChange permDealsSpec)

/-- ITS FALSE NEIGHBOUR: 'it returns false'. Refute it at one input. -/
def permDealsWrong : ChangeSpec := { name := "permDeals", fn := fun _ => fun
  | [d1, d2, d3] => { results := [.lit (.bool false)], args := [d1, d2, d3] }
  | _ => none }
def PermDealsWrongFalsely : Prop := permDealsRow.holds Try.pinned (OpenSpec.ofChange permDealsWrong)

/-- 'lotdrawerlaw.PermRanks': WHATEVER THE INPUT: true; the input reads as it did. -/
def permRanksSpec : ChangeSpec := { name := "permRanks", fn := fun _ => fun
  | [d1, d2, d3] => { results := [.lit (.bool true)], args := [d1, d2, d3] }
  | _ => none }
def permRanksRow : OpenClaim := { program := "ytmcbkjepjijfjaa", sum := "93e9557b9672360f16d042ad8e18f0c0aa6461e3569356029316dc2f08d14e56", func := "lotdrawer/lotdrawerlaw.PermRanks", spec := "permRanks", recurses := true, apart := false }
def PermRanksSaid : Prop := permRanksRow.holds Try.pinned (OpenSpec.ofChange permRanksSpec)

/-- ITS FALSE NEIGHBOUR: 'it returns false'. Refute it at one input. -/
def permRanksWrong : ChangeSpec := { name := "permRanks", fn := fun _ => fun
  | [d1, d2, d3] => { results := [.lit (.bool false)], args := [d1, d2, d3] }
  | _ => none }
def PermRanksWrongFalsely : Prop := permRanksRow.holds Try.pinned (OpenSpec.ofChange permRanksWrong)

/-- 'lotdrawerlaw.TapeDraws': WHATEVER THE INPUT: true; the input reads as it did. -/
def tapeDrawsSpec : ChangeSpec := { name := "tapeDraws", fn := fun _ => fun
  | [d1, d2, d3] => { results := [.lit (.bool true)], args := [d1, d2, d3] }
  | _ => none }
def tapeDrawsRow : OpenClaim := { program := "ytmcbkjepjijfjaa", sum := "93e9557b9672360f16d042ad8e18f0c0aa6461e3569356029316dc2f08d14e56", func := "lotdrawer/lotdrawerlaw.TapeDraws", spec := "tapeDraws", apart := false }
def TapeDrawsSaid : Prop := tapeDrawsRow.holds Try.pinned (OpenSpec.ofChange tapeDrawsSpec)

/-- ITS FALSE NEIGHBOUR: 'it returns false'. Refute it at one input. -/
def tapeDrawsWrong : ChangeSpec := { name := "tapeDraws", fn := fun _ => fun
  | [d1, d2, d3] => { results := [.lit (.bool false)], args := [d1, d2, d3] }
  | _ => none }
def TapeDrawsWrongFalsely : Prop := tapeDrawsRow.holds Try.pinned (OpenSpec.ofChange tapeDrawsWrong)

/-- 'lotdrawerlaw.EvenTurns': WHATEVER THE INPUT: true; the input reads as it did. -/
def evenTurnsSpec : ChangeSpec := { name := "evenTurns", fn := fun _ => fun
  | [d1, d2, d3, d4, d5, d6] => { results := [.lit (.bool true)], args := [d1, d2, d3, d4, d5, d6] }
  | _ => none }
def evenTurnsRow : OpenClaim := { program := "ytmcbkjepjijfjaa", sum := "93e9557b9672360f16d042ad8e18f0c0aa6461e3569356029316dc2f08d14e56", func := "lotdrawer/lotdrawerlaw.EvenTurns", spec := "evenTurns", apart := false }
def EvenTurnsSaid : Prop := evenTurnsRow.holds Try.pinned (OpenSpec.ofChange evenTurnsSpec)

/-- ITS FALSE NEIGHBOUR: 'it returns false'. Refute it at one input. -/
def evenTurnsWrong : ChangeSpec := { name := "evenTurns", fn := fun _ => fun
  | [d1, d2, d3, d4, d5, d6] => { results := [.lit (.bool false)], args := [d1, d2, d3, d4, d5, d6] }
  | _ => none }
def EvenTurnsWrongFalsely : Prop := evenTurnsRow.holds Try.pinned (OpenSpec.ofChange evenTurnsWrong)

/-- 'lotdrawerlaw.AliasMakes': WHATEVER THE INPUT: true; the input reads as it did. -/
def aliasMakesSpec : ChangeSpec := { name := "aliasMakes", fn := fun _ => fun
  | [d1, d2, d3, d4] => { results := [.lit (.bool true)], args := [d1, d2, d3, d4] }
  | _ => none }
def aliasMakesRow : OpenClaim := { program := "ytmcbkjepjijfjaa", sum := "93e9557b9672360f16d042ad8e18f0c0aa6461e3569356029316dc2f08d14e56", func := "lotdrawer/lotdrawerlaw.AliasMakes", spec := "aliasMakes", unfollowed := true, recurses := true, apart := false }
def AliasMakesSaid : Prop := aliasMakesRow.holds Try.pinned (OpenSpec.ofChange aliasMakesSpec)

/-- ITS FALSE NEIGHBOUR: 'it returns false'. Refute it at one input. -/
def aliasMakesWrong : ChangeSpec := { name := "aliasMakes", fn := fun _ => fun
  | [d1, d2, d3, d4] => { results := [.lit (.bool false)], args := [d1, d2, d3, d4] }
  | _ => none }
def AliasMakesWrongFalsely : Prop := aliasMakesRow.holds Try.pinned (OpenSpec.ofChange aliasMakesWrong)

/-- 'lotdrawerlaw.CoinTells': WHATEVER THE INPUT: true; the input reads as it did. -/
def coinTellsSpec : ChangeSpec := { name := "coinTells", fn := fun _ => fun
  | [d1, d2, d3] => { results := [.lit (.bool true)], args := [d1, d2, d3] }
  | _ => none }
def coinTellsRow : OpenClaim := { program := "ytmcbkjepjijfjaa", sum := "93e9557b9672360f16d042ad8e18f0c0aa6461e3569356029316dc2f08d14e56", func := "lotdrawer/lotdrawerlaw.CoinTells", spec := "coinTells", apart := false }
def CoinTellsSaid : Prop := coinTellsRow.holds Try.pinned (OpenSpec.ofChange coinTellsSpec)

/-- ITS FALSE NEIGHBOUR: 'it returns false'. Refute it at one input. -/
def coinTellsWrong : ChangeSpec := { name := "coinTells", fn := fun _ => fun
  | [d1, d2, d3] => { results := [.lit (.bool false)], args := [d1, d2, d3] }
  | _ => none }
def CoinTellsWrongFalsely : Prop := coinTellsRow.holds Try.pinned (OpenSpec.ofChange coinTellsWrong)

/-- 'lotdrawerlaw.FenDraws': WHATEVER THE INPUT: true; the input reads as it did. -/
def fenDrawsSpec : ChangeSpec := { name := "fenDraws", fn := fun _ => fun
  | [d1, d2, d3] => { results := [.lit (.bool true)], args := [d1, d2, d3] }
  | _ => none }
def fenDrawsRow : OpenClaim := { program := "ytmcbkjepjijfjaa", sum := "93e9557b9672360f16d042ad8e18f0c0aa6461e3569356029316dc2f08d14e56", func := "lotdrawer/lotdrawerlaw.FenDraws", spec := "fenDraws", apart := false }
def FenDrawsSaid : Prop := fenDrawsRow.holds Try.pinned (OpenSpec.ofChange fenDrawsSpec)

/-- ITS FALSE NEIGHBOUR: 'it returns false'. Refute it at one input. -/
def fenDrawsWrong : ChangeSpec := { name := "fenDraws", fn := fun _ => fun
  | [d1, d2, d3] => { results := [.lit (.bool false)], args := [d1, d2, d3] }
  | _ => none }
def FenDrawsWrongFalsely : Prop := fenDrawsRow.holds Try.pinned (OpenSpec.ofChange fenDrawsWrong)

/-- 'lotdrawerlaw.ComboRanks': WHATEVER THE INPUT: true; the input reads as it did. -/
def comboRanksSpec : ChangeSpec := { name := "comboRanks", fn := fun _ => fun
  | [d1, d2, d3, d4] => { results := [.lit (.bool true)], args := [d1, d2, d3, d4] }
  | _ => none }
def comboRanksRow : OpenClaim := { program := "ytmcbkjepjijfjaa", sum := "93e9557b9672360f16d042ad8e18f0c0aa6461e3569356029316dc2f08d14e56", func := "lotdrawer/lotdrawerlaw.ComboRanks", spec := "comboRanks", recurses := true, apart := false }
def ComboRanksSaid : Prop := comboRanksRow.holds Try.pinned (OpenSpec.ofChange comboRanksSpec)

/-- ITS FALSE NEIGHBOUR: 'it returns false'. Refute it at one input. -/
def comboRanksWrong : ChangeSpec := { name := "comboRanks", fn := fun _ => fun
  | [d1, d2, d3, d4] => { results := [.lit (.bool false)], args := [d1, d2, d3, d4] }
  | _ => none }
def ComboRanksWrongFalsely : Prop := comboRanksRow.holds Try.pinned (OpenSpec.ofChange comboRanksWrong)

/-- 'lotdrawerlaw.JoinPools': WHATEVER THE INPUT: true; the input reads as it did. -/
def joinPoolsSpec : ChangeSpec := { name := "joinPools", fn := fun _ => fun
  | [d1, d2, d3, d4, d5, d6, d7, d8] => { results := [.lit (.bool true)], args := [d1, d2, d3, d4, d5, d6, d7, d8] }
  | _ => none }
def joinPoolsRow : OpenClaim := { program := "ytmcbkjepjijfjaa", sum := "93e9557b9672360f16d042ad8e18f0c0aa6461e3569356029316dc2f08d14e56", func := "lotdrawer/lotdrawerlaw.JoinPools", spec := "joinPools", unfollowed := true, recurses := true, apart := false }
def JoinPoolsSaid : Prop := joinPoolsRow.holds Try.pinned (OpenSpec.ofChange joinPoolsSpec)

/-- ITS FALSE NEIGHBOUR: 'it returns false'. Refute it at one input. -/
def joinPoolsWrong : ChangeSpec := { name := "joinPools", fn := fun _ => fun
  | [d1, d2, d3, d4, d5, d6, d7, d8] => { results := [.lit (.bool false)], args := [d1, d2, d3, d4, d5, d6, d7, d8] }
  | _ => none }
def JoinPoolsWrongFalsely : Prop := joinPoolsRow.holds Try.pinned (OpenSpec.ofChange joinPoolsWrong)

/- THE SECOND FORM. 'bulk': how many values and letters a reading holds, each counted each time it is reached (what is shared counts as often as it is met; a slice's spare places count too). A statement '..UptoSaid' is the law's where the arguments, and the package variables that the reading takes, are together of bulk at most 1048576: NARROWER than '..Said'. Prove '..Said' where nothing that the law and all that it calls make is longer than what came in: it says more and counts as full. Else prove '..UptoSaid'. A law counts once. -/
mutual
def uptoBulk {H : Type} : DataW H → Nat
  | .lit (.string bytes) => bytes.length + 1
  | .lit _ => 1
  | .nil => 1
  | .ptr d => uptoBulk d + 1
  | .slice elems spare => uptoBulkAll elems + uptoBulkAll spare + 1
  | .agg parts => uptoBulkAll parts + 1
  | .iface _ d => uptoBulk d + 1
  | .map entries => uptoBulkEntries entries + 1
  | .held _ => 1
def uptoBulkAll {H : Type} : List (DataW H) → Nat
  | [] => 0
  | d :: r => uptoBulk d + uptoBulkAll r
def uptoBulkEntries {H : Type} : List (Lit × DataW H) → Nat
  | [] => 0
  | x :: r => uptoBulkEntry x + uptoBulkEntries r
def uptoBulkEntry {H : Type} : Lit × DataW H → Nat
  | (.string bytes, d) => bytes.length + uptoBulk d + 1
  | (_, d) => uptoBulk d + 1
 end
def uptoSmall : (H : Type) → List (DataW H) → Bool := fun _ ds => decide (uptoBulkAll ds ≤ 1048576)
def OpenSpec.upto (s : _root_.Go.ChangeSpec) : _root_.Go.OpenSpec := { _root_.Go.OpenSpec.ofChange s with cond := some uptoSmall }

/-- 'lotdrawerlaw.ComboCounts', WHERE WHAT IT READS IS OF BULK AT MOST 1048576: true; the input reads as it did. -/
def comboCountsUptoRow : OpenClaim := { program := "ytmcbkjepjijfjaa", sum := "93e9557b9672360f16d042ad8e18f0c0aa6461e3569356029316dc2f08d14e56", func := "lotdrawer/lotdrawerlaw.ComboCounts", spec := "comboCounts", apart := false, narrowed := true }
def ComboCountsUptoSaid : Prop := comboCountsUptoRow.holds Try.pinned (OpenSpec.upto comboCountsSpec)

/-- 'lotdrawerlaw.PermDeals', WHERE WHAT IT READS IS OF BULK AT MOST 1048576: true; the input reads as it did. -/
def permDealsUptoRow : OpenClaim := { program := "ytmcbkjepjijfjaa", sum := "93e9557b9672360f16d042ad8e18f0c0aa6461e3569356029316dc2f08d14e56", func := "lotdrawer/lotdrawerlaw.PermDeals", spec := "permDeals", apart := false, narrowed := true }
def PermDealsUptoSaid : Prop := permDealsUptoRow.holds Try.pinned (OpenSpec.upto permDealsSpec)

/-- 'lotdrawerlaw.PermRanks', WHERE WHAT IT READS IS OF BULK AT MOST 1048576: true; the input reads as it did. -/
def permRanksUptoRow : OpenClaim := { program := "ytmcbkjepjijfjaa", sum := "93e9557b9672360f16d042ad8e18f0c0aa6461e3569356029316dc2f08d14e56", func := "lotdrawer/lotdrawerlaw.PermRanks", spec := "permRanks", recurses := true, apart := false, narrowed := true }
def PermRanksUptoSaid : Prop := permRanksUptoRow.holds Try.pinned (OpenSpec.upto permRanksSpec)

/-- 'lotdrawerlaw.TapeDraws', WHERE WHAT IT READS IS OF BULK AT MOST 1048576: true; the input reads as it did. -/
def tapeDrawsUptoRow : OpenClaim := { program := "ytmcbkjepjijfjaa", sum := "93e9557b9672360f16d042ad8e18f0c0aa6461e3569356029316dc2f08d14e56", func := "lotdrawer/lotdrawerlaw.TapeDraws", spec := "tapeDraws", apart := false, narrowed := true }
def TapeDrawsUptoSaid : Prop := tapeDrawsUptoRow.holds Try.pinned (OpenSpec.upto tapeDrawsSpec)

/-- 'lotdrawerlaw.EvenTurns', WHERE WHAT IT READS IS OF BULK AT MOST 1048576: true; the input reads as it did. -/
def evenTurnsUptoRow : OpenClaim := { program := "ytmcbkjepjijfjaa", sum := "93e9557b9672360f16d042ad8e18f0c0aa6461e3569356029316dc2f08d14e56", func := "lotdrawer/lotdrawerlaw.EvenTurns", spec := "evenTurns", apart := false, narrowed := true }
def EvenTurnsUptoSaid : Prop := evenTurnsUptoRow.holds Try.pinned (OpenSpec.upto evenTurnsSpec)

/-- 'lotdrawerlaw.AliasMakes', WHERE WHAT IT READS IS OF BULK AT MOST 1048576: true; the input reads as it did. -/
def aliasMakesUptoRow : OpenClaim := { program := "ytmcbkjepjijfjaa", sum := "93e9557b9672360f16d042ad8e18f0c0aa6461e3569356029316dc2f08d14e56", func := "lotdrawer/lotdrawerlaw.AliasMakes", spec := "aliasMakes", unfollowed := true, recurses := true, apart := false, narrowed := true }
def AliasMakesUptoSaid : Prop := aliasMakesUptoRow.holds Try.pinned (OpenSpec.upto aliasMakesSpec)

/-- 'lotdrawerlaw.CoinTells', WHERE WHAT IT READS IS OF BULK AT MOST 1048576: true; the input reads as it did. -/
def coinTellsUptoRow : OpenClaim := { program := "ytmcbkjepjijfjaa", sum := "93e9557b9672360f16d042ad8e18f0c0aa6461e3569356029316dc2f08d14e56", func := "lotdrawer/lotdrawerlaw.CoinTells", spec := "coinTells", apart := false, narrowed := true }
def CoinTellsUptoSaid : Prop := coinTellsUptoRow.holds Try.pinned (OpenSpec.upto coinTellsSpec)

/-- 'lotdrawerlaw.FenDraws', WHERE WHAT IT READS IS OF BULK AT MOST 1048576: true; the input reads as it did. -/
def fenDrawsUptoRow : OpenClaim := { program := "ytmcbkjepjijfjaa", sum := "93e9557b9672360f16d042ad8e18f0c0aa6461e3569356029316dc2f08d14e56", func := "lotdrawer/lotdrawerlaw.FenDraws", spec := "fenDraws", apart := false, narrowed := true }
def FenDrawsUptoSaid : Prop := fenDrawsUptoRow.holds Try.pinned (OpenSpec.upto fenDrawsSpec)

/-- 'lotdrawerlaw.ComboRanks', WHERE WHAT IT READS IS OF BULK AT MOST 1048576: true; the input reads as it did. -/
def comboRanksUptoRow : OpenClaim := { program := "ytmcbkjepjijfjaa", sum := "93e9557b9672360f16d042ad8e18f0c0aa6461e3569356029316dc2f08d14e56", func := "lotdrawer/lotdrawerlaw.ComboRanks", spec := "comboRanks", recurses := true, apart := false, narrowed := true }
def ComboRanksUptoSaid : Prop := comboRanksUptoRow.holds Try.pinned (OpenSpec.upto comboRanksSpec)

/-- 'lotdrawerlaw.JoinPools', WHERE WHAT IT READS IS OF BULK AT MOST 1048576: true; the input reads as it did. -/
def joinPoolsUptoRow : OpenClaim := { program := "ytmcbkjepjijfjaa", sum := "93e9557b9672360f16d042ad8e18f0c0aa6461e3569356029316dc2f08d14e56", func := "lotdrawer/lotdrawerlaw.JoinPools", spec := "joinPools", unfollowed := true, recurses := true, apart := false, narrowed := true }
def JoinPoolsUptoSaid : Prop := joinPoolsUptoRow.holds Try.pinned (OpenSpec.upto joinPoolsSpec)

end Rows
end Go.Proofs.Ytmcbkjepjijfjaa
