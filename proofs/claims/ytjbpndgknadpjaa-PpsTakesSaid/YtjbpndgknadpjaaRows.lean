/-
  No cell of these rows narrows 'for every input' (looked for: loops, veiled, ifaces, maps, wideKeys, modest, calm, conditions, laid).
  DERIVED. THE GIVEN ROWS OF THIS SEAT. 6 by the template 'for every input the law returns true; each argument reads behind the call as it read before'; 0 by the template 'total and deterministic' (their statements: YtjbpndgknadpjaaTotals.lean).
  GIVEN WITH THE SEED: the statements are not yours to turn. If you find one false, say at which input.
  Laid BY PROGRAM, IN A SANDBOX (cutbox-rows.mjs): the forced cells as the released guide's own fill.sh prints them over the translation 67dc9cf8ce3fca23… (all of the seat's roots in one cut). By AI agents, Wed Nov 11 2026. No macro, syntax, notation, axiom, sorry.
-/
import Derived.Test.YtjbpndgknadpjaaChecked
import GoSem.Claim
import GoSem.ClaimJoined
import GoSem.ClaimMapViews
import Derived.JoinedTies
import Derived.KernelRfl
namespace Go.Proofs.Ytjbpndgknadpjaa
/- THE CELL 'sum', in the pinned program and in every row, IS THE sha256 OF THE DUMP (.gsa) THAT YtjbpndgknadpjaaProg.lean LOADS. Nothing in Lean hashes anything: it is a label: what it is worth is what the hold of that sum in a sandbox is worth. -/
noncomputable def Try.pinned : Pinned := { name := "ytjbpndgknadpjaa", sum := "67dc9cf8ce3fca23ac46b37a9c46c980e46432ecd7ad6db325596d3162e2d986", checked := Try.checked }
namespace Rows
def none {H : Type} : Left H := { results := [], args := [] }

/-- 'lotdrawertop.Names': WHATEVER THE INPUT: true; the input reads as it did. -/
def namesSpec : ChangeSpec := { name := "names", fn := fun _ => fun
  | [] => { results := [.lit (.bool true)], args := [] }
  | _ => none }
def namesRow : OpenClaim := { program := "ytjbpndgknadpjaa", sum := "67dc9cf8ce3fca23ac46b37a9c46c980e46432ecd7ad6db325596d3162e2d986", func := "lotdrawer/lotdrawertop.Names", spec := "names", apart := false }
def NamesSaid : Prop := namesRow.holds Try.pinned (OpenSpec.ofChange namesSpec)

/-- ITS FALSE NEIGHBOUR: 'it returns false'. Refute it at one input. -/
def namesWrong : ChangeSpec := { name := "names", fn := fun _ => fun
  | [] => { results := [.lit (.bool false)], args := [] }
  | _ => none }
def NamesWrongFalsely : Prop := namesRow.holds Try.pinned (OpenSpec.ofChange namesWrong)

/-- 'lotdrawerlaw.PpsTakes': WHATEVER THE INPUT: true; the input reads as it did. -/
def ppsTakesSpec : ChangeSpec := { name := "ppsTakes", fn := fun _ => fun
  | [d1, d2, d3, d4] => { results := [.lit (.bool true)], args := [d1, d2, d3, d4] }
  | _ => none }
def ppsTakesRow : OpenClaim := { program := "ytjbpndgknadpjaa", sum := "67dc9cf8ce3fca23ac46b37a9c46c980e46432ecd7ad6db325596d3162e2d986", func := "lotdrawer/lotdrawerlaw.PpsTakes", spec := "ppsTakes", apart := false }
def PpsTakesSaid : Prop := ppsTakesRow.holds Try.pinned (OpenSpec.ofChange ppsTakesSpec)

/-- ITS FALSE NEIGHBOUR: 'it returns false'. Refute it at one input. -/
def ppsTakesWrong : ChangeSpec := { name := "ppsTakes", fn := fun _ => fun
  | [d1, d2, d3, d4] => { results := [.lit (.bool false)], args := [d1, d2, d3, d4] }
  | _ => none }
def PpsTakesWrongFalsely : Prop := ppsTakesRow.holds Try.pinned (OpenSpec.ofChange ppsTakesWrong)

/-- 'lotdrawerlaw.EvenTurns': WHATEVER THE INPUT: true; the input reads as it did. -/
def evenTurnsSpec : ChangeSpec := { name := "evenTurns", fn := fun _ => fun
  | [d1, d2, d3, d4, d5, d6] => { results := [.lit (.bool true)], args := [d1, d2, d3, d4, d5, d6] }
  | _ => none }
def evenTurnsRow : OpenClaim := { program := "ytjbpndgknadpjaa", sum := "67dc9cf8ce3fca23ac46b37a9c46c980e46432ecd7ad6db325596d3162e2d986", func := "lotdrawer/lotdrawerlaw.EvenTurns", spec := "evenTurns", apart := false }
def EvenTurnsSaid : Prop := evenTurnsRow.holds Try.pinned (OpenSpec.ofChange evenTurnsSpec)

/-- ITS FALSE NEIGHBOUR: 'it returns false'. Refute it at one input. -/
def evenTurnsWrong : ChangeSpec := { name := "evenTurns", fn := fun _ => fun
  | [d1, d2, d3, d4, d5, d6] => { results := [.lit (.bool false)], args := [d1, d2, d3, d4, d5, d6] }
  | _ => none }
def EvenTurnsWrongFalsely : Prop := evenTurnsRow.holds Try.pinned (OpenSpec.ofChange evenTurnsWrong)

/-- 'lotdrawerlaw.AliasMakes': WHATEVER THE INPUT: true; the input reads as it did. -/
def aliasMakesSpec : ChangeSpec := { name := "aliasMakes", fn := fun _ => fun
  | [d1, d2, d3, d4] => { results := [.lit (.bool true)], args := [d1, d2, d3, d4] }
  | _ => none }
def aliasMakesRow : OpenClaim := { program := "ytjbpndgknadpjaa", sum := "67dc9cf8ce3fca23ac46b37a9c46c980e46432ecd7ad6db325596d3162e2d986", func := "lotdrawer/lotdrawerlaw.AliasMakes", spec := "aliasMakes", unfollowed := true, recurses := true, apart := false }
def AliasMakesSaid : Prop := aliasMakesRow.holds Try.pinned (OpenSpec.ofChange aliasMakesSpec)

/-- ITS FALSE NEIGHBOUR: 'it returns false'. Refute it at one input. -/
def aliasMakesWrong : ChangeSpec := { name := "aliasMakes", fn := fun _ => fun
  | [d1, d2, d3, d4] => { results := [.lit (.bool false)], args := [d1, d2, d3, d4] }
  | _ => none }
def AliasMakesWrongFalsely : Prop := aliasMakesRow.holds Try.pinned (OpenSpec.ofChange aliasMakesWrong)

/-- 'lotdrawerlaw.FenDraws': WHATEVER THE INPUT: true; the input reads as it did. -/
def fenDrawsSpec : ChangeSpec := { name := "fenDraws", fn := fun _ => fun
  | [d1, d2, d3] => { results := [.lit (.bool true)], args := [d1, d2, d3] }
  | _ => none }
def fenDrawsRow : OpenClaim := { program := "ytjbpndgknadpjaa", sum := "67dc9cf8ce3fca23ac46b37a9c46c980e46432ecd7ad6db325596d3162e2d986", func := "lotdrawer/lotdrawerlaw.FenDraws", spec := "fenDraws", apart := false }
def FenDrawsSaid : Prop := fenDrawsRow.holds Try.pinned (OpenSpec.ofChange fenDrawsSpec)

/-- ITS FALSE NEIGHBOUR: 'it returns false'. Refute it at one input. -/
def fenDrawsWrong : ChangeSpec := { name := "fenDraws", fn := fun _ => fun
  | [d1, d2, d3] => { results := [.lit (.bool false)], args := [d1, d2, d3] }
  | _ => none }
def FenDrawsWrongFalsely : Prop := fenDrawsRow.holds Try.pinned (OpenSpec.ofChange fenDrawsWrong)

/-- 'lotdrawerlaw.JoinPools': WHATEVER THE INPUT: true; the input reads as it did. -/
def joinPoolsSpec : ChangeSpec := { name := "joinPools", fn := fun _ => fun
  | [d1, d2, d3, d4, d5, d6, d7, d8] => { results := [.lit (.bool true)], args := [d1, d2, d3, d4, d5, d6, d7, d8] }
  | _ => none }
def joinPoolsRow : OpenClaim := { program := "ytjbpndgknadpjaa", sum := "67dc9cf8ce3fca23ac46b37a9c46c980e46432ecd7ad6db325596d3162e2d986", func := "lotdrawer/lotdrawerlaw.JoinPools", spec := "joinPools", unfollowed := true, recurses := true, apart := false }
def JoinPoolsSaid : Prop := joinPoolsRow.holds Try.pinned (OpenSpec.ofChange joinPoolsSpec)

/-- ITS FALSE NEIGHBOUR: 'it returns false'. Refute it at one input. -/
def joinPoolsWrong : ChangeSpec := { name := "joinPools", fn := fun _ => fun
  | [d1, d2, d3, d4, d5, d6, d7, d8] => { results := [.lit (.bool false)], args := [d1, d2, d3, d4, d5, d6, d7, d8] }
  | _ => none }
def JoinPoolsWrongFalsely : Prop := joinPoolsRow.holds Try.pinned (OpenSpec.ofChange joinPoolsWrong)

/- THE SECOND FORM. 'bulk': how many values and letters a reading holds, each counted each time it is reached (what is shared counts as often as it is met; a slice's spare places count too). A statement '..UptoSaid' is the law's where the arguments, and the package variables that the reading takes, are together of bulk at most 1048576: NARROWER than '..Said'. Prove '..Said' where nothing that the law and all that it calls make is longer than what came in: it says more and counts as full. Else prove '..UptoSaid'. A law counts once. -/
mutual
def uptoBulk {H : Type} : DataW H → Nat
  | .lit (.string bytes) => bytes.length + 1
  | .lit _ => 1
  | .nil => 1
  | .ptr d => uptoBulk d + 1
  | .slice elems spare => uptoBulkAll elems + uptoBulkAll spare + 1
  | .agg parts => uptoBulkAll parts + 1
  | .iface _ d => uptoBulk d + 1
  | .map entries => uptoBulkEntries entries + 1
  | .held _ => 1
def uptoBulkAll {H : Type} : List (DataW H) → Nat
  | [] => 0
  | d :: r => uptoBulk d + uptoBulkAll r
def uptoBulkEntries {H : Type} : List (Lit × DataW H) → Nat
  | [] => 0
  | x :: r => uptoBulkEntry x + uptoBulkEntries r
def uptoBulkEntry {H : Type} : Lit × DataW H → Nat
  | (.string bytes, d) => bytes.length + uptoBulk d + 1
  | (_, d) => uptoBulk d + 1
 end
def uptoSmall : (H : Type) → List (DataW H) → Bool := fun _ ds => decide (uptoBulkAll ds ≤ 1048576)
def OpenSpec.upto (s : _root_.Go.ChangeSpec) : _root_.Go.OpenSpec := { _root_.Go.OpenSpec.ofChange s with cond := some uptoSmall }

/-- 'lotdrawertop.Names', WHERE WHAT IT READS IS OF BULK AT MOST 1048576: true; the input reads as it did. -/
def namesUptoRow : OpenClaim := { program := "ytjbpndgknadpjaa", sum := "67dc9cf8ce3fca23ac46b37a9c46c980e46432ecd7ad6db325596d3162e2d986", func := "lotdrawer/lotdrawertop.Names", spec := "names", apart := false, narrowed := true }
def NamesUptoSaid : Prop := namesUptoRow.holds Try.pinned (OpenSpec.upto namesSpec)

/-- 'lotdrawerlaw.PpsTakes', WHERE WHAT IT READS IS OF BULK AT MOST 1048576: true; the input reads as it did. -/
def ppsTakesUptoRow : OpenClaim := { program := "ytjbpndgknadpjaa", sum := "67dc9cf8ce3fca23ac46b37a9c46c980e46432ecd7ad6db325596d3162e2d986", func := "lotdrawer/lotdrawerlaw.PpsTakes", spec := "ppsTakes", apart := false, narrowed := true }
def PpsTakesUptoSaid : Prop := ppsTakesUptoRow.holds Try.pinned (OpenSpec.upto ppsTakesSpec)

/-- 'lotdrawerlaw.EvenTurns', WHERE WHAT IT READS IS OF BULK AT MOST 1048576: true; the input reads as it did. -/
def evenTurnsUptoRow : OpenClaim := { program := "ytjbpndgknadpjaa", sum := "67dc9cf8ce3fca23ac46b37a9c46c980e46432ecd7ad6db325596d3162e2d986", func := "lotdrawer/lotdrawerlaw.EvenTurns", spec := "evenTurns", apart := false, narrowed := true }
def EvenTurnsUptoSaid : Prop := evenTurnsUptoRow.holds Try.pinned (OpenSpec.upto evenTurnsSpec)

/-- 'lotdrawerlaw.AliasMakes', WHERE WHAT IT READS IS OF BULK AT MOST 1048576: true; the input reads as it did. -/
def aliasMakesUptoRow : OpenClaim := { program := "ytjbpndgknadpjaa", sum := "67dc9cf8ce3fca23ac46b37a9c46c980e46432ecd7ad6db325596d3162e2d986", func := "lotdrawer/lotdrawerlaw.AliasMakes", spec := "aliasMakes", unfollowed := true, recurses := true, apart := false, narrowed := true }
def AliasMakesUptoSaid : Prop := aliasMakesUptoRow.holds Try.pinned (OpenSpec.upto aliasMakesSpec)

/-- 'lotdrawerlaw.FenDraws', WHERE WHAT IT READS IS OF BULK AT MOST 1048576: true; the input reads as it did. -/
def fenDrawsUptoRow : OpenClaim := { program := "ytjbpndgknadpjaa", sum := "67dc9cf8ce3fca23ac46b37a9c46c980e46432ecd7ad6db325596d3162e2d986", func := "lotdrawer/lotdrawerlaw.FenDraws", spec := "fenDraws", apart := false, narrowed := true }
def FenDrawsUptoSaid : Prop := fenDrawsUptoRow.holds Try.pinned (OpenSpec.upto fenDrawsSpec)

/-- 'lotdrawerlaw.JoinPools', WHERE WHAT IT READS IS OF BULK AT MOST 1048576: true; the input reads as it did. -/
def joinPoolsUptoRow : OpenClaim := { program := "ytjbpndgknadpjaa", sum := "67dc9cf8ce3fca23ac46b37a9c46c980e46432ecd7ad6db325596d3162e2d986", func := "lotdrawer/lotdrawerlaw.JoinPools", spec := "joinPools", unfollowed := true, recurses := true, apart := false, narrowed := true }
def JoinPoolsUptoSaid : Prop := joinPoolsUptoRow.holds Try.pinned (OpenSpec.upto joinPoolsSpec)

end Rows
end Go.Proofs.Ytjbpndgknadpjaa
