/-
  No cell of these rows narrows 'for every input' (looked for: loops, veiled, ifaces, maps, wideKeys, modest, calm, conditions, laid).
  DERIVED. THE GIVEN ROWS OF THIS SEAT. 6 by the template 'for every input the law returns true; each argument reads behind the call as it read before'; 0 by the template 'total and deterministic' (their statements: YtakjcodfcoaadaaTotals.lean).
  GIVEN WITH THE SEED: the statements are not yours to turn. If you find one false, say at which input.
  Laid BY PROGRAM, IN A SANDBOX (cutbox-rows.mjs): the forced cells as the released guide's own fill.sh prints them over the translation 8c842cd31968955f… (all of the seat's roots in one cut). By AI agents, Wed Nov 11 2026. No macro, syntax, notation, axiom, sorry.
-/
import Derived.Test.YtakjcodfcoaadaaChecked
import GoSem.Claim
import GoSem.ClaimJoined
import GoSem.ClaimMapViews
import Derived.JoinedTies
import Derived.KernelRfl
namespace Go.Proofs.Ytakjcodfcoaadaa
/- THE CELL 'sum', in the pinned program and in every row, IS THE sha256 OF THE DUMP (.gsa) THAT YtakjcodfcoaadaaProg.lean LOADS. Nothing in Lean hashes anything: it is a label: what it is worth is what the hold of that sum in a sandbox is worth. -/
noncomputable def Try.pinned : Pinned := { name := "ytakjcodfcoaadaa", sum := "8c842cd31968955f434dc59f5c37135b90323b804d3c9ff184045adfc25e1700", checked := Try.checked }
namespace Rows
def none {H : Type} : Left H := { results := [], args := [] }

/-- 'lotdrawerlaw.BottomMixes': WHATEVER THE INPUT: true; the input reads as it did. -/
def bottomMixesSpec : ChangeSpec := { name := "bottomMixes", fn := fun _ => fun
  | [d] => { results := [.lit (.bool true)], args := [d] }
  | _ => none }
def bottomMixesRow : OpenClaim := { program := "ytakjcodfcoaadaa", sum := "8c842cd31968955f434dc59f5c37135b90323b804d3c9ff184045adfc25e1700", func := "lotdrawer/lotdrawerlaw.BottomMixes", spec := "bottomMixes", apart := false }
def BottomMixesSaid : Prop := bottomMixesRow.holds Try.pinned (OpenSpec.ofChange bottomMixesSpec)

/-- ITS FALSE NEIGHBOUR: 'it returns false'. Refute it at one input. -/
def bottomMixesWrong : ChangeSpec := { name := "bottomMixes", fn := fun _ => fun
  | [d] => { results := [.lit (.bool false)], args := [d] }
  | _ => none }
def BottomMixesWrongFalsely : Prop := bottomMixesRow.holds Try.pinned (OpenSpec.ofChange bottomMixesWrong)

/-- 'lotdrawerlaw.MixerSteps': WHATEVER THE INPUT: true; the input reads as it did. -/
def mixerStepsSpec : ChangeSpec := { name := "mixerSteps", fn := fun _ => fun
  | [d1, d2] => { results := [.lit (.bool true)], args := [d1, d2] }
  | _ => none }
def mixerStepsRow : OpenClaim := { program := "ytakjcodfcoaadaa", sum := "8c842cd31968955f434dc59f5c37135b90323b804d3c9ff184045adfc25e1700", func := "lotdrawer/lotdrawerlaw.MixerSteps", spec := "mixerSteps", apart := false }
def MixerStepsSaid : Prop := mixerStepsRow.holds Try.pinned (OpenSpec.ofChange mixerStepsSpec)

/-- ITS FALSE NEIGHBOUR: 'it returns false'. Refute it at one input. -/
def mixerStepsWrong : ChangeSpec := { name := "mixerSteps", fn := fun _ => fun
  | [d1, d2] => { results := [.lit (.bool false)], args := [d1, d2] }
  | _ => none }
def MixerStepsWrongFalsely : Prop := mixerStepsRow.holds Try.pinned (OpenSpec.ofChange mixerStepsWrong)

/-- 'lotdrawerlaw.MixerWords': WHATEVER THE INPUT: true; the input reads as it did. -/
def mixerWordsSpec : ChangeSpec := { name := "mixerWords", fn := fun _ => fun
  | [d1, d2] => { results := [.lit (.bool true)], args := [d1, d2] }
  | _ => none }
def mixerWordsRow : OpenClaim := { program := "ytakjcodfcoaadaa", sum := "8c842cd31968955f434dc59f5c37135b90323b804d3c9ff184045adfc25e1700", func := "lotdrawer/lotdrawerlaw.MixerWords", spec := "mixerWords", apart := false }
def MixerWordsSaid : Prop := mixerWordsRow.holds Try.pinned (OpenSpec.ofChange mixerWordsSpec)

/-- ITS FALSE NEIGHBOUR: 'it returns false'. Refute it at one input. -/
def mixerWordsWrong : ChangeSpec := { name := "mixerWords", fn := fun _ => fun
  | [d1, d2] => { results := [.lit (.bool false)], args := [d1, d2] }
  | _ => none }
def MixerWordsWrongFalsely : Prop := mixerWordsRow.holds Try.pinned (OpenSpec.ofChange mixerWordsWrong)

/-- 'lotdrawerlaw.RuinPlays': WHATEVER THE INPUT: true; the input reads as it did. -/
def ruinPlaysSpec : ChangeSpec := { name := "ruinPlays", fn := fun _ => fun
  | [d1, d2, d3] => { results := [.lit (.bool true)], args := [d1, d2, d3] }
  | _ => none }
def ruinPlaysRow : OpenClaim := { program := "ytakjcodfcoaadaa", sum := "8c842cd31968955f434dc59f5c37135b90323b804d3c9ff184045adfc25e1700", func := "lotdrawer/lotdrawerlaw.RuinPlays", spec := "ruinPlays", apart := false }
def RuinPlaysSaid : Prop := ruinPlaysRow.holds Try.pinned (OpenSpec.ofChange ruinPlaysSpec)

/-- ITS FALSE NEIGHBOUR: 'it returns false'. Refute it at one input. -/
def ruinPlaysWrong : ChangeSpec := { name := "ruinPlays", fn := fun _ => fun
  | [d1, d2, d3] => { results := [.lit (.bool false)], args := [d1, d2, d3] }
  | _ => none }
def RuinPlaysWrongFalsely : Prop := ruinPlaysRow.holds Try.pinned (OpenSpec.ofChange ruinPlaysWrong)

/-- 'lotdrawerlaw.LfsrSteps': WHATEVER THE INPUT: true; the input reads as it did. -/
def lfsrStepsSpec : ChangeSpec := { name := "lfsrSteps", fn := fun _ => fun
  | [d1, d2, d3, d4] => { results := [.lit (.bool true)], args := [d1, d2, d3, d4] }
  | _ => none }
def lfsrStepsRow : OpenClaim := { program := "ytakjcodfcoaadaa", sum := "8c842cd31968955f434dc59f5c37135b90323b804d3c9ff184045adfc25e1700", func := "lotdrawer/lotdrawerlaw.LfsrSteps", spec := "lfsrSteps", apart := false }
def LfsrStepsSaid : Prop := lfsrStepsRow.holds Try.pinned (OpenSpec.ofChange lfsrStepsSpec)

/-- ITS FALSE NEIGHBOUR: 'it returns false'. Refute it at one input. -/
def lfsrStepsWrong : ChangeSpec := { name := "lfsrSteps", fn := fun _ => fun
  | [d1, d2, d3, d4] => { results := [.lit (.bool false)], args := [d1, d2, d3, d4] }
  | _ => none }
def LfsrStepsWrongFalsely : Prop := lfsrStepsRow.holds Try.pinned (OpenSpec.ofChange lfsrStepsWrong)

/-- 'lotdrawerlaw.LfsrJumps': WHATEVER THE INPUT: true; the input reads as it did. -/
def lfsrJumpsSpec : ChangeSpec := { name := "lfsrJumps", fn := fun _ => fun
  | [d1, d2, d3, d4] => { results := [.lit (.bool true)], args := [d1, d2, d3, d4] }
  | _ => none }
def lfsrJumpsRow : OpenClaim := { program := "ytakjcodfcoaadaa", sum := "8c842cd31968955f434dc59f5c37135b90323b804d3c9ff184045adfc25e1700", func := "lotdrawer/lotdrawerlaw.LfsrJumps", spec := "lfsrJumps", unfollowed := true, recurses := true, apart := false }
def LfsrJumpsSaid : Prop := lfsrJumpsRow.holds Try.pinned (OpenSpec.ofChange lfsrJumpsSpec)

/-- ITS FALSE NEIGHBOUR: 'it returns false'. Refute it at one input. -/
def lfsrJumpsWrong : ChangeSpec := { name := "lfsrJumps", fn := fun _ => fun
  | [d1, d2, d3, d4] => { results := [.lit (.bool false)], args := [d1, d2, d3, d4] }
  | _ => none }
def LfsrJumpsWrongFalsely : Prop := lfsrJumpsRow.holds Try.pinned (OpenSpec.ofChange lfsrJumpsWrong)

/- THE SECOND FORM. 'bulk': how many values and letters a reading holds, each counted each time it is reached (what is shared counts as often as it is met; a slice's spare places count too). A statement '..UptoSaid' is the law's where the arguments, and the package variables that the reading takes, are together of bulk at most 1048576: NARROWER than '..Said'. Prove '..Said' where nothing that the law and all that it calls make is longer than what came in: it says more and counts as full. Else prove '..UptoSaid'. A law counts once. -/
mutual
def uptoBulk {H : Type} : DataW H → Nat
  | .lit (.string bytes) => bytes.length + 1
  | .lit _ => 1
  | .nil => 1
  | .ptr d => uptoBulk d + 1
  | .slice elems spare => uptoBulkAll elems + uptoBulkAll spare + 1
  | .agg parts => uptoBulkAll parts + 1
  | .iface _ d => uptoBulk d + 1
  | .map entries => uptoBulkEntries entries + 1
  | .held _ => 1
def uptoBulkAll {H : Type} : List (DataW H) → Nat
  | [] => 0
  | d :: r => uptoBulk d + uptoBulkAll r
def uptoBulkEntries {H : Type} : List (Lit × DataW H) → Nat
  | [] => 0
  | x :: r => uptoBulkEntry x + uptoBulkEntries r
def uptoBulkEntry {H : Type} : Lit × DataW H → Nat
  | (.string bytes, d) => bytes.length + uptoBulk d + 1
  | (_, d) => uptoBulk d + 1
 end
def uptoSmall : (H : Type) → List (DataW H) → Bool := fun _ ds => decide (uptoBulkAll ds ≤ 1048576)
def OpenSpec.upto (s : _root_.Go.ChangeSpec) : _root_.Go.OpenSpec := { _root_.Go.OpenSpec.ofChange s with cond := some uptoSmall }

/-- 'lotdrawerlaw.BottomMixes', WHERE WHAT IT READS IS OF BULK AT MOST 1048576: true; the input reads as it did. -/
def bottomMixesUptoRow : OpenClaim := { program := "ytakjcodfcoaadaa", sum := "8c842cd31968955f434dc59f5c37135b90323b804d3c9ff184045adfc25e1700", func := "lotdrawer/lotdrawerlaw.BottomMixes", spec := "bottomMixes", apart := false, narrowed := true }
def BottomMixesUptoSaid : Prop := bottomMixesUptoRow.holds Try.pinned (OpenSpec.upto bottomMixesSpec)

/-- 'lotdrawerlaw.MixerSteps', WHERE WHAT IT READS IS OF BULK AT MOST 1048576: true; the input reads as it did. -/
def mixerStepsUptoRow : OpenClaim := { program := "ytakjcodfcoaadaa", sum := "8c842cd31968955f434dc59f5c37135b90323b804d3c9ff184045adfc25e1700", func := "lotdrawer/lotdrawerlaw.MixerSteps", spec := "mixerSteps", apart := false, narrowed := true }
def MixerStepsUptoSaid : Prop := mixerStepsUptoRow.holds Try.pinned (OpenSpec.upto mixerStepsSpec)

/-- 'lotdrawerlaw.MixerWords', WHERE WHAT IT READS IS OF BULK AT MOST 1048576: true; the input reads as it did. -/
def mixerWordsUptoRow : OpenClaim := { program := "ytakjcodfcoaadaa", sum := "8c842cd31968955f434dc59f5c37135b90323b804d3c9ff184045adfc25e1700", func := "lotdrawer/lotdrawerlaw.MixerWords", spec := "mixerWords", apart := false, narrowed := true }
def MixerWordsUptoSaid : Prop := mixerWordsUptoRow.holds Try.pinned (OpenSpec.upto mixerWordsSpec)

/-- 'lotdrawerlaw.RuinPlays', WHERE WHAT IT READS IS OF BULK AT MOST 1048576: true; the input reads as it did. -/
def ruinPlaysUptoRow : OpenClaim := { program := "ytakjcodfcoaadaa", sum := "8c842cd31968955f434dc59f5c37135b90323b804d3c9ff184045adfc25e1700", func := "lotdrawer/lotdrawerlaw.RuinPlays", spec := "ruinPlays", apart := false, narrowed := true }
def RuinPlaysUptoSaid : Prop := ruinPlaysUptoRow.holds Try.pinned (OpenSpec.upto ruinPlaysSpec)

/-- 'lotdrawerlaw.LfsrSteps', WHERE WHAT IT READS IS OF BULK AT MOST 1048576: true; the input reads as it did. -/
def lfsrStepsUptoRow : OpenClaim := { program := "ytakjcodfcoaadaa", sum := "8c842cd31968955f434dc59f5c37135b90323b804d3c9ff184045adfc25e1700", func := "lotdrawer/lotdrawerlaw.LfsrSteps", spec := "lfsrSteps", apart := false, narrowed := true }
def LfsrStepsUptoSaid : Prop := lfsrStepsUptoRow.holds Try.pinned (OpenSpec.upto lfsrStepsSpec)

/-- 'lotdrawerlaw.LfsrJumps', WHERE WHAT IT READS IS OF BULK AT MOST 1048576: true; the input reads as it did. -/
def lfsrJumpsUptoRow : OpenClaim := { program := "ytakjcodfcoaadaa", sum := "8c842cd31968955f434dc59f5c37135b90323b804d3c9ff184045adfc25e1700", func := "lotdrawer/lotdrawerlaw.LfsrJumps", spec := "lfsrJumps", unfollowed := true, recurses := true, apart := false, narrowed := true }
def LfsrJumpsUptoSaid : Prop := lfsrJumpsUptoRow.holds Try.pinned (OpenSpec.upto lfsrJumpsSpec)

end Rows
end Go.Proofs.Ytakjcodfcoaadaa
