/- The law BenchTells, walked, where what it reads is small. No condition but that and the library's tables. -/
import Derived.Test.YtmibifmabkaakaaDoorBenF
namespace Go.Proofs.YtmibifmabkaakaaDoor.lawBenchTells
open Go.ChangeShapes Go.WideShapes Go.ChangeAt Go.RowKit

theorem BenchTells_walk {H : Type} (s : ByteArray) (W : World) (hk : Rows.uptoSmall H ([.lit (.string s.data.toList)] ++ []) = true) (hL : LibW W) :
    Calls Tryd.prog 8 #[.string s] W fun e w' => e = .returned (.bool true) ∧ Below W.heap.size W w' := by
  have h := of_decide_eq_true hk
  simp only [List.append_nil, Rows.uptoBulkAll, Rows.uptoBulk] at h
  have e : s.data.toList.length = s.size := by rw [Array.length_toList]; rfl
  exact Go.Proofs.YtmibifmabkaakaaDoor.BenchTells_walk s W (by omega) hL
end Go.Proofs.YtmibifmabkaakaaDoor.lawBenchTells
