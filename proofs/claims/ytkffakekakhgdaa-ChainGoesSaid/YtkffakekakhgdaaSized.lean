/- How long a slice that comes in can be. No condition. -/
import Derived.Test.YtkffakekakhgdaaBase
import Derived.SizedLaws
namespace Go.Proofs.Ytkffakekakhgdaa
open Go.ChangeShapes Go.WideShapes Go.ChangeAt Go.RowKit

theorem slice_reach {H : Type} {enc : TypeId × Value → H} {P : Program} {W : World} {t e : TypeId} {v : Value} {d : DataW H} {ps : List MemPlace} (ht : P.underlying t = some (.slice e)) (h : DataW.Trod enc P W 0 (fun _ => true) true t v d ps)
    (b : Nat) (hR : ∀ elems spare, d = .slice elems spare → (elems.length + spare.length) * b ≤ reachBytes) {A : Option Addr} {n c : Nat} (hv : v = .slice A n c) : c * b ≤ 140737488351232 := by
  obtain ⟨fuel, hf⟩ := h
  subst hv
  rcases DataW.trod_slice ht hf with ⟨hcs, _⟩ | ⟨a, len, cap, elems, rest, n', _, hcs, hx, _, hl, _, hel, _, hsp, _⟩
  · simp [Value.cells] at hcs
    obtain ⟨_, _, rfl⟩ := hcs
    omega
  · simp [Value.cells] at hcs
    obtain ⟨_, _, rfl⟩ := hcs
    injection hx with hx1 _
    have := hR _ _ hx1
    rw [List.length_map, List.length_map, hel, (hsp rfl).1, show len + (c - len) = c by omega] at this
    exact this
end Go.Proofs.Ytkffakekakhgdaa
