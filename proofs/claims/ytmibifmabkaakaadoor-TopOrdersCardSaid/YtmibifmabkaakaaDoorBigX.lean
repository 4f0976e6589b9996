/- Digits multiplied: plain. No condition. -/
import Derived.Test.YtmibifmabkaakaaDoorBigM
namespace Go.Proofs.YtmibifmabkaakaaDoor

def upd (h : Nat → Nat) (k v : Nat) (i : Nat) : Nat := if i = k then v else h i
theorem upd_same (h : Nat → Nat) (k v : Nat) : upd h k v k = v := if_pos rfl
theorem upd_other {h : Nat → Nat} {k v i : Nat} (hi : i ≠ k) : upd h k v i = h i := if_neg hi
theorem upd_ok {h : Nat → Nat} {k v n : Nat} (hh : fok h n) (hv : v < 4294967296) : fok (upd h k v) n := fun i hi => by
  unfold upd; split
  · exact hv
  · exact hh i hi
theorem upd_fv {h : Nat → Nat} {k v n : Nat} (hk : k < n) : fv (upd h k v) n + h k * bp k = fv h n + v * bp k := by
  have := fv_upd (g := h) (f := upd h k v) hk (fun i _ hne => upd_other hne)
  rw [upd_same] at this; exact this
/-- How the product stands, behind i rows and j places of the next one. -/
def MInv (f g h : Nat → Nat) (m N i j c : Nat) : Prop :=
  fok h N ∧ (∀ k, i + m ≤ k → h k = 0) ∧ c < 4294967296 ∧ fv h N + c * bp (i + j) = fv f i * fv g m + f i * fv g j * bp i
/-- .. between two rows. -/
def MRow (f g h : Nat → Nat) (m N i : Nat) : Prop := fok h N ∧ (∀ k, i + m ≤ k → h k = 0) ∧ fv h N = fv f i * fv g m
section
variable {f g h : Nat → Nat} {m N i j c : Nat}
theorem MRow.first (f g : Nat → Nat) (m N : Nat) : MRow f g (fun _ => 0) m N 0 := ⟨fun _ _ => (show 0 < 4294967296 by decide), fun _ _ => rfl, by rw [fv_zero fun _ _ => rfl]; simp [fv]⟩
theorem MRow.begin (h1 : MRow f g h m N i) : MInv f g h m N i 0 0 := ⟨h1.1, h1.2.1, by decide, by rw [h1.2.2]; simp [fv]⟩
theorem MInv.sum_lt (h1 : MInv f g h m N i j c) (hf : f i < 4294967296) (hg : g j < 4294967296) (hk : i + j < N) : c + (f i * g j + h (i + j)) < 18446744073709551616 := by
  have h2 := h1.1 (i + j) hk
  have h3 := h1.2.2.1
  have h4 : f i * g j ≤ 4294967295 * 4294967295 := Nat.mul_le_mul (by omega) (by omega)
  omega
theorem MInv.step (h1 : MInv f g h m N i j c) (hj : j < m) (hk : i + j < N) (hb : c + (f i * g j + h (i + j)) < 18446744073709551616) :
    MInv f g (upd h (i + j) ((c + (f i * g j + h (i + j))) % 4294967296)) m N i (j + 1) ((c + (f i * g j + h (i + j))) / 4294967296) := by
  obtain ⟨h2, h3, h4, h5⟩ := h1
  generalize hs : c + (f i * g j + h (i + j)) = s at *
  refine ⟨upd_ok h2 (Nat.mod_lt _ (by decide)), fun k hk2 => ?_, by omega, ?_⟩
  · rw [upd_other (by omega)]; exact h3 k hk2
  · have e1 := upd_fv (h := h) (v := s % 4294967296) hk
    have e2 : s * bp (i + j) = s % 4294967296 * bp (i + j) + s / 4294967296 * bp (i + (j + 1)) := by
      rw [show i + (j + 1) = i + j + 1 by omega, bp_succ]
      have := Nat.div_add_mod s 4294967296
      generalize s / 4294967296 = q at *
      generalize s % 4294967296 = r at *
      subst this
      rw [Nat.add_mul, Nat.mul_comm 4294967296 q, Nat.mul_assoc q, Nat.mul_comm 4294967296 (bp (i + j))]
      omega
    have e3 : s * bp (i + j) = c * bp (i + j) + (f i * g j * bp (i + j) + h (i + j) * bp (i + j)) := by rw [← hs, Nat.add_mul, Nat.add_mul]
    have e4 : f i * fv g (j + 1) * bp i = f i * fv g j * bp i + f i * g j * bp (i + j) := by
      show f i * (fv g j + g j * bp j) * bp i = _
      rw [Nat.mul_add, Nat.add_mul, bp_add, ← Nat.mul_assoc (f i), Nat.mul_assoc (f i * g j), Nat.mul_comm (bp j)]
    rw [e4]
    omega
theorem MInv.last (h1 : MInv f g h m N i m c) (hk : i + m < N) : MRow f g (upd h (i + m) c) m N (i + 1) := by
  obtain ⟨h2, h3, h4, h5⟩ := h1
  refine ⟨upd_ok h2 h4, fun k hk2 => ?_, ?_⟩
  · rw [upd_other (by omega)]; exact h3 k (by omega)
  · have e1 := upd_fv (h := h) (v := c) hk
    rw [h3 (i + m) (Nat.le_refl _), Nat.zero_mul, Nat.add_zero] at e1
    rw [e1, h5]
    show _ = (fv f i + f i * bp i) * fv g m
    rw [Nat.add_mul, Nat.mul_assoc (f i), Nat.mul_comm (fv g m) (bp i), ← Nat.mul_assoc]
end
end Go.Proofs.YtmibifmabkaakaaDoor
