/- Digits added and taken away: plain. No condition. -/
import Derived.Test.YtmibifmabkaakaaDoorBigM
namespace Go.Proofs.YtmibifmabkaakaaDoor

/-- What is carried, behind k digits. -/
def carry (f g : Nat → Nat) : Nat → Nat
  | 0 => 0
  | k + 1 => (carry f g k + f k + g k) / 4294967296
def sdig (f g : Nat → Nat) (k : Nat) : Nat := (carry f g k + f k + g k) % 4294967296
theorem carry_le {f g : Nat → Nat} {n : Nat} (hf : fok f n) (hg : fok g n) : ∀ k, k ≤ n → carry f g k ≤ 1 := by
  intro k
  induction k with
  | zero => intro _; exact Nat.zero_le _
  | succ k ih =>
    intro h
    have h1 := ih (by omega)
    have h2 := hf k (by omega)
    have h3 := hg k (by omega)
    unfold carry
    omega
theorem sdig_ok (f g : Nat → Nat) (n : Nat) : fok (sdig f g) n := fun i _ => Nat.mod_lt _ (by decide)
theorem sum_inv (f g : Nat → Nat) (k : Nat) : fv (sdig f g) k + carry f g k * bp k = fv f k + fv g k := by
  induction k with
  | zero => simp [fv, carry]
  | succ k ih =>
    show fv (sdig f g) k + sdig f g k * bp k + carry f g (k + 1) * bp (k + 1) = fv f k + f k * bp k + (fv g k + g k * bp k)
    have e : sdig f g k * bp k + carry f g (k + 1) * bp (k + 1) = (carry f g k + f k + g k) * bp k := by
      rw [bp_succ]
      unfold sdig
      show _ + (carry f g k + f k + g k) / 4294967296 * _ = _
      generalize carry f g k + f k + g k = s
      have h := Nat.div_add_mod s 4294967296
      generalize s / 4294967296 = q at *
      generalize s % 4294967296 = r at *
      subst h
      rw [Nat.add_mul, Nat.mul_comm 4294967296 q, Nat.mul_assoc q, Nat.mul_comm 4294967296 (bp k)]
      omega
    have e2 : (carry f g k + f k + g k) * bp k = carry f g k * bp k + f k * bp k + g k * bp k := by rw [Nat.add_mul, Nat.add_mul]
    omega
/-- The digits of a sum: n of them and what is carried. -/
def sfun (f g : Nat → Nat) (n i : Nat) : Nat := if i < n then sdig f g i else carry f g n
theorem sfun_dv (f g : Nat → Nat) (n : Nat) : fv (sfun f g n) (n + 1) = fv f n + fv g n := by
  show fv (sfun f g n) n + sfun f g n n * bp n = _
  rw [fv_congr (g := sfun f g n) (f := sdig f g) (fun i hi => if_pos hi), show sfun f g n n = carry f g n from if_neg (by omega), sum_inv]
theorem sfun_ok {f g : Nat → Nat} {n : Nat} (hf : fok f n) (hg : fok g n) : fok (sfun f g n) (n + 1) := fun i hi => by
  unfold sfun
  split
  · exact Nat.mod_lt _ (by decide)
  · have := carry_le hf hg n (Nat.le_refl _); omega

/-- What is borrowed, behind k digits. -/
def bor (f g : Nat → Nat) : Nat → Nat
  | 0 => 0
  | k + 1 => if f k < g k + bor f g k then 1 else 0
def ddig (f g : Nat → Nat) (k : Nat) : Nat := f k + (if f k < g k + bor f g k then 4294967296 else 0) - g k - bor f g k
theorem bor_le (f g : Nat → Nat) (k : Nat) : bor f g k ≤ 1 := by
  cases k with
  | zero => exact Nat.zero_le _
  | succ k => unfold bor; split <;> omega
theorem ddig_ok {f g : Nat → Nat} {n : Nat} (hf : fok f n) (hg : fok g n) : fok (ddig f g) n := fun i hi => by
  have h1 := hf i hi
  have h2 := hg i hi
  have h3 := bor_le f g i
  unfold ddig
  split <;> omega
theorem diff_inv {f g : Nat → Nat} {n : Nat} (hf : fok f n) (hg : fok g n) : ∀ k, k ≤ n → fv (ddig f g) k + fv g k = fv f k + bor f g k * bp k := by
  intro k
  induction k with
  | zero => intro _; simp [fv, bor]
  | succ k ih =>
    intro hk
    have h0 := ih (by omega)
    have h1 := hf k (by omega)
    have h2 := hg k (by omega)
    have h3 := bor_le f g k
    show fv (ddig f g) k + ddig f g k * bp k + (fv g k + g k * bp k) = fv f k + f k * bp k + bor f g (k + 1) * bp (k + 1)
    have e : ddig f g k + g k + bor f g k = f k + bor f g (k + 1) * 4294967296 := by
      show _ = f k + (if f k < g k + bor f g k then 1 else 0) * 4294967296
      unfold ddig
      split <;> omega
    have e2 : (ddig f g k + g k + bor f g k) * bp k = ddig f g k * bp k + g k * bp k + bor f g k * bp k := by rw [Nat.add_mul, Nat.add_mul]
    have e3 : (f k + bor f g (k + 1) * 4294967296) * bp k = f k * bp k + bor f g (k + 1) * (bp k * 4294967296) := by rw [Nat.add_mul, Nat.mul_assoc, Nat.mul_comm 4294967296]
    rw [e, e3] at e2
    rw [bp_succ]
    omega
theorem ddig_dv {f g : Nat → Nat} {n : Nat} (hf : fok f n) (hg : fok g n) (h : fv g n ≤ fv f n) : fv (ddig f g) n = fv f n - fv g n := by
  have h1 := diff_inv hf hg n (Nat.le_refl _)
  have h2 := fv_lt (ddig_ok hf hg)
  have h3 : bor f g n = 0 ∨ bor f g n = 1 := by have := bor_le f g n; omega
  rcases h3 with e | e
  · rw [e] at h1; omega
  · rw [e, Nat.one_mul] at h1; omega
end Go.Proofs.YtmibifmabkaakaaDoor
