/- Plays over all tapes of one length, counted: plain. No condition. -/
import Derived.Test.YtmibifmabkaakaaDoorRuiE
import Derived.Test.YtmibifmabkaakaaDoorRuinW
import Derived.Test.YtmibifmabkaakaaDoorWalI
namespace Go.Proofs.YtmibifmabkaakaaDoor

def bitsN (x : Nat) : Nat → List Bool
  | 0 => []
  | m + 1 => (x % 2 == 1) :: bitsN (x / 2) m
theorem bitsN_len : ∀ (m x : Nat), (bitsN x m).length = m
  | 0, _ => rfl
  | m + 1, x => by rw [bitsN, List.length_cons, bitsN_len m]
theorem bitsN_at : ∀ (m x k : Nat), k < m → (bitsN x m)[k]? = some (x / 2 ^ k % 2 == 1)
  | 0, _, _, h => absurd h (Nat.not_lt_zero _)
  | m + 1, x, 0, _ => by rw [bitsN, Nat.pow_zero, Nat.div_one]; rfl
  | m + 1, x, k + 1, h => by
    rw [bitsN, List.getElem?_cons_succ, bitsN_at m (x / 2) k (by omega), Nat.div_div_eq_div_mul, Nat.pow_succ, Nat.mul_comm]
def winG (top h : Int) (n m x : Nat) : Bool := decide (play top h n (bitsN x m) = (top, n + m, 0))
def cntB (f : Nat → Bool) : Nat → Nat
  | 0 => 0
  | x + 1 => cntB f x + if f x then 1 else 0
theorem cntB_two (f : Nat → Bool) : ∀ n, cntB f (2 * n) = cntB (fun y => f (2 * y)) n + cntB (fun y => f (2 * y + 1)) n
  | 0 => rfl
  | n + 1 => by
    rw [show 2 * (n + 1) = 2 * n + 1 + 1 by omega, cntB, cntB, cntB_two f n, cntB, cntB]
    omega
theorem cntB_no {f : Nat → Bool} : ∀ n, (∀ x, f x = false) → cntB f n = 0
  | 0, _ => rfl
  | n + 1, h => by rw [cntB, cntB_no n h, h n]; rfl
theorem cntB_le (f : Nat → Bool) : ∀ n, cntB f n ≤ n
  | 0 => Nat.le_refl _
  | n + 1 => by have := cntB_le f n; rw [cntB]; split <;> omega
def winW (top : Int) : Int → Nat → Nat
  | h, 0 => if h = top then 1 else 0
  | h, m + 1 => if h = 0 ∨ h = top then 0 else winW top (h - 1) m + winW top (h + 1) m
theorem win_count (top : Int) (ht : 2 ≤ top) : ∀ (m : Nat) (h : Int) (n : Nat), cntB (winG top h n m) (2 ^ m) = winW top h m
  | 0, h, n => by
    show 0 + (if winG top h n 0 0 = true then 1 else 0) = _
    unfold winG winW
    simp only [bitsN, play, decide_eq_true_eq]
    by_cases h1 : h = top
    · subst h1; simp
    · by_cases h0 : h = 0
      · subst h0; first | (simp [h1]; done) | (simp [h1]; omega) | (simp; omega)
      · simp [h0, h1]
  | m + 1, h, n => by
    by_cases hh : h = 0 ∨ h = top
    · rw [winW, if_pos hh]
      refine cntB_no _ fun x => decide_eq_false ?_
      rw [play_end top h n _ hh]
      intro e
      injection e with _ e
      injection e with e _
      omega
    · rw [winW, if_neg hh, Nat.pow_succ, Nat.mul_comm, cntB_two]
      have e0 : ∀ y, winG top h n (m + 1) (2 * y) = winG top (h - 1) (n + 1) m y := fun y => by
        unfold winG
        rw [bitsN, play, if_neg hh, show 2 * y % 2 = 0 by omega, show 2 * y / 2 = y by omega, show n + (m + 1) = n + 1 + m by omega]
        rfl
      have e1 : ∀ y, winG top h n (m + 1) (2 * y + 1) = winG top (h + 1) (n + 1) m y := fun y => by
        unfold winG
        rw [bitsN, play, if_neg hh, show (2 * y + 1) % 2 = 1 by omega, show (2 * y + 1) / 2 = y by omega, show n + (m + 1) = n + 1 + m by omega]
        rfl
      rw [show (fun y => winG top h n (m + 1) (2 * y)) = winG top (h - 1) (n + 1) m from funext e0, show (fun y => winG top h n (m + 1) (2 * y + 1)) = winG top (h + 1) (n + 1) m from funext e1, win_count top ht m, win_count top ht m]
def sumR (top has : Int) : Nat → Int
  | 0 => 0
  | m + 1 => 2 * sumR top has m + wN (mIn top) has m (top - 1)
def ruinB (top has : Nat) : Bool :=
  ((List.range 10).all fun m => decide ((winW top has (m + 1) : Int) = wN (mIn top) has m (top - 1)) && !wrB m [(has : Int), (top : Int) - 1, (top : Int)]) &&
  ((List.range 11).all fun n => decide (0 ≤ sumR top has n) && decide (sumR top has n ≤ 1024) && decide (sumR top has n * (wellV 1 1 top has).1.2 ≤ (wellV 1 1 top has).1.1 * 2 ^ n)) &&
  decide ((wellV 1 1 top has).2 = 0) && decide (0 ≤ (wellV 1 1 top has).1.1 ∧ (wellV 1 1 top has).1.1 ≤ 100 ∧ 0 ≤ (wellV 1 1 top has).1.2 ∧ (wellV 1 1 top has).1.2 ≤ 100)
theorem ruin_all : ((List.range 9).all fun top => (List.range 8).all fun has => !(decide (2 ≤ top) && decide (1 ≤ has) && decide (has < top)) || ruinB top has) = true := by decide +kernel
theorem ruin_at {top has : Nat} (h1 : 2 ≤ top) (h2 : top ≤ 8) (h3 : 1 ≤ has) (h4 : has < top) : ruinB top has = true := by
  have h := List.all_eq_true.1 (List.all_eq_true.1 ruin_all top (List.mem_range.2 (by omega))) has (List.mem_range.2 (by omega))
  rw [decide_eq_true h1, decide_eq_true h3, decide_eq_true h4] at h
  simpa using h
theorem ruin_facts {top has : Nat} (h1 : 2 ≤ top) (h2 : top ≤ 8) (h3 : 1 ≤ has) (h4 : has < top) :
    (∀ m, m < 10 → (cntB (winG top has 0 (m + 1)) (2 ^ (m + 1)) : Int) = wN (mIn top) has m (top - 1) ∧ wrB m [(has : Int), (top : Int) - 1, (top : Int)] = false) ∧
    (∀ n, n ≤ 10 → 0 ≤ sumR top has n ∧ sumR top has n ≤ 1024 ∧ sumR top has n * (wellV 1 1 top has).1.2 ≤ (wellV 1 1 top has).1.1 * 2 ^ n) ∧
    (wellV 1 1 top has).2 = 0 ∧ 0 ≤ (wellV 1 1 top has).1.1 ∧ (wellV 1 1 top has).1.1 ≤ 100 ∧ 0 ≤ (wellV 1 1 top has).1.2 ∧ (wellV 1 1 top has).1.2 ≤ 100 := by
  have h := ruin_at h1 h2 h3 h4
  unfold ruinB at h
  simp only [Bool.and_eq_true, decide_eq_true_eq] at h
  obtain ⟨⟨⟨a, b⟩, c⟩, d⟩ := h
  refine ⟨fun m hm => ?_, fun n hn => ?_, c, d⟩
  · have g := List.all_eq_true.1 a m (List.mem_range.2 hm)
    simp only [Bool.and_eq_true, decide_eq_true_eq, Bool.not_eq_true'] at g
    rw [win_count _ (by omega)]
    exact g
  · have g := List.all_eq_true.1 b n (List.mem_range.2 (by omega))
    simp only [Bool.and_eq_true, decide_eq_true_eq] at g
    exact ⟨g.1.1, g.1.2, g.2⟩
end Go.Proofs.YtmibifmabkaakaaDoor
