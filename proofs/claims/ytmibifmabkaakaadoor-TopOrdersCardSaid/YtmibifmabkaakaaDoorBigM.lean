/- Plain facts on numbers of many digits of 32 bits; nothing of the program. No condition. -/
import Derived.Lib.Hide
namespace Go.Proofs.YtmibifmabkaakaaDoor

/-- 2 to the 32, so many times. -/
def bp (n : Nat) : Nat := 4294967296 ^ n
theorem bp_zero : bp 0 = 1 := rfl
theorem bp_succ (n : Nat) : bp (n + 1) = bp n * 4294967296 := by unfold bp; exact Nat.pow_succ ..
theorem bp_pos (n : Nat) : 0 < bp n := Nat.pow_pos (by decide)
theorem bp_add (a b : Nat) : bp (a + b) = bp a * bp b := Nat.pow_add ..
theorem bp_one : bp 1 = 4294967296 := rfl
theorem bp_le {a b : Nat} (h : a ≤ b) : bp a ≤ bp b := Nat.pow_le_pow_right (by decide) h

/-- What the first n digits of g are together. -/
def fv (g : Nat → Nat) : Nat → Nat
  | 0 => 0
  | n + 1 => fv g n + g n * bp n
def fok (g : Nat → Nat) (n : Nat) : Prop := ∀ i, i < n → g i < 4294967296
theorem fok.mono {g : Nat → Nat} {n m : Nat} (h : fok g n) (hm : m ≤ n) : fok g m := fun i hi => h i (by omega)
theorem fv_lt {g : Nat → Nat} {n : Nat} (h : fok g n) : fv g n < bp n := by
  induction n with
  | zero => simp [fv, bp]
  | succ n ih =>
    have h1 := ih (h.mono (by omega))
    have h2 := h n (by omega)
    have h3 : (g n + 1) * bp n ≤ 4294967296 * bp n := Nat.mul_le_mul_right _ h2
    rw [Nat.add_mul, Nat.one_mul] at h3
    rw [bp_succ, Nat.mul_comm (bp n)]
    unfold fv
    omega
theorem fv_congr {g f : Nat → Nat} {n : Nat} (h : ∀ i, i < n → g i = f i) : fv g n = fv f n := by
  induction n with
  | zero => rfl
  | succ n ih =>
    unfold fv
    rw [ih fun i hi => h i (by omega), h n (by omega)]
theorem fv_add (g : Nat → Nat) (k n : Nat) : fv g (k + n) = fv g k + bp k * fv (fun i => g (k + i)) n := by
  induction n with
  | zero => simp [fv]
  | succ n ih =>
    show fv g (k + n) + g (k + n) * bp (k + n) = _
    rw [ih]
    show _ = fv g k + bp k * (fv (fun i => g (k + i)) n + g (k + n) * bp n)
    rw [Nat.mul_add, bp_add, ← Nat.add_assoc, Nat.mul_left_comm]
theorem fv_zero {g : Nat → Nat} {n : Nat} (h : ∀ i, i < n → g i = 0) : fv g n = 0 := by
  induction n with
  | zero => rfl
  | succ n ih => unfold fv; rw [ih fun i hi => h i (by omega), h n (by omega)]; simp
theorem fv_mono (g : Nat → Nat) {n m : Nat} (h : n ≤ m) : fv g n ≤ fv g m := by
  obtain ⟨d, rfl⟩ := Nat.exists_eq_add_of_le h
  rw [fv_add]; omega
theorem fv_top {g : Nat → Nat} {n : Nat} (h : g n ≠ 0) : bp n ≤ fv g (n + 1) := by
  unfold fv
  have : 1 * bp n ≤ g n * bp n := Nat.mul_le_mul_right _ (by omega)
  omega
theorem fv_cut {g : Nat → Nat} {n : Nat} (k : Nat) (h : ∀ i, k ≤ i → i < n → g i = 0) (hk : k ≤ n) : fv g n = fv g k := by
  obtain ⟨d, rfl⟩ := Nat.exists_eq_add_of_le hk
  have e : fv (fun i => g (k + i)) d = 0 := fv_zero fun i hi => h (k + i) (by omega) (by omega)
  rw [fv_add, e]; simp
/-- Two numbers of one length are told by their greatest digits that differ. -/
theorem fv_less {g f : Nat → Nat} {k n : Nat} (hk : k < n) (hg : fok g n) (h : ∀ i, k < i → i < n → g i = f i) (hl : g k < f k) : fv g n < fv f n := by
  obtain ⟨d, rfl⟩ : ∃ d, n = k + 1 + d := ⟨n - (k + 1), by omega⟩
  rw [fv_add g (k + 1) d, fv_add f (k + 1) d]
  have e : fv (fun i => g (k + 1 + i)) d = fv (fun i => f (k + 1 + i)) d := fv_congr fun i hi => h _ (by omega) (by omega)
  rw [e]
  have h1 : fv g (k + 1) < fv f (k + 1) := by
    unfold fv
    have := fv_lt (hg.mono (m := k) (by omega))
    have h3 : (g k + 1) * bp k ≤ f k * bp k := Nat.mul_le_mul_right _ hl
    rw [Nat.add_mul, Nat.one_mul] at h3
    omega
  omega
theorem fv_upd {g f : Nat → Nat} {k n : Nat} (hk : k < n) (h : ∀ i, i < n → i ≠ k → f i = g i) : fv f n + g k * bp k = fv g n + f k * bp k := by
  induction n with
  | zero => omega
  | succ n ih =>
    unfold fv
    by_cases e : k = n
    · subst e
      rw [fv_congr (g := f) (f := g) fun i hi => h i (by omega) (by omega)]
      omega
    · have := ih (by omega) fun i hi hne => h i (by omega) hne
      rw [h n (by omega) (by omega)]
      omega

/-! ### lists of digits -/
def gd (zs : List Nat) (i : Nat) : Nat := zs.getD i 0
theorem gd_lt {zs : List Nat} {i : Nat} (h : i < zs.length) : gd zs i = zs[i] := by simp [gd, List.getD, h]
theorem gd_ge {zs : List Nat} {i : Nat} (h : zs.length ≤ i) : gd zs i = 0 := by simp [gd, List.getD, h]
def dok (zs : List Nat) : Prop := fok (gd zs) zs.length
def dv (zs : List Nat) : Nat := fv (gd zs) zs.length
/-- Digits without noughts at the end. -/
def dnorm (zs : List Nat) : Prop := 0 < zs.length → gd zs (zs.length - 1) ≠ 0
theorem gd_lt32 {zs : List Nat} (h : dok zs) (i : Nat) : gd zs i < 4294967296 := by
  by_cases hi : i < zs.length
  · exact h i hi
  · rw [gd_ge (by omega)]; decide
theorem dv_lt {zs : List Nat} (h : dok zs) : dv zs < bp zs.length := fv_lt h
theorem dv_ge {zs : List Nat} (h : dnorm zs) (h0 : 0 < zs.length) : bp (zs.length - 1) ≤ dv zs := by
  have := fv_top (g := gd zs) (n := zs.length - 1) (h h0)
  rwa [show zs.length - 1 + 1 = zs.length by omega] at this
theorem dv_nil : dv [] = 0 := rfl
theorem dv_zero {zs : List Nat} (h : dnorm zs) : dv zs = 0 ↔ zs.length = 0 := by
  constructor
  · intro e
    by_cases h0 : 0 < zs.length
    · have := dv_ge h h0
      have := bp_pos (zs.length - 1)
      omega
    · omega
  · intro e
    unfold dv; rw [e]; rfl
theorem bp_len {a b : Nat} (h : bp a < bp b) : a < b := by
  rcases Nat.lt_or_ge a b with hlt | hge
  · exact hlt
  · have := bp_le hge; omega
theorem len_le {zs : List Nat} (h : dnorm zs) {n : Nat} (hv : dv zs < bp n) : zs.length ≤ n := by
  by_cases h0 : 0 < zs.length
  · have h1 := dv_ge h h0
    have := bp_len (Nat.lt_of_le_of_lt h1 hv)
    omega
  · omega
theorem dv_fv {zs : List Nat} {n : Nat} (h : zs.length ≤ n) : fv (gd zs) n = dv zs := fv_cut _ (fun _ hi _ => gd_ge hi) h
theorem dv_of (g : Nat → Nat) (n : Nat) (zs : List Nat) (hl : zs.length = n) (h : ∀ i, i < n → gd zs i = g i) : dv zs = fv g n := by
  unfold dv; rw [hl]; exact fv_congr h
theorem dv_len_lt {xs ys : List Nat} (hx : dok xs) (hy : dnorm ys) (h : xs.length < ys.length) : dv xs < dv ys := by
  have h1 := dv_lt hx
  have h2 := dv_ge hy (by omega)
  have h3 := bp_le (show xs.length ≤ ys.length - 1 by omega)
  omega
/-- Digits from a function. -/
def fl (g : Nat → Nat) (n : Nat) : List Nat := (List.range n).map g
theorem fl_len (g : Nat → Nat) (n : Nat) : (fl g n).length = n := by simp [fl]
theorem gd_fl (g : Nat → Nat) {n i : Nat} (h : i < n) : gd (fl g n) i = g i := by
  rw [gd_lt (by simp [fl]; exact h)]; simp [fl]
theorem dv_fl (g : Nat → Nat) (n : Nat) : dv (fl g n) = fv g n := dv_of g n _ (fl_len g n) fun _ hi => gd_fl g hi
theorem dok_fl {g : Nat → Nat} {n : Nat} (h : fok g n) : dok (fl g n) := fun i hi => by
  rw [fl_len] at hi
  rw [gd_fl g hi]; exact h i hi
theorem dok_take {zs : List Nat} (h : dok zs) (k : Nat) : dok (zs.take k) := fun i hi => by
  have : i < zs.length := by rw [List.length_take] at hi; omega
  have := h i this
  rw [gd_lt (by assumption)] at this
  rw [gd_lt hi]
  simpa using this
theorem gd_take {zs : List Nat} {k i : Nat} (h : i < k) (hk : k ≤ zs.length) : gd (zs.take k) i = gd zs i := by
  rw [gd_lt (by rw [List.length_take]; omega), gd_lt (by omega)]; simp

/-! ### the division -/
section
variable {P v1 v2 V2 top u2 W2 V W : Nat}
/-- The first guess is not too small. -/
theorem guess_ge (hP : 0 < P) (hv : 0 < v1) (hV : V = (v1 * 4294967296 + v2) * P + V2) (hW : W = (top * 4294967296 + u2) * P + W2) (hu : u2 < 4294967296) (hW2 : W2 < P) : W / V ≤ top / v1 := by
  have hVp : 0 < V := by
    have : 0 < (v1 * 4294967296 + v2) * P := Nat.mul_pos (by omega) hP
    omega
  have h1 : W / V * V ≤ W := Nat.div_mul_le_self _ _
  have h2 : v1 * 4294967296 * P ≤ V := by
    rw [hV]
    have := Nat.mul_le_mul_right P (show v1 * 4294967296 ≤ v1 * 4294967296 + v2 by omega)
    omega
  have h3 : W / V * (v1 * 4294967296 * P) ≤ W := Nat.le_trans (Nat.mul_le_mul_left _ h2) h1
  have h4 : W < ((top + 1) * 4294967296) * P := by
    have h5 : (top * 4294967296 + u2 + 1) * P ≤ ((top + 1) * 4294967296) * P := Nat.mul_le_mul_right _ (by omega)
    rw [Nat.add_mul (top * 4294967296 + u2), Nat.one_mul] at h5
    omega
  have h6 : (W / V * v1 * 4294967296) * P < ((top + 1) * 4294967296) * P := by
    have e : W / V * (v1 * 4294967296 * P) = (W / V * v1 * 4294967296) * P := by simp only [Nat.mul_assoc]
    omega
  have h7 := Nat.lt_of_mul_lt_mul_right h6
  have h8 : W / V * v1 ≤ top := by omega
  exact (Nat.le_div_iff_mul_le hv).2 h8
/-- A guess that the next digits tell is too great is too great. -/
theorem guess_gt {q r : Nat} (hV : V = (v1 * 4294967296 + v2) * P + V2) (hW : W = (top * 4294967296 + u2) * P + W2) (hW2 : W2 < P)
    (hr : q * v1 + r = top) (h : r * 4294967296 + u2 < q * v2) : W / V < q := by
  rcases Nat.lt_or_ge (W / V) q with hlt | hge
  · exact hlt
  · exfalso
    have h1 : W / V * V ≤ W := Nat.div_mul_le_self _ _
    have h2 : q * V ≤ W := Nat.le_trans (Nat.mul_le_mul_right _ hge) h1
    have h3 : q * ((v1 * 4294967296 + v2) * P) ≤ q * V := Nat.mul_le_mul_left _ (by omega)
    have h4 : (q * (v1 * 4294967296 + v2)) * P < (top * 4294967296 + u2 + 1) * P := by
      rw [Nat.add_mul (top * 4294967296 + u2), Nat.one_mul, Nat.mul_assoc]
      omega
    have h5 := Nat.lt_of_mul_lt_mul_right h4
    rw [Nat.mul_add, ← Nat.mul_assoc] at h5
    omega
/-- A guess that the next digits let pass is at most one too great. -/
theorem guess_le {q r : Nat} (hP : 0 < P) (hv : 0 < v1) (hV : V = (v1 * 4294967296 + v2) * P + V2) (hV2 : V2 < P) (hW : W = (top * 4294967296 + u2) * P + W2)
    (hr : q * v1 + r = top) (hq : q < 4294967296) (h : q * v2 ≤ r * 4294967296 + u2) : q * V < W + V := by
  have h1 : q * (v1 * 4294967296 + v2) ≤ top * 4294967296 + u2 := by
    rw [Nat.mul_add, ← Nat.mul_assoc]
    omega
  have h2 : (q * (v1 * 4294967296 + v2)) * P ≤ W := by
    have := Nat.mul_le_mul_right P h1
    omega
  have h3 : q * V = (q * (v1 * 4294967296 + v2)) * P + q * V2 := by rw [hV, Nat.mul_add, Nat.mul_assoc]
  have h4 : q * V2 ≤ q * P := Nat.mul_le_mul_left _ (by omega)
  have h5 : q * P < 4294967296 * P := Nat.mul_lt_mul_of_pos_right hq hP
  have h6 : 4294967296 * P ≤ V := by
    have : 4294967296 * P ≤ (v1 * 4294967296 + v2) * P := Nat.mul_le_mul_right _ (by omega)
    omega
  omega
end
end Go.Proofs.YtmibifmabkaakaaDoor
