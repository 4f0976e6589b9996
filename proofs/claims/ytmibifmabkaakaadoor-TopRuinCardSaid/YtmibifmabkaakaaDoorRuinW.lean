/- The functions of package ruin that play a game, and the reference's, each walked once: what they return. No condition. -/
import Derived.Test.YtmibifmabkaakaaDoorBase
namespace Go.Proofs.YtmibifmabkaakaaDoor
open Go.ChangeShapes Go.WideShapes Go.ChangeAt Go.RowKit

def play (top : Int) : Int → Nat → List Bool → Int × Nat × Int
  | h, n, [] => if h = 0 ∨ h = top then (h, n, 0) else (0, 0, 7)
  | h, n, b :: t => if h = 0 ∨ h = top then (h, n, 0) else play top (if b then h + 1 else h - 1) (n + 1) t

theorem play_end (top h : Int) (n : Nat) (t : List Bool) (e : h = 0 ∨ h = top) : play top h n t = (h, n, 0) := by
  cases t <;> simp [play, e]
theorem play_no (top h : Int) (n : Nat) (e : ¬ (h = 0 ∨ h = top)) : play top h n [] = (0, 0, 7) := by simp only [play, if_neg e]
theorem play_step (top h : Int) (n : Nat) (b : Bool) (t : List Bool) (e : ¬ (h = 0 ∨ h = top)) : play top h n (b :: t) = play top (if b then h + 1 else h - 1) (n + 1) t := by
  rw [play, if_neg e]

abbrev playV (r : Int × Nat × Int) : Value := .tuple #[.int .i64 r.1, .int .i64 r.2.1, .int .i64 r.2.2]

theorem playV_mk {r : Int × Nat × Int} {a : Int} {b : Nat} {c : Int} (h : r = (a, b, c)) : Ending.returned (.tuple #[.int .i64 a, .int .i64 (b : Int), .int .i64 c]) = .returned (playV r) := by subst h; rfl

theorem mul_bd (a b : Int) (h1 : 0 ≤ a) (h2 : a ≤ 400) (h3 : 0 ≤ b) (h4 : b ≤ 400) : 0 ≤ a * b ∧ a * b ≤ 160000 := by
  refine ⟨Int.mul_nonneg h1 h3, ?_⟩
  have := Int.mul_le_mul h2 h4 h3 (by omega : (0 : Int) ≤ 400)
  omega

set_option maxHeartbeats 400000 in
theorem play_ok (top has : Int) (A : Option Addr) (bs : List Bool) (c B : Nat) (w : World) (h1 : 1 ≤ top) (h2 : top ≤ 400) (h3 : 0 ≤ has) (h4 : has ≤ top)
    (hs : Seg w B A (bs.map .bool)) (hm : bs.length ≤ 9223372036854775807) :
    Calls Tryd.prog 20 #[.int .i64 top, .int .i64 has, .slice A bs.length c] w fun e w' => e = .returned (playV (play top has 0 bs)) ∧ w = w' := by
  go_enter Tryd.func20, Tryd.ntmps20
  go_wp2
  go_loop [1, 28] (fun hv i => ∃ (k : Nat) (h : Int), k ≤ bs.length ∧ 0 ≤ h ∧ h ≤ top ∧ hv = .int .i64 h ∧ i = .int .i64 k ∧ Hid (play top has 0 bs = play top h k (bs.drop k))) (fun _ i => bs.length - (intOf i).toNat)
  case atStart => exact ⟨0, has, Nat.zero_le _, h3, h4, rfl, rfl, rfl⟩
  case round =>
    obtain ⟨k, h, hk, hh0, hh1, rfl, rfl, hp⟩ := hrel
    by_cases hlt : k < bs.length
    · have hd : Hid (bs.drop k = bs[k] :: bs.drop (k + 1)) := (List.getElem_cons_drop hlt).symm
      obtain ⟨ad, rfl, hab, hc⟩ := hs.bool hlt
      generalize bs[k] = b at hc hd
      by_cases e : h = 0
      · have b1 : (h == 0) = true := beq_iff_eq.2 e
        have he := Lib.hid e
        clear e
        go_wp2
        go_ret3
        exact ⟨playV_mk (by rw [hp.out, play_end _ _ _ _ (.inl he.out), he.out]), rfl⟩
      · have b1 : (h == 0) = false := beq_eq_false_iff_ne.2 e
        by_cases e2 : h = top
        · have b2 : (h == top) = true := beq_iff_eq.2 e2
          have he := Lib.hid e2
          clear e2
          go_wp2
          go_ret3
          exact ⟨playV_mk (by rw [hp.out, play_end _ _ _ _ (.inr he.out), he.out]), rfl⟩
        · have b2 : (h == top) = false := beq_eq_false_iff_ne.2 e2
          cases b
          · go_wp2
            go_round
            case rel => exact ⟨k + 1, h - 1, by omega, by omega, by omega, by go_num, by go_num, by unfold Hid; rw [hp.out, hd.out, play_step _ _ _ _ _ (by omega)]; rfl⟩
            case measure => simp [intOf]; omega
          · go_wp2
            go_round
            case rel => exact ⟨k + 1, h + 1, by omega, by omega, by omega, by go_num, by go_num, by unfold Hid; rw [hp.out, hd.out, play_step _ _ _ _ _ (by omega)]; rfl⟩
            case measure => simp [intOf]; omega
    · have hd : Hid (bs.drop k = []) := List.drop_eq_nil_of_le (by omega)
      have hk' : Hid (k = bs.length) := by unfold Hid; omega
      by_cases e : h = 0
      · have b1 : (h == 0) = true := beq_iff_eq.2 e
        have he := Lib.hid e
        clear e
        go_wp2
        go_ret3
        exact ⟨playV_mk (by rw [hp.out, play_end _ _ _ _ (.inl he.out), he.out, hk'.out]), rfl⟩
      · have b1 : (h == 0) = false := beq_eq_false_iff_ne.2 e
        by_cases e2 : h = top
        · have b2 : (h == top) = true := beq_iff_eq.2 e2
          have he := Lib.hid e2
          clear e2
          go_wp2
          go_ret3
          exact ⟨playV_mk (by rw [hp.out, play_end _ _ _ _ (.inr he.out), he.out, hk'.out]), rfl⟩
        · have b2 : (h == top) = false := beq_eq_false_iff_ne.2 e2
          go_wp2
          go_ret3
          exact ⟨playV_mk (by rw [hp.out, hd.out, play_no _ _ _ (by omega)]), rfl⟩

theorem play_bad (top has : Int) (A : Option Addr) (n c : Nat) (w : World) (h : top < 1 ∨ 400 < top ∨ has < 0 ∨ top < has) :
    Calls Tryd.prog 20 #[.int .i64 top, .int .i64 has, .slice A n c] w fun e w' => e = .returned (playV (0, 0, 2)) ∧ w = w' := by
  by_cases a1 : top < 1
  · go_enter Tryd.func20, Tryd.ntmps20
    go_wp2
    go_ret3
    exact ⟨rfl, rfl⟩
  by_cases a2 : 400 < top
  · go_enter Tryd.func20, Tryd.ntmps20
    go_wp2
    go_ret3
    exact ⟨rfl, rfl⟩
  by_cases a3 : has < 0
  · go_enter Tryd.func20, Tryd.ntmps20
    go_wp2
    go_ret3
    exact ⟨rfl, rfl⟩
  have a4 : top < has := by omega
  go_enter Tryd.func20, Tryd.ntmps20
  go_wp2
  go_ret3
  exact ⟨rfl, rfl⟩

theorem sq_eq (a b : Int) : a * b - b * b = b * (a - b) := by
  rw [Int.mul_sub, Int.mul_comm a b]

end Go.Proofs.YtmibifmabkaakaaDoor
