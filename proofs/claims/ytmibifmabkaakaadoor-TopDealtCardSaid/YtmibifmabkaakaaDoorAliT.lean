/- Draws by places and levels: slices of pairs; one draw, walked; slices.Equal at pairs, walked. No condition. -/
import Derived.Test.YtmibifmabkaakaaDoorAliS
namespace Go.Proofs.YtmibifmabkaakaaDoor
open Go.ChangeShapes Go.WideShapes Go.ChangeAt Go.RowKit
set_option linter.unusedVariables false

/-- The cells of pairs. -/
def flat : List (Int × Int) → List Value
  | [] => []
  | p :: ps => .int .i64 p.1 :: .int .i64 p.2 :: flat ps
theorem flat_len (ps : List (Int × Int)) : (flat ps).length = ps.length * 2 := by
  induction ps with
  | nil => rfl
  | cons p ps ih => simp only [flat, List.length_cons, ih]; omega
def prat (ps : List (Int × Int)) (i : Nat) : Int × Int := ps.getD i (0, 0)
theorem flat_at (ps : List (Int × Int)) : ∀ i, i < ps.length → (flat ps)[i * 2]? = some (.int .i64 (prat ps i).1) ∧ (flat ps)[i * 2 + 1]? = some (.int .i64 (prat ps i).2) := by
  induction ps with
  | nil => intro i h; simp at h
  | cons p ps ih =>
    intro i h
    cases i with
    | zero => exact ⟨rfl, rfl⟩
    | succ i =>
      have h2 := ih i (by simpa using h)
      rw [show (i + 1) * 2 = i * 2 + 1 + 1 by omega, show i * 2 + 1 + 1 + 1 = (i * 2 + 1) + 1 + 1 by omega]
      exact h2
theorem add_two (ad : Addr) (k : Nat) : (⟨(ad.add (k * 2)).block, (ad.add (k * 2)).off + 1, none⟩ : Addr) = ad.add (k * 2 + 1) := by
  unfold Addr.add
  rw [if_neg (show ¬ k * 2 + 1 = 0 by omega)]
  split
  · next h => rw [h]
  · rfl
theorem Seg.pair {w : World} {B : Nat} {A : Option Addr} {ps : List (Int × Int)} (h : Seg w B A (flat ps)) {k : Nat} (hk : k < ps.length) :
    ∃ ad, A = some ad ∧ ad.block < B ∧ w.cell? (ad.add (k * 2)) = some (.int .i64 (prat ps k).1) ∧ w.cell? ⟨(ad.add (k * 2)).block, (ad.add (k * 2)).off + 1, none⟩ = some (.int .i64 (prat ps k).2) := by
  obtain ⟨h1, h2⟩ := flat_at ps k hk
  obtain ⟨ad, ha, hb, hc⟩ := h.get h1
  obtain ⟨ae, he, _, hd⟩ := h.get h2
  rw [ha] at he
  injection he with he
  subst he
  exact ⟨ad, ha, hb, hc, by rw [add_two]; exact hd⟩
theorem flat_app (ps qs : List (Int × Int)) : flat (ps ++ qs) = flat ps ++ flat qs := by
  induction ps with
  | nil => rfl
  | cons p ps ih => simp only [flat, List.cons_append, ih]
/-- What Draw answers. -/
def adrawR (ps : List (Int × Int)) (p v : Int) : Int × Int := if 0 ≤ p ∧ p < ps.length then (if v < (prat ps p.toNat).1 then p else (prat ps p.toNat).2, 0) else (0, 3)

set_option maxRecDepth 20000 in
set_option maxHeartbeats 2000000 in
theorem adraw_any (ps : List (Int × Int)) (A : Option Addr) (c B : Nat) (p v : Int) (w : World) (hs : Seg w B A (flat ps)) (hm : ps.length ≤ 9223372036854775807) :
    Calls Tryd.prog 24 #[.slice A ps.length c, .int .i64 p, .int .i64 v] w fun e w' => e = S2 (adrawR ps p v) ∧ w = w' := by
  have HS := Lib.hid hs
  clear hs
  rcases (by omega : p < 0 ∨ (¬ p < 0 ∧ (ps.length : Int) ≤ p) ∨ (¬ p < 0 ∧ ¬ (ps.length : Int) ≤ p)) with h | ⟨h, h2⟩ | ⟨h, h2⟩
  · have HV : Hid (adrawR ps p v = (0, 3)) := if_neg (by omega)
    go_enter Tryd.func24, Tryd.ntmps24
    go_wp2_with fail
    go_ret2
    exact ⟨by rw [HV.out]; rfl, rfl⟩
  · have HV : Hid (adrawR ps p v = (0, 3)) := if_neg (by omega)
    go_enter Tryd.func24, Tryd.ntmps24
    go_wp2_with fail
    go_ret2
    exact ⟨by rw [HV.out]; rfl, rfl⟩
  · obtain ⟨k, rfl⟩ : ∃ k : Nat, p = k := ⟨p.toNat, by omega⟩
    have hk : k < ps.length := by omega
    have i1 : (k : Int) < (ps.length : Int) := by omega
    obtain ⟨ad, rfl, _, hc, hd⟩ := HS.out.pair hk
    have HV : Hid (adrawR ps k v = (if v < (prat ps k).1 then (k : Int) else (prat ps k).2, 0)) := by unfold adrawR Hid; rw [if_pos (by omega), Int.toNat_natCast]
    generalize (prat ps k).1 = x at *
    generalize (prat ps k).2 = y at *
    by_cases h3 : v < x
    · have HW : Hid (adrawR ps k v = ((k : Int), 0)) := by unfold Hid; rw [HV.out, if_pos h3]
      go_enter Tryd.func24, Tryd.ntmps24
      go_wp2_with fail
      go_ret2
      exact ⟨by rw [HW.out]; rfl, rfl⟩
    · have HW : Hid (adrawR ps k v = (y, 0)) := by unfold Hid; rw [HV.out, if_neg h3]
      go_enter Tryd.func24, Tryd.ntmps24
      go_wp2_with fail
      go_ret2
      exact ⟨by rw [HW.out]; rfl, rfl⟩

theorem take_step_prs (zs ys : List (Int × Int)) (j : Nat) (h1 : j < zs.length) (h2 : j < ys.length) (h : zs.take j = ys.take j) (e : prat zs j = prat ys j) : zs.take (j + 1) = ys.take (j + 1) := by
  have e1 : prat zs j = zs[j] := by simp [prat, h1]
  have e2 : prat ys j = ys[j] := by simp [prat, h2]
  rw [List.take_succ_eq_append_getElem h1, List.take_succ_eq_append_getElem h2, h, ← e1, ← e2, e]

end Go.Proofs.YtmibifmabkaakaaDoor
