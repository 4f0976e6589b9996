/- Sums of weights of package pps, and the reference's, walked. No condition. -/
import Derived.Test.YtmibifmabkaakaaDoorBase
namespace Go.Proofs.YtmibifmabkaakaaDoor
open Go.ChangeShapes Go.WideShapes Go.ChangeAt Go.RowKit

/-- Each weight fits. -/
def wok (zs : List Int) : Prop := ∀ x ∈ zs, 0 ≤ x ∧ x ≤ 1048576
theorem take_sum (zs : List Int) (k : Nat) (h : k < zs.length) : (zs.take (k + 1)).sum = (zs.take k).sum + zs[k] := by
  rw [List.take_succ_eq_append_getElem h, List.sum_append]; simp
theorem wok_take (zs : List Int) (k : Nat) (h : k < zs.length) : wok (zs.take (k + 1)) ↔ wok (zs.take k) ∧ 0 ≤ zs[k] ∧ zs[k] ≤ 1048576 := by
  unfold wok
  rw [List.take_succ_eq_append_getElem h]
  constructor
  · intro a
    exact ⟨fun x hx => a x (List.mem_append.2 (Or.inl hx)), a _ (List.mem_append.2 (Or.inr (List.mem_singleton.2 rfl)))⟩
  · rintro ⟨a, b⟩ x hx
    rw [List.mem_append] at hx
    rcases hx with hx | hx
    · exact a x hx
    · simp at hx; subst hx; exact b
theorem wok_sum (zs : List Int) (h : wok zs) : 0 ≤ zs.sum ∧ zs.sum ≤ 1048576 * zs.length := by
  induction zs with
  | nil => simp
  | cons z zs ih =>
    have h1 := h z (by simp)
    have h2 := ih fun x hx => h x (by simp [hx])
    simp only [List.sum_cons, List.length_cons]
    omega
instance (zs : List Int) : Decidable (wok zs) := by unfold wok; infer_instance

/-- What all weights together are, and what is wrong. -/
def psum (zs : List Int) (many : Int) : Int × Int :=
  if zs.length ≤ 400 ∧ 1 ≤ many ∧ many ≤ 400 ∧ wok zs then (if zs.sum = 0 then (0, 3) else (zs.sum, 0)) else (0, 2)
theorem ret_psum {a b : Int} {r : Int × Int} (h : r = (a, b)) : Ending.returned (.tuple #[.int .i64 a, .int .i64 b]) = .returned (.tuple #[.int .i64 r.1, .int .i64 r.2]) := by rw [h]

set_option maxHeartbeats 400000 in
theorem psum_any (A : Option Addr) (zs : List Int) (c B : Nat) (many : Int) (w : World) (hs : Seg w B A (zs.map (.int .i64))) :
    Calls Tryd.prog 70 #[.slice A zs.length c, .int .i64 many] w fun e w' => e = .returned (.tuple #[.int .i64 (psum zs many).1, .int .i64 (psum zs many).2]) ∧ w = w' := by
  by_cases h1 : 400 < zs.length
  · have hf : Hid (psum zs many = (0, 2)) := by unfold Hid psum; rw [if_neg (by omega)]
    go_enter Tryd.func70, Tryd.ntmps70
    go_wp2
    go_ret2
    exact ⟨ret_psum hf.out, rfl⟩
  by_cases h2 : many < 1
  · have hf : Hid (psum zs many = (0, 2)) := by unfold Hid psum; rw [if_neg (by omega)]
    go_enter Tryd.func70, Tryd.ntmps70
    go_wp2
    go_ret2
    exact ⟨ret_psum hf.out, rfl⟩
  by_cases h3 : 400 < many
  · have hf : Hid (psum zs many = (0, 2)) := by unfold Hid psum; rw [if_neg (by omega)]
    go_enter Tryd.func70, Tryd.ntmps70
    go_wp2
    go_ret2
    exact ⟨ret_psum hf.out, rfl⟩
  go_enter Tryd.func70, Tryd.ntmps70
  go_wp2
  go_loop [6, 22] (fun s i => ∃ k : Nat, k ≤ zs.length ∧ i = .int .i64 k ∧ s = .int .i64 (zs.take k).sum ∧ Hid (wok (zs.take k))) (fun _ i => zs.length - (intOf i).toNat)
  case atStart => exact ⟨0, Nat.zero_le _, rfl, rfl, by unfold Hid wok; simp⟩
  case round =>
    obtain ⟨k, hk, rfl, rfl, hw⟩ := hrel
    by_cases hlt : k < zs.length
    · obtain ⟨ad, rfl, _, hc⟩ := hs.int hlt
      have hsum := Lib.hid (take_sum zs k hlt)
      have hwt := Lib.hid (wok_take zs k hlt)
      obtain ⟨b1, b2⟩ := wok_sum _ hw.out
      have b3 : (zs.take k).length ≤ 400 := by rw [List.length_take]; omega
      have b4 : (zs.take k).sum ≤ 419430400 := by omega
      clear b2 b3
      by_cases c1 : zs[k] < 0
      · have hf : Hid (psum zs many = (0, 2)) := by
          unfold Hid psum
          rw [if_neg]
          rintro ⟨_, _, _, hall⟩
          have := hall zs[k] (List.getElem_mem hlt)
          omega
        generalize zs[k] = z at *
        go_wp2
        go_ret2
        exact ⟨ret_psum hf.out, rfl⟩
      by_cases c2 : 1048576 < zs[k]
      · have hf : Hid (psum zs many = (0, 2)) := by
          unfold Hid psum
          rw [if_neg]
          rintro ⟨_, _, _, hall⟩
          have := hall zs[k] (List.getElem_mem hlt)
          omega
        generalize zs[k] = z at *
        go_wp2
        go_ret2
        exact ⟨ret_psum hf.out, rfl⟩
      have hw2 : Hid (wok (zs.take (k + 1))) := hwt.out.2 ⟨hw.out, by omega, by omega⟩
      have c3 : 0 ≤ zs[k] := by omega
      have c4 : zs[k] ≤ 1048576 := by omega
      clear hwt c1 c2
      generalize zs[k] = z at *
      go_wp2
      go_round
      case rel => exact ⟨k + 1, by omega, by go_num, by rw [hsum.out], hw2⟩
      case measure => simp [intOf]; omega
    · have hkl : Hid (k = zs.length) := by unfold Hid; omega
      have htk : Hid (zs.take k = zs) := List.take_of_length_le (by omega)
      have hwz : Hid (wok zs) := by have := hw.out; rw [htk.out] at this; exact this
      by_cases hz : zs.sum = 0
      · have hf : Hid (psum zs many = (0, 3)) := by unfold Hid psum; rw [if_pos ⟨by omega, by omega, by omega, hwz.out⟩, if_pos hz]
        have hb : (((zs.take k).sum) == 0) = true := by rw [htk.out]; simp [hz]
        clear hz
        go_wp2
        go_ret2
        exact ⟨ret_psum hf.out, rfl⟩
      · have hf : Hid (psum zs many = (zs.sum, 0)) := by unfold Hid psum; rw [if_pos ⟨by omega, by omega, by omega, hwz.out⟩, if_neg hz]
        have hb : (((zs.take k).sum) == 0) = false := by rw [htk.out]; simpa using hz
        clear hz
        go_wp2
        go_ret2
        exact ⟨ret_psum (by rw [hf.out, htk.out]), rfl⟩

end Go.Proofs.YtmibifmabkaakaaDoor
