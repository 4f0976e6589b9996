/- Numbers of words: trim, Right, word, fits, Of, compare, walked. No condition but that the words are words. -/
import Derived.Test.YtmibifmabkaakaaDoorNatM
import Derived.Test.YtmibifmabkaakaaDoorBase2
import Derived.BigQuiet
namespace Go.Proofs.YtmibifmabkaakaaDoor
open Go.ChangeShapes Go.WideShapes Go.ChangeAt Go.RowKit
set_option linter.unusedVariables false

abbrev u64v (n : Nat) : Value := .int .u64 (n : Int)
abbrev u64s (l : List Nat) : List Value := l.map u64v
theorem Seg.wo {w : World} {B : Nat} {A : Option Addr} {l : List Nat} (h : Seg w B A (u64s l)) {k : Nat} (hk : k < l.length) : ∃ ad, A = some ad ∧ ad.block < B ∧ w.cell? (ad.add k) = some (u64v (wo l k)) := by
  rw [wo_lt hk]; exact h.get (by simp [hk])
/-- s[:x] of a slice of words. -/
theorem slice_to64 {A : Option Addr} {n x c : Nat} (z : Int) (hz : z = x) (hx : x ≤ c) (u : World) : (Instr.slice 31 (.slice A n c) none (some (.int .i64 z)) none).run Tryd.prog u = .ok (.slice A x c) u := by
  subst hz
  have hu : Tryd.prog.underlying 31 = some (.slice (Tryd.prog.elem 31)) := by kernel_rfl
  have he : Tryd.prog.elem 31 = 34 := by kernel_rfl
  rw [run_slice_h u 31 A n c hu .i64 x (by omega) (by omega), he, Tryd.sizeOf34]
  cases A <;> simp [sliced, Result.andThen, Addr.add]
theorem slice_full64 {A : Option Addr} {n x c : Nat} (hx : x ≤ c) (u : World) : (Instr.slice 31 (.slice A n c) none (some (.int .i64 x)) (some (.int .i64 x))).run Tryd.prog u = .ok (.slice A x x) u := by
  have hu : Tryd.prog.underlying 31 = some (.slice (Tryd.prog.elem 31)) := by kernel_rfl
  have he : Tryd.prog.elem 31 = 34 := by kernel_rfl
  rw [run_slice_hm u 31 A n c hu .i64 .i64 x x (by omega) (by omega) (by omega), he, Tryd.sizeOf34]
  cases A <;> simp [sliced, Result.andThen, Addr.add]
set_option maxRecDepth 20000 in
set_option maxHeartbeats 1000000 in
theorem clip_any (A : Option Addr) (n c : Nat) (w : World) (hn : n ≤ c) :
    Calls Tryd.prog 88 #[.slice A n c] w fun e w' => e = .returned (.slice A n n) ∧ w' = w := by
  have hs := fun u => slice_full64 (A := A) (n := n) (x := n) (c := c) hn u
  clear hn
  go_enter Tryd.func88, Tryd.ntmps88
  go_wp2_with fail
  --LOOK1
  go_ret
  exact ⟨rfl, rfl⟩
set_option maxRecDepth 20000 in
set_option maxHeartbeats 1000000 in
theorem trim_words (A : Option Addr) (l : List Nat) (c B : Nat) (w : World) (hs : Seg w B A (u64s l)) (hl : l.length ≤ c) (hm : l.length ≤ 9223372036854775807) :
    Calls Tryd.prog 58 #[.slice A l.length c] w fun e w' => e = .returned (.slice A (wlen l l.length) (wlen l l.length)) ∧ ∃ m, w' = w.drewN m := by
  have HS := Lib.hid hs
  have HM := Lib.hid (And.intro hl hm)
  clear hs hl hm
  go_enter Tryd.func58, Tryd.ntmps58
  go_wp2_with fail
  go_loopw [0] (fun s0 wx => ∃ k m : Nat, k ≤ l.length ∧ s0 = .slice A k c ∧ Hid (wlen l k = wlen l l.length) ∧ wx = w.drewN m) (fun s0 _ => (match s0 with | .slice _ k _ => k | _ => 0))
  case atStart => exact ⟨l.length, 0, Nat.le_refl _, rfl, rfl, rfl⟩
  case round =>
    obtain ⟨k, m, hk, rfl, he, rfl⟩ := hrel
    cases k with
    | zero =>
      have e0 : Hid (wlen l l.length = 0) := by unfold Hid; rw [← he.out]; rfl
      clear he
      go_wp2_with fail
      refine (clip_any A 0 c _ (Nat.zero_le _)).mono ?_
      rintro e w1 ⟨rfl, rfl⟩
      go_wp2_with fail
      go_ret
      exact ⟨by rw [e0.out]; rfl, m, rfl⟩
    | succ k =>
      obtain ⟨ad, rfl, hb, hc⟩ := HS.out.wo (k := k) (by omega)
      obtain ⟨K, hK⟩ : ∃ K, K = k + 1 := ⟨_, rfl⟩
      rw [← hK]
      have hstep : wlen l K = if wo l k = 0 then wlen l k else K := by rw [hK]; rfl
      rw [← hK] at hk he
      have HC := Lib.hid (show K ≤ c by have := HM.out; omega)
      have hs1 := fun u => slice_to64 (A := some ad) (n := K) (x := k) (c := c) (k : Int) rfl (by have := HC.out; omega) u
      have i0 : (0 : Int) < (K : Int) := by omega
      have i1 : (K : Int) - 1 = (k : Int) := by omega
      have i2 : (k : Int) < (K : Int) := by omega
      have HKK := Lib.hid (And.intro hK hk)
      have u1 : wrap64 (k : Int) = (k : Int) := by have := HM.out; unfold wrap64; omega
      by_cases h0 : wo l k = 0
      · rw [h0] at hc
        rw [if_pos h0] at hstep
        have HST := Lib.hid hstep
        clear hstep h0 hK hk
        go_wp2_with fail
        go_roundw
        case rel => exact ⟨k, m, by have := HKK.out; omega, rfl, by unfold Hid; rw [← HST.out]; exact he.out, rfl⟩
        case measure => have := HKK.out; dsimp only; omega
      · have hne : ((wo l k : Nat) : Int) ≠ 0 := by omega
        have hbq : (((wo l k : Nat) : Int) == 0) = false := by simp [h0]
        rw [if_neg h0, he.out] at hstep
        have HST := Lib.hid hstep
        generalize wo l k = v at *
        clear hstep h0 hK hk he
        go_wp2_with fail
        refine (clip_any (some ad) K c _ HC.out).mono ?_
        rintro e w1 ⟨rfl, rfl⟩
        go_wp2_with fail
        go_ret
        exact ⟨by rw [HST.out]; rfl, m, rfl⟩
end Go.Proofs.YtmibifmabkaakaaDoor
