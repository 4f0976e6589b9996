/- Share walked. No condition. -/
import Derived.Test.YtjbpndgknadpjaaPpsL
namespace Go.Proofs.Ytjbpndgknadpjaa
open Go.ChangeShapes Go.WideShapes Go.ChangeAt Go.RowKit

set_option maxHeartbeats 400000 in
theorem pshare_any (A : Option Addr) (zs : List Int) (c B : Nat) (many k : Int) (w : World) (hs : Seg w B A (zs.map (.int .i64))) :
    Calls Try.prog 13 #[.slice A zs.length c, .int .i64 many, .int .i64 k] w fun e w' => e = .returned (.tuple #[.int .i64 (pshare zs many k).1, .int .i64 (pshare zs many k).2]) ∧ w = w' := by
  go_enter Try.func13, Try.ntmps13
  go_wp2_with fail
  refine (psum_any A zs c B many w hs).mono ?_
  rintro e w1 ⟨rfl, rfl⟩
  by_cases h0 : (psum zs many).2 = 0
  · have g0 : ((psum zs many).2 != 0) = false := by simp [h0]
    have hps : Hid (zs.length ≤ 400 ∧ 1 ≤ many ∧ many ≤ 400 ∧ wok zs) := by
      unfold Hid
      unfold psum at h0
      by_cases hc : zs.length ≤ 400 ∧ 1 ≤ many ∧ many ≤ 400 ∧ wok zs
      · exact hc
      · rw [if_neg hc] at h0; simp at h0
    have H0 := Lib.hid h0
    clear h0
    by_cases hk : 0 ≤ k ∧ k < zs.length
    · obtain ⟨m, rfl⟩ : ∃ m : Nat, k = m := ⟨k.toNat, by omega⟩
      have hlt : m < zs.length := by omega
      have hf : Hid (pshare zs many m = (zs[m] * many, 0)) := by
        unfold Hid pshare
        rw [if_pos H0.out, if_pos hk]
        simp [List.getD, hlt]
      obtain ⟨b1, b2⟩ := wok_mul zs hps.out.2.2.2 many hps.out.2.1 hps.out.2.2.1 m hlt
      obtain ⟨ad, rfl, _, hc⟩ := hs.int hlt
      have hl := hps.out.1
      clear hk
      generalize zs[m] = z at *
      generalize (psum zs many).2 = e2, (psum zs many).1 = e1 at *
      go_wp2
      go_ret2
      exact ⟨ret_psum hf.out, rfl⟩
    · have hf : Hid (pshare zs many k = (0, 3)) := by
        unfold Hid pshare
        rw [if_pos H0.out, if_neg hk]
      have hl := hps.out.1
      generalize (psum zs many).2 = e2, (psum zs many).1 = e1 at *
      by_cases hk1 : k < 0
      · clear hk
        go_wp2
        go_ret2
        exact ⟨ret_psum hf.out, rfl⟩
      · have hk2 : (zs.length : Int) ≤ k := by omega
        clear hk
        go_wp2
        go_ret2
        exact ⟨ret_psum hf.out, rfl⟩
  · have g0 : ((psum zs many).2 != 0) = true := by simpa using h0
    have hf : Hid (pshare zs many k = (0, (psum zs many).2)) := by
      unfold Hid pshare
      rw [if_neg h0]
    clear h0
    generalize (psum zs many).2 = e2, (psum zs many).1 = e1 at *
    go_wp2
    go_ret2
    exact ⟨ret_psum hf.out, rfl⟩
end Go.Proofs.Ytjbpndgknadpjaa
