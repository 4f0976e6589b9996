/- The law PpsTakes walked. No condition. -/
import Derived.Test.YtjbpndgknadpjaaPpsU
import Derived.Test.YtjbpndgknadpjaaEqints
namespace Go.Proofs.Ytjbpndgknadpjaa
open Go.ChangeShapes Go.WideShapes Go.ChangeAt Go.RowKit

set_option maxRecDepth 20000 in
set_option maxHeartbeats 2000000 in
theorem PpsTakes_walk (A : Option Addr) (zs : List Int) (c : Nat) (many start k : Int) (w : World) (hc : zs.length ≤ c) (hm : c ≤ maxLen) (_hw : ∀ z ∈ zs, (Lit.int .i64 z).wf = true) (hs : Seg w w.heap.size A (zs.map (.int .i64)))
    (_w1 : (Lit.int .i64 many).wf = true) (_w2 : (Lit.int .i64 start).wf = true) (_w3 : (Lit.int .i64 k).wf = true) :
    Calls Try.prog 4 #[.slice A zs.length c, .int .i64 many, .int .i64 start, .int .i64 k] w fun e w' => e = .returned (.bool true) ∧ Below w.heap.size w w' := by
  clear _hw _w1 _w2 _w3
  have hml : zs.length ≤ maxLen := by omega
  go_enter Try.func4, Try.ntmps4
  go_wp2_with fail
  refine (psum_any A zs c _ many w hs).mono ?_
  rintro e w1 ⟨rfl, rfl⟩
  go_wp2_with fail
  refine (jsum_any A zs c _ many w hs hml).mono ?_
  rintro e w1 ⟨rfl, rfl⟩
  go_wp2_with fail
  refine (take_any A zs c _ many start w hs (Nat.le_refl _)).mono ?_
  rintro e w1 ⟨⟨v1, rfl, i1⟩, bel1⟩
  have hs1 := hs.below bel1
  go_wp2_with fail
  refine (jtake_any A zs c _ many start w1 hs1 bel1.size hml).mono ?_
  rintro e w2 ⟨⟨v2, rfl, i2⟩, bel2⟩
  have hs2 := hs1.keep (fun p hp => bel2.cell (p := p) (by have := bel1.size; omega))
  go_wp2_with fail
  refine (pshare_any A zs c _ many k w2 hs2).mono ?_
  rintro e w3 ⟨rfl, rfl⟩
  obtain ⟨A1, c1, rfl, _, s1⟩ := i1
  obtain ⟨A2, c2, rfl, _, s2⟩ := i2
  have s1' := (s1.below bel2).more bel2.size
  rw [List.length_map]
  have b1 : ((psum zs many).1 != (psum zs many).1) = false := by simp
  have b2 : ((psum zs many).2 != (psum zs many).2) = false := by simp
  have b3 : ((ptake zs many start).2 != (ptake zs many start).2) = false := by simp
  have HB : Hid (Below w.heap.size w w2) := bel1.trans (bel2.mono bel1.size)
  have hll : (ptake zs many start).1.length ≤ 9223372036854775807 := by
    unfold ptake
    split
    · split
      · rename_i h _
        have := psum_zero zs many h
        simp only [ppts_len]; omega
      · simp
    · simp
  have HLL := Lib.hid hll
  have HS1 := Lib.hid s1'
  have HS2 := Lib.hid s2
  have HSS := Lib.hid hs2
  clear hll s1' s1 s2 hs1 hs hs2 bel1 bel2
  go_wp2_with fail
  refine (eq_ints _ _ A1 A2 c1 c2 _ w2 HS1.out HS2.out HLL.out).mono ?_
  rintro e w4 ⟨rfl, n, rfl⟩
  have hd : decide ((ptake zs many start).1 = (ptake zs many start).1) = true := by simp
  clear HS1 HS2 HLL
  by_cases h0 : (psum zs many).2 = 0
  · have g0 : ((psum zs many).2 != 0) = false := by simp [h0]
    have hps := Lib.hid (psum_zero zs many h0)
    by_cases hk : 0 ≤ k ∧ k < zs.length
    · have hf : pshare zs many k = (zs.getD k.toNat 0 * many, 0) := by unfold pshare; rw [if_pos h0, if_pos hk]
      rw [hf]
      obtain ⟨m, rfl⟩ : ∃ m : Nat, k = m := ⟨k.toNat, by omega⟩
      have hlt : m < zs.length := by omega
      have hg : zs.getD (m : Int).toNat 0 = zs[m] := by simp [List.getD, hlt]
      rw [hg]
      have h3 := wok_mul zs hps.out.2.2.2.1 many hps.out.2.1 hps.out.2.2.1 m hlt
      obtain ⟨b4, b5⟩ := h3
      obtain ⟨ad, rfl, _, hcc⟩ := (HSS.out.drewN n).int hlt
      have hl := hps.out.1
      have beq : (zs[m] * many == zs[m] * many) = true := by simp
      clear hk h0 hf hg
      generalize zs[m] = z at *
      generalize (psum zs many).2 = e2, (psum zs many).1 = e1, ptake zs many start = pt at *
      go_wp2
      go_ret
      exact ⟨rfl, below_drewN HB.out _⟩
    · have hf : pshare zs many k = (0, 3) := by unfold pshare; rw [if_pos h0, if_neg hk]
      rw [hf]
      have hl := hps.out.1
      clear h0 hf
      generalize (psum zs many).2 = e2, (psum zs many).1 = e1, ptake zs many start = pt at *
      by_cases hk1 : k < 0
      · clear hk
        go_wp2
        go_ret
        exact ⟨rfl, below_drewN HB.out _⟩
      · have hk2 : (zs.length : Int) ≤ k := by omega
        clear hk
        go_wp2
        go_ret
        exact ⟨rfl, below_drewN HB.out _⟩
  · have g0 : ((psum zs many).2 != 0) = true := by simpa using h0
    have hf : pshare zs many k = (0, (psum zs many).2) := by unfold pshare; rw [if_neg h0]
    rw [hf]
    have beq : ((psum zs many).2 == (psum zs many).2) = true := by simp
    clear h0 hf
    generalize (psum zs many).2 = e2, (psum zs many).1 = e1, ptake zs many start = pt at *
    go_wp2
    go_ret
    exact ⟨rfl, below_drewN HB.out _⟩
end Go.Proofs.Ytjbpndgknadpjaa
