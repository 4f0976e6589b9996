/- The mixer's bits, and the law MixerWords, walked. No condition. -/
import Derived.Test.YtmibifmabkaakaaDoorMixL
namespace Go.Proofs.YtmibifmabkaakaaDoor
open Go.ChangeShapes Go.WideShapes Go.ChangeAt Go.RowKit

/-- Bit number i of a row of words, the uppermost one of each first. -/
def mbit (m : Mx) (i : Nat) : Bool := (mout (mat m (i / 64))).getLsbD (63 - i % 64)
def mbits (m : Mx) (n : Nat) : List Bool := (List.range n).map (mbit m)
theorem mbits_succ (m : Mx) (j : Nat) : mbits m (j + 1) = mbits m j ++ [mbit m j] := by
  unfold mbits; rw [List.range_succ, List.map_append]; rfl
theorem mbits_len (m : Mx) (j : Nat) : (mbits m j).length = j := by simp [mbits]

theorem and_bit64 (x : BitVec 64) (s : Nat) : (bits .and .u64 (wv x / 2 ^ s) 1 == 1) = x.getLsbD s := by
  have hx := x.isLt
  have e2 : ((2 : Int) ^ s) = ((2 ^ s : Nat) : Int) := by rw [Int.natCast_pow]; rfl
  have h2 : x.toNat / 2 ^ s ≤ x.toNat := Nat.div_le_self _ _
  have h1 : bits .and .u64 (wv x / 2 ^ s) 1 = ((x.toNat / 2 ^ s % 2 : Nat) : Int) := by
    unfold wv
    rw [e2, ← Int.natCast_ediv]
    have := u64_and_nat (x.toNat / 2 ^ s) 1 (by omega) (by omega)
    rw [nat_mask1] at this
    exact this
  rw [h1, ← BitVec.testBit_toNat, Nat.testBit_eq_decide_div_mod_eq]
  generalize x.toNat / 2 ^ s % 2 = q
  rw [Bool.eq_iff_iff]
  simp
  omega
theorem top_bit64 (x : BitVec 64) (r : Nat) (hr : r < 64) : (IntKind.u64.wrap (wv x * 2 ^ r) / 9223372036854775808 == 1) = x.getLsbD (63 - r) := by
  have e2 : ((2 : Int) ^ r) = ((2 ^ r : Nat) : Int) := by rw [Int.natCast_pow]; rfl
  have hp : 2 ^ (64 - r) * 2 ^ r = 18446744073709551616 := by rw [← Nat.pow_add, show 64 - r + r = 64 by omega]
  have hp2 : 2 ^ (63 - r) * 2 ^ r = 9223372036854775808 := by rw [← Nat.pow_add, show 63 - r + r = 63 by omega]
  have hs : 2 ^ (64 - r) = 2 ^ (63 - r) * 2 := by rw [show 64 - r = (63 - r) + 1 by omega, Nat.pow_succ]
  have h0 : 0 < 2 ^ r := Nat.pow_pos (by decide)
  have h1 : x.toNat * 2 ^ r % 18446744073709551616 / 9223372036854775808 = x.toNat / 2 ^ (63 - r) % 2 := by
    rw [← hp, ← hp2, Nat.mul_mod_mul_right, Nat.mul_div_mul_right _ _ h0, hs, Nat.mod_mul_right_div_self]
  have h2 : IntKind.u64.wrap (wv x * 2 ^ r) / 9223372036854775808 = ((x.toNat / 2 ^ (63 - r) % 2 : Nat) : Int) := by
    rw [wv_wrap]
    unfold wv
    rw [e2, ← Int.natCast_mul]
    omega
  rw [h2, ← BitVec.testBit_toNat, Nat.testBit_eq_decide_div_mod_eq]
  generalize x.toNat / 2 ^ (63 - r) % 2 = q
  rw [Bool.eq_iff_iff]
  simp
  omega

set_option maxHeartbeats 2000000 in
theorem bits_ok (m : Mx) (n : Nat) (w : World) (hn : n ≤ 10000) :
    Calls Tryd.prog 27 #[MV m, .int .i64 n] w fun e w' => (∃ v, e = .returned (.tuple #[v, MV (mat m ((n + 63) / 64)), .int .i64 0]) ∧ IsSlice w' v ((mbits m n).map .bool)) ∧ Below w.heap.size w w' := by
  go_enter Tryd.func27, Tryd.ntmps27
  go_wp2_with fail
  have hq : ((n : Int) + 63) / 64 = (((n + 63) / 64 : Nat) : Int) := by omega
  rw [hq]
  have HQ := Lib.hid hq
  clear hq
  refine (words_ok m ((n + 63) / 64) _ (by omega)).mono ?_
  rintro e w1 ⟨⟨v, rfl, A, c, rfl, hc, hseg⟩, hw1⟩
  have hsz := hw1.size
  simp only [World.size_alloc] at hsz
  have hbr : Blk w1 (w.heap.size + 1) 57 #[.int .u64 0, .int .u64 0, .int .u64 0, .int .u64 0] := Blk.below (by
    have := Blk.new (w.alloc (.cells (mcells m) 57)) 57 #[.int .u64 0, .int .u64 0, .int .u64 0, .int .u64 0]
    simpa using this) hw1 (by simp)
  have hbel : Below w.heap.size w w1 := (((Below.refl _ _).alloc (Nat.le_refl _) _).alloc (by simp) _).trans (hw1.mono (by simp; omega))
  clear hw1
  go_wp2_with (first
    | (refine wpList_store_blk rfl _ _ _ rfl w1.heap.size (mcells (mat m ((n + 63) / 64))) rfl rfl _ #[.int .u64 0, .int .u64 0, .int .u64 0, .int .u64 0] (Blk.new _ _ _) (by kernel_rfl) rfl (mcells_one _) ?_; intro w2 hb2 hg2 hs2; have HS2 := Lib.hid hs2; clear hs2))
  have hsegw : Seg w2 w1.heap.size A (mlist m ((n + 63) / 64)) := (hseg.alloc (Nat.le_refl _) _).grown hg2 (Nat.le_refl _) (by simp)
  have hbr2 := (hbr.alloc (.cells #[.int .u64 0, .int .u64 0, .int .u64 0, .int .u64 0] 57)).grown hg2 (by omega)
  have hbel2 : Below w.heap.size w w2 := (hbel.alloc (by omega) _).grown hg2 (by simp; omega) (by simp; omega)
  have hs2 : w1.heap.size < w2.heap.size := by have := HS2.out; simp at this; omega
  have HML := Lib.hid (mwords_len m ((n + 63) / 64))
  clear hseg hbr hbel hg2
  go_loopw [10, 34] (fun v i wr => ∃ j : Nat, j ≤ n ∧ i = .int .i64 j ∧ Own wr w2.heap.size 4 v ((mbits m j).map .bool) ∧ Below w2.heap.size w2 wr) (fun _ i _ => n - (intOf i).toNat)
  case atStart => exact ⟨0, Nat.zero_le _, rfl, Own.none_, Below.refl _ _⟩
  case round =>
    obtain ⟨j, hj, rfl, hown, hbr⟩ := hrel
    have HL := Lib.hid (mbits_len m j)
    have HS := Lib.hid (mbits_succ m j)
    by_cases hlt : j < n
    · have hjl : j / 64 < ((mwords m ((n + 63) / 64)).map wv).length := by rw [List.length_map, HML.out]; omega
      obtain ⟨ad, rfl, hab, hcell⟩ := (hsegw.below (hbr.mono (Nat.le_of_lt hs2))).int hjl
      have hji : (j : Int) / 64 < ((mwords m ((n + 63) / 64)).length : Int) := by rw [HML.out]; omega
      have hval : Hid (((mwords m ((n + 63) / 64)).map wv)[j / 64] = wv (mout (mat m (j / 64)))) := by unfold Hid mwords; simp
      rw [hval.out] at hcell
      have hbf : (bits .and .u64 (wv (mout (mat m (j / 64))) / 2 ^ (63 - j % 64)) 1 == 1) = mbit m j := and_bit64 _ _
      have hm0 : 0 ≤ (j : Int) % 64 := by omega
      have hm1 : (j : Int) % 64 ≤ 63 := by omega
      go_wp2_with (first
        | (at_builtin; go_must (refine wpList_push _ rfl _ _ 40 4 1 elem_bools rfl w2.heap.size _ _ rfl (Own.alloc' hown _) (.bool (mbit m j)) ⟨wr.heap.size, 0, none⟩ 1 rfl (cell_new1 _ _ _) rfl (by rw [List.length_map, HL.out]; omega) (by rw [List.length_map, HL.out]; unfold maxLen; omega) (by have := hbr.size; simp; omega) ?_); intro v3 w3 hown3 hbel3))
      go_roundw
      case rel =>
        refine ⟨j + 1, by omega, by go_num, ?_, hbr.trans (((Below.refl _ _).alloc hbr.size _).trans hbel3)⟩
        rw [HS.out, List.map_append]; exact hown3
      case measure => simp [intOf]; omega
    · have hjn : j = n := by omega
      subst hjn
      have hb2' := hb2.below hbr hb2.lt
      have hbr2' := hbr2.below hbr hbr2.lt
      have h0 := hb2'.cell 0 (u := W64 (mat m ((j + 63) / 64)).1) rfl
      have h1 := hb2'.cell 1 (u := W64 (mat m ((j + 63) / 64)).2.1) rfl
      have h2 := hb2'.cell 2 (u := W64 (mat m ((j + 63) / 64)).2.2.1) rfl
      have h3 := hb2'.cell 3 (u := W64 (mat m ((j + 63) / 64)).2.2.2) rfl
      have k0 := hbr2'.cell 0 (u := .int .u64 0) rfl
      have k1 := hbr2'.cell 1 (u := .int .u64 0) rfl
      have k2 := hbr2'.cell 2 (u := .int .u64 0) rfl
      have k3 := hbr2'.cell 3 (u := .int .u64 0) rfl
      have f0 := hbr2'.frozen 0
      have f1 := hbr2'.frozen 1
      have f2 := hbr2'.frozen 2
      have f3 := hbr2'.frozen 3
      have hlt2 := hbr2.lt
      have HB1 := Lib.hid hbr2'
      have HO := Lib.hid hown
      have HB := Lib.hid (hbel2.trans (hbr.mono hbel2.size))
      clear hb2 hb2' hbr2 hbr2' hown hbel2 hbr hsegw
      go_wp2
      go_region
      clear h0 h1 h2 h3 k0 k1 k2 k3 f0 f1 f2 f3
      go_wp2
      have ho := ((((HO.out.far (p := ⟨w.heap.size + 1, 0, none⟩) hlt2 (W64 (mat m ((j + 63) / 64)).1)).far (p := ⟨w.heap.size + 1, 1, none⟩) hlt2 (W64 (mat m ((j + 63) / 64)).2.1)).far (p := ⟨w.heap.size + 1, 2, none⟩) hlt2 (W64 (mat m ((j + 63) / 64)).2.2.1)).far (p := ⟨w.heap.size + 1, 3, none⟩) hlt2 (W64 (mat m ((j + 63) / 64)).2.2.2)).res
      have hb := (((HB1.out.set_ 0 (W64 (mat m ((j + 63) / 64)).1)).set_ 1 (W64 (mat m ((j + 63) / 64)).2.1)).set_ 2 (W64 (mat m ((j + 63) / 64)).2.2.1)).set_ 3 (W64 (mat m ((j + 63) / 64)).2.2.2)
      refine bodyPost_ret (results_tct (a := 4) (b := 6) rfl _ rfl hb Tryd.underlying57 rfl (by kernel_rfl)) rfl ⟨⟨_, rfl, ho⟩, ?_⟩
      refine Below.drew ?_
      repeat (refine Below.setCell ?_ (by simp) _)
      exact HB.out
end Go.Proofs.YtmibifmabkaakaaDoor
