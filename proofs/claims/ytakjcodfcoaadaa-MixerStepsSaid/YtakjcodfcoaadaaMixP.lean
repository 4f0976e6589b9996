/- The law MixerWords, walked. No condition. -/
import Derived.Test.YtakjcodfcoaadaaMixB
namespace Go.Proofs.Ytakjcodfcoaadaa
open Go.ChangeShapes Go.WideShapes Go.ChangeAt Go.RowKit

theorem words_any (m : Mx) (k : Int) (w : World) :
    Calls Try.prog 17 #[MV m, .int .i64 k] w fun e w' => (∃ v mm z, e = .returned (.tuple #[v, MV mm, .int .i64 z])) ∧ Below w.heap.size w w' := by
  by_cases h : k < 0 ∨ 10000 < k
  · exact (words_bad m k w h).mono fun e w' ⟨he, hb⟩ => ⟨⟨_, (0#64, 0#64, 0#64, 0#64), _, he⟩, hb⟩
  · obtain ⟨n, rfl⟩ := Int.eq_ofNat_of_zero_le (show 0 ≤ k by omega)
    exact (words_ok m n w (by omega)).mono fun e w' ⟨⟨v, he, _⟩, hb⟩ => ⟨⟨v, _, _, he⟩, hb⟩

set_option maxHeartbeats 2000000 in
theorem bits_bad (m : Mx) (n : Int) (w : World) (h : n < 0 ∨ 10000 < n) :
    Calls Try.prog 18 #[MV m, .int .i64 n] w fun e w' => e = .returned (.tuple #[.slice none 0 0, MV (0#64, 0#64, 0#64, 0#64), .int .i64 2]) ∧ Below w.heap.size w w' := by
  by_cases h1 : n < -1
  · clear h
    go_enter Try.func18, Try.ntmps18
    go_wp2_with fail
    refine (words_any m _ _).mono ?_
    rintro e w1 ⟨⟨v, mm, z, rfl⟩, hw1⟩
    have hsz := hw1.size
    simp only [World.size_alloc] at hsz
    have hbr : Blk w1 (w.heap.size + 1) 26 #[.int .u64 0, .int .u64 0, .int .u64 0, .int .u64 0] := Blk.below (by
      have := Blk.new (w.alloc (.cells (mcells m) 26)) 26 #[.int .u64 0, .int .u64 0, .int .u64 0, .int .u64 0]
      simpa using this) hw1 (by simp)
    have hbel : Below w.heap.size w w1 := (((Below.refl _ _).alloc (Nat.le_refl _) _).alloc (by simp) _).trans (hw1.mono (by simp; omega))
    clear hw1
    have HBR := Lib.hid hbr
    have HBEL := Lib.hid hbel
    clear hbr hbel
    by_cases hz : z = 0
    · have hz1 : (z != 0) = false := by simp [hz]
      have HZ := Lib.hid hz
      clear hz
      go_wp2_with (first
        | (refine wpList_store_blk rfl _ _ _ rfl w1.heap.size (mcells mm) rfl rfl _ #[.int .u64 0, .int .u64 0, .int .u64 0, .int .u64 0] (Blk.new _ _ _) (by kernel_rfl) rfl (mcells_one _) ?_; intro w2 hb2 hg2 hs2; have HS2 := Lib.hid hs2; have HB2 := Lib.hid hb2; have HG2 := Lib.hid hg2; clear hs2 hb2 hg2)
        | (refine wpList_store_blk rfl _ _ _ rfl (w.heap.size + 1) (mcells (0#64, 0#64, 0#64, 0#64)) rfl rfl _ #[.int .u64 0, .int .u64 0, .int .u64 0, .int .u64 0] ((HBR.out.alloc _).grown HG2.out (by omega)) (by kernel_rfl) rfl (mcells_one _) ?_; intro w3 hb3 hg3 hs3; have HS3 := Lib.hid hs3; have HB3 := Lib.hid hb3; have HG3 := Lib.hid hg3; clear hs3 hb3 hg3))
      refine bodyPost_ret (results_tct (a := 4) (b := 6) rfl _ rfl HB3.out Try.underlying26 rfl (by kernel_rfl)) rfl ⟨rfl, ?_⟩
      exact ((HBEL.out.alloc (by omega) _).grown HG2.out (by simp; omega) (by simp; omega)).grown HG3.out (by have := HS2.out; simp at this; omega) (by simp)
    · have hz1 : (z != 0) = true := by simpa using hz
      have HZ := Lib.hid hz
      clear hz
      go_wp2_with (first
        | (refine wpList_store_blk rfl _ _ _ rfl w1.heap.size (mcells mm) rfl rfl _ #[.int .u64 0, .int .u64 0, .int .u64 0, .int .u64 0] (Blk.new _ _ _) (by kernel_rfl) rfl (mcells_one _) ?_; intro w2 hb2 hg2 hs2; have HS2 := Lib.hid hs2; have HB2 := Lib.hid hb2; have HG2 := Lib.hid hg2; clear hs2 hb2 hg2)
        | (refine wpList_store_blk rfl _ _ _ rfl (w.heap.size + 1) (mcells (0#64, 0#64, 0#64, 0#64)) rfl rfl _ #[.int .u64 0, .int .u64 0, .int .u64 0, .int .u64 0] ((HBR.out.alloc _).grown HG2.out (by omega)) (by kernel_rfl) rfl (mcells_one _) ?_; intro w3 hb3 hg3 hs3; have HS3 := Lib.hid hs3; have HB3 := Lib.hid hb3; have HG3 := Lib.hid hg3; clear hs3 hb3 hg3))
      refine bodyPost_ret (results_tct (a := 4) (b := 6) rfl _ rfl HB3.out Try.underlying26 rfl (by kernel_rfl)) rfl ⟨rfl, ?_⟩
      exact ((HBEL.out.alloc (by omega) _).grown HG2.out (by simp; omega) (by simp; omega)).grown HG3.out (by have := HS2.out; simp at this; omega) (by simp)
  by_cases h2 : n < 0
  · obtain rfl : n = -1 := by omega
    clear h h1 h2
    go_enter Try.func18, Try.ntmps18
    go_wp2_with fail
    refine (words_any m _ _).mono ?_
    rintro e w1 ⟨⟨v, mm, z, rfl⟩, hw1⟩
    have hsz := hw1.size
    simp only [World.size_alloc] at hsz
    have hbr : Blk w1 (w.heap.size + 1) 26 #[.int .u64 0, .int .u64 0, .int .u64 0, .int .u64 0] := Blk.below (by
      have := Blk.new (w.alloc (.cells (mcells m) 26)) 26 #[.int .u64 0, .int .u64 0, .int .u64 0, .int .u64 0]
      simpa using this) hw1 (by simp)
    have hbel : Below w.heap.size w w1 := (((Below.refl _ _).alloc (Nat.le_refl _) _).alloc (by simp) _).trans (hw1.mono (by simp; omega))
    clear hw1
    have HBR := Lib.hid hbr
    have HBEL := Lib.hid hbel
    clear hbr hbel
    by_cases hz : z = 0
    · have hz1 : (z != 0) = false := by simp [hz]
      have HZ := Lib.hid hz
      clear hz
      go_wp2_with (first
        | (refine wpList_store_blk rfl _ _ _ rfl w1.heap.size (mcells mm) rfl rfl _ #[.int .u64 0, .int .u64 0, .int .u64 0, .int .u64 0] (Blk.new _ _ _) (by kernel_rfl) rfl (mcells_one _) ?_; intro w2 hb2 hg2 hs2; have HS2 := Lib.hid hs2; have HB2 := Lib.hid hb2; have HG2 := Lib.hid hg2; clear hs2 hb2 hg2)
        | (refine wpList_store_blk rfl _ _ _ rfl (w.heap.size + 1) (mcells (0#64, 0#64, 0#64, 0#64)) rfl rfl _ #[.int .u64 0, .int .u64 0, .int .u64 0, .int .u64 0] ((HBR.out.alloc _).grown HG2.out (by omega)) (by kernel_rfl) rfl (mcells_one _) ?_; intro w3 hb3 hg3 hs3; have HS3 := Lib.hid hs3; have HB3 := Lib.hid hb3; have HG3 := Lib.hid hg3; clear hs3 hb3 hg3))
      refine bodyPost_ret (results_tct (a := 4) (b := 6) rfl _ rfl HB3.out Try.underlying26 rfl (by kernel_rfl)) rfl ⟨rfl, ?_⟩
      exact ((HBEL.out.alloc (by omega) _).grown HG2.out (by simp; omega) (by simp; omega)).grown HG3.out (by have := HS2.out; simp at this; omega) (by simp)
    · have hz1 : (z != 0) = true := by simpa using hz
      have HZ := Lib.hid hz
      clear hz
      go_wp2_with (first
        | (refine wpList_store_blk rfl _ _ _ rfl w1.heap.size (mcells mm) rfl rfl _ #[.int .u64 0, .int .u64 0, .int .u64 0, .int .u64 0] (Blk.new _ _ _) (by kernel_rfl) rfl (mcells_one _) ?_; intro w2 hb2 hg2 hs2; have HS2 := Lib.hid hs2; have HB2 := Lib.hid hb2; have HG2 := Lib.hid hg2; clear hs2 hb2 hg2)
        | (refine wpList_store_blk rfl _ _ _ rfl (w.heap.size + 1) (mcells (0#64, 0#64, 0#64, 0#64)) rfl rfl _ #[.int .u64 0, .int .u64 0, .int .u64 0, .int .u64 0] ((HBR.out.alloc _).grown HG2.out (by omega)) (by kernel_rfl) rfl (mcells_one _) ?_; intro w3 hb3 hg3 hs3; have HS3 := Lib.hid hs3; have HB3 := Lib.hid hb3; have HG3 := Lib.hid hg3; clear hs3 hb3 hg3))
      refine bodyPost_ret (results_tct (a := 4) (b := 6) rfl _ rfl HB3.out Try.underlying26 rfl (by kernel_rfl)) rfl ⟨rfl, ?_⟩
      exact ((HBEL.out.alloc (by omega) _).grown HG2.out (by simp; omega) (by simp; omega)).grown HG3.out (by have := HS2.out; simp at this; omega) (by simp)
  · have h3 : 10000 < n := by omega
    clear h h1
    go_enter Try.func18, Try.ntmps18
    go_wp2_with fail
    refine (words_any m _ _).mono ?_
    rintro e w1 ⟨⟨v, mm, z, rfl⟩, hw1⟩
    have hsz := hw1.size
    simp only [World.size_alloc] at hsz
    have hbr : Blk w1 (w.heap.size + 1) 26 #[.int .u64 0, .int .u64 0, .int .u64 0, .int .u64 0] := Blk.below (by
      have := Blk.new (w.alloc (.cells (mcells m) 26)) 26 #[.int .u64 0, .int .u64 0, .int .u64 0, .int .u64 0]
      simpa using this) hw1 (by simp)
    have hbel : Below w.heap.size w w1 := (((Below.refl _ _).alloc (Nat.le_refl _) _).alloc (by simp) _).trans (hw1.mono (by simp; omega))
    clear hw1
    have HBR := Lib.hid hbr
    have HBEL := Lib.hid hbel
    clear hbr hbel
    by_cases hz : z = 0
    · have hz1 : (z != 0) = false := by simp [hz]
      have HZ := Lib.hid hz
      clear hz
      go_wp2_with (first
        | (refine wpList_store_blk rfl _ _ _ rfl w1.heap.size (mcells mm) rfl rfl _ #[.int .u64 0, .int .u64 0, .int .u64 0, .int .u64 0] (Blk.new _ _ _) (by kernel_rfl) rfl (mcells_one _) ?_; intro w2 hb2 hg2 hs2; have HS2 := Lib.hid hs2; have HB2 := Lib.hid hb2; have HG2 := Lib.hid hg2; clear hs2 hb2 hg2)
        | (refine wpList_store_blk rfl _ _ _ rfl (w.heap.size + 1) (mcells (0#64, 0#64, 0#64, 0#64)) rfl rfl _ #[.int .u64 0, .int .u64 0, .int .u64 0, .int .u64 0] ((HBR.out.alloc _).grown HG2.out (by omega)) (by kernel_rfl) rfl (mcells_one _) ?_; intro w3 hb3 hg3 hs3; have HS3 := Lib.hid hs3; have HB3 := Lib.hid hb3; have HG3 := Lib.hid hg3; clear hs3 hb3 hg3))
      refine bodyPost_ret (results_tct (a := 4) (b := 6) rfl _ rfl HB3.out Try.underlying26 rfl (by kernel_rfl)) rfl ⟨rfl, ?_⟩
      exact ((HBEL.out.alloc (by omega) _).grown HG2.out (by simp; omega) (by simp; omega)).grown HG3.out (by have := HS2.out; simp at this; omega) (by simp)
    · have hz1 : (z != 0) = true := by simpa using hz
      have HZ := Lib.hid hz
      clear hz
      go_wp2_with (first
        | (refine wpList_store_blk rfl _ _ _ rfl w1.heap.size (mcells mm) rfl rfl _ #[.int .u64 0, .int .u64 0, .int .u64 0, .int .u64 0] (Blk.new _ _ _) (by kernel_rfl) rfl (mcells_one _) ?_; intro w2 hb2 hg2 hs2; have HS2 := Lib.hid hs2; have HB2 := Lib.hid hb2; have HG2 := Lib.hid hg2; clear hs2 hb2 hg2)
        | (refine wpList_store_blk rfl _ _ _ rfl (w.heap.size + 1) (mcells (0#64, 0#64, 0#64, 0#64)) rfl rfl _ #[.int .u64 0, .int .u64 0, .int .u64 0, .int .u64 0] ((HBR.out.alloc _).grown HG2.out (by omega)) (by kernel_rfl) rfl (mcells_one _) ?_; intro w3 hb3 hg3 hs3; have HS3 := Lib.hid hs3; have HB3 := Lib.hid hb3; have HG3 := Lib.hid hg3; clear hs3 hb3 hg3))
      refine bodyPost_ret (results_tct (a := 4) (b := 6) rfl _ rfl HB3.out Try.underlying26 rfl (by kernel_rfl)) rfl ⟨rfl, ?_⟩
      exact ((HBEL.out.alloc (by omega) _).grown HG2.out (by simp; omega) (by simp; omega)).grown HG3.out (by have := HS2.out; simp at this; omega) (by simp)
end Go.Proofs.Ytakjcodfcoaadaa
