/- The law MixerWords, walked. No condition. -/
import Derived.Test.YtakjcodfcoaadaaMixP
namespace Go.Proofs.Ytakjcodfcoaadaa
open Go.ChangeShapes Go.WideShapes Go.ChangeAt Go.RowKit

section
variable {w w1 w2 : World} {g : Nat} {t : TypeId} {cs : Array Value} {o : Obj}
theorem Blk.thru (h : Blk w g t cs) (hb : Below w.heap.size w w1) (hg : (w1.alloc o).grownBy w2 (some w1.heap.size)) : Blk w2 g t cs :=
  ((h.below hb h.lt).alloc o).grown hg (by have := h.lt; have := hb.size; omega)
theorem Seg.thru {A : Option Addr} {xs : List Value} (h : Seg w w.heap.size A xs) (hb : Below w.heap.size w w1) (hg : (w1.alloc o).grownBy w2 (some w1.heap.size)) : Seg w2 w2.heap.size A xs := by
  have h1 := hb.size
  have h2 := hg.size
  simp at h2
  exact (((h.below hb).alloc h1 o).grown hg h1 (by simp; omega)).more (by omega)
theorem below_thru {B : Nat} {u : World} (h : Below B u w) (hb : Below w.heap.size w w1) (hg : (w1.alloc o).grownBy w2 (some w1.heap.size)) (hB : B ≤ w.heap.size) : Below B u w2 := by
  have h1 := hb.size
  exact ((h.trans (hb.mono hB)).alloc (by omega) o).grown hg (by simp; omega) (by simp; omega)
theorem Seg.step (A : Option Addr) (xs : List Value) (h : Seg w1 w1.heap.size A xs) (hg : (w1.alloc o).grownBy w2 (some w1.heap.size)) : Seg w2 w2.heap.size A xs := Seg.thru h (Below.refl _ _) hg
end

theorem int4_eq (a b c d : Int) (w : World) : (Op.equalIn 10000 26 (.agg #[.int .u64 a, .int .u64 b, .int .u64 c, .int .u64 d]) (.agg #[.int .u64 a, .int .u64 b, .int .u64 c, .int .u64 d])).run Try.prog w = .ok true w := by
  obtain ⟨i, hi⟩ : ∃ i, Try.prog.info? 22 = some i := ⟨_, rfl⟩
  have hc : Try.prog.cellsOf 22 = 1 := by kernel_rfl
  have hu := Try.underlying22
  rw [run_equalIn_array w 9999 _ _ Try.underlying26 hi]
  simp [hc, Op.eqItems, List.range_succ, go_sem, part, hu]

set_option maxHeartbeats 4000000 in
theorem MixerWords_bad (m : Mx) (n : Int) (w : World) (h : n < 0 ∨ 10000 < n) :
    Calls Try.prog 5 #[MV m, .int .i64 n] w fun e w' => e = .returned (.bool true) ∧ Below w.heap.size w w' := by
  have H := Lib.hid h
  have heq := int4_eq
  have hB0 := Blk.new w 26 (mcells m)
  by_cases h1 : n < 0
  · clear h
    go_enter Try.func5, Try.ntmps5
    go_wp2_with fail
    refine (words_bad m _ _ H.out).mono ?_
    rintro e w1 ⟨rfl, hw1⟩
    have HW1 := Lib.hid hw1
    clear hw1
    go_wp2_with (first | (refine wpList_store_blk rfl _ _ _ rfl w1.heap.size (mcells (0#64, 0#64, 0#64, 0#64)) rfl rfl _ #[.int .u64 0, .int .u64 0, .int .u64 0, .int .u64 0] (Blk.new _ _ _) (by kernel_rfl) rfl (mcells_one _) ?_; intro w2 hb2 hg2 hs2; have HS2 := Lib.hid hs2; have HB2 := Lib.hid hb2; have HG2 := Lib.hid hg2; clear hs2 hb2 hg2) | (refine wpList_load_blk rfl _ _ rfl w.heap.size rfl _ _ _ (hB0.thru HW1.out HG2.out) Try.underlying26 rfl (by kernel_rfl) ?_) | fail)
    refine (bits_bad m _ _ H.out).mono ?_
    rintro e w3 ⟨rfl, hw3⟩
    have HW3 := Lib.hid hw3
    clear hw3
    go_wp2_with (first | (refine wpList_store_blk rfl _ _ _ rfl w3.heap.size (mcells (0#64, 0#64, 0#64, 0#64)) rfl rfl _ #[.int .u64 0, .int .u64 0, .int .u64 0, .int .u64 0] (Blk.new _ _ _) (by kernel_rfl) rfl (mcells_one _) ?_; intro w4 hb4 hg4 hs4; have HS4 := Lib.hid hs4; have HB4 := Lib.hid hb4; have HG4 := Lib.hid hg4; clear hs4 hb4 hg4; have c0 := (HB4.out).cell 0 (u := .int .u64 0) rfl; have c1 := (HB4.out).cell 1 (u := .int .u64 0) rfl; have c2 := (HB4.out).cell 2 (u := .int .u64 0) rfl; have c3 := (HB4.out).cell 3 (u := .int .u64 0) rfl; have d0 := (HB2.out.thru HW3.out HG4.out).cell 0 (u := .int .u64 0) rfl; have d1 := (HB2.out.thru HW3.out HG4.out).cell 1 (u := .int .u64 0) rfl; have d2 := (HB2.out.thru HW3.out HG4.out).cell 2 (u := .int .u64 0) rfl; have d3 := (HB2.out.thru HW3.out HG4.out).cell 3 (u := .int .u64 0) rfl) | fail)
    go_ret
    exact ⟨rfl, below_thru (below_thru ((Below.refl _ _).alloc (Nat.le_refl _) _) HW1.out HG2.out (by simp)) HW3.out HG4.out (by have := HW1.out.size; have := HG2.out.size; simp at *; omega)⟩
  · have h2 : 10000 < n := by omega
    clear h
    go_enter Try.func5, Try.ntmps5
    go_wp2_with fail
    refine (words_bad m _ _ H.out).mono ?_
    rintro e w1 ⟨rfl, hw1⟩
    have HW1 := Lib.hid hw1
    clear hw1
    go_wp2_with (first | (refine wpList_store_blk rfl _ _ _ rfl w1.heap.size (mcells (0#64, 0#64, 0#64, 0#64)) rfl rfl _ #[.int .u64 0, .int .u64 0, .int .u64 0, .int .u64 0] (Blk.new _ _ _) (by kernel_rfl) rfl (mcells_one _) ?_; intro w2 hb2 hg2 hs2; have HS2 := Lib.hid hs2; have HB2 := Lib.hid hb2; have HG2 := Lib.hid hg2; clear hs2 hb2 hg2) | (refine wpList_load_blk rfl _ _ rfl w.heap.size rfl _ _ _ (hB0.thru HW1.out HG2.out) Try.underlying26 rfl (by kernel_rfl) ?_) | fail)
    refine (bits_bad m _ _ H.out).mono ?_
    rintro e w3 ⟨rfl, hw3⟩
    have HW3 := Lib.hid hw3
    clear hw3
    go_wp2_with (first | (refine wpList_store_blk rfl _ _ _ rfl w3.heap.size (mcells (0#64, 0#64, 0#64, 0#64)) rfl rfl _ #[.int .u64 0, .int .u64 0, .int .u64 0, .int .u64 0] (Blk.new _ _ _) (by kernel_rfl) rfl (mcells_one _) ?_; intro w4 hb4 hg4 hs4; have HS4 := Lib.hid hs4; have HB4 := Lib.hid hb4; have HG4 := Lib.hid hg4; clear hs4 hb4 hg4; have c0 := (HB4.out).cell 0 (u := .int .u64 0) rfl; have c1 := (HB4.out).cell 1 (u := .int .u64 0) rfl; have c2 := (HB4.out).cell 2 (u := .int .u64 0) rfl; have c3 := (HB4.out).cell 3 (u := .int .u64 0) rfl; have d0 := (HB2.out.thru HW3.out HG4.out).cell 0 (u := .int .u64 0) rfl; have d1 := (HB2.out.thru HW3.out HG4.out).cell 1 (u := .int .u64 0) rfl; have d2 := (HB2.out.thru HW3.out HG4.out).cell 2 (u := .int .u64 0) rfl; have d3 := (HB2.out.thru HW3.out HG4.out).cell 3 (u := .int .u64 0) rfl) | fail)
    go_ret
    exact ⟨rfl, below_thru (below_thru ((Below.refl _ _).alloc (Nat.le_refl _) _) HW1.out HG2.out (by simp)) HW3.out HG4.out (by have := HW1.out.size; have := HG2.out.size; simp at *; omega)⟩

theorem eq_words (m : Mx) (n : Nat) (A C : Option Addr) (c d B : Nat) (w : World) (hs : Seg w B A (mlist m n)) (ht : Seg w B C (mlist m n)) (hn : n ≤ 10000) :
    Calls Try.prog 20 #[.slice A (mwords m n).length c, .slice C (mwords m n).length d] w fun e w' => e = .returned (.bool true) ∧ ∃ q, w' = w.drewN q := by
  have h := eq_u64s ((mwords m n).map wv) ((mwords m n).map wv) A C c d B w hs ht (by rw [List.length_map, mwords_len]; omega)
  rw [List.length_map] at h
  exact h.mono fun e w' ⟨he, hw⟩ => ⟨by rw [he]; simp, hw⟩
theorem mbits_get (m : Mx) (n j : Nat) (h : j < (mbits m n).length) : (mbits m n)[j] = mbit m j := by simp [mbits]
theorem words_get (m : Mx) (n j : Nat) (h : j < ((mwords m n).map wv).length) : ((mwords m n).map wv)[j] = wv (mout (mat m j)) := by simp [mwords]

set_option maxHeartbeats 4000000 in
theorem MixerWords_good (m : Mx) (n : Nat) (w : World) (hn : n ≤ 10000) :
    Calls Try.prog 5 #[MV m, .int .i64 n] w fun e w' => e = .returned (.bool true) ∧ Below w.heap.size w w' := by
  have heq := int4_eq
  have hB0 := Blk.new w 26 (mcells m)
  go_enter Try.func5, Try.ntmps5
  go_wp2_with fail
  refine (words_ok m n _ hn).mono ?_
  rintro e w1 ⟨⟨v1, rfl, A1, c1, rfl, _, sg1⟩, hw1⟩
  have HW1 := Lib.hid hw1
  have HSG1 := Lib.hid sg1
  clear hw1 sg1
  go_wp2_with (first | (refine wpList_store_blk rfl _ _ _ rfl w1.heap.size (mcells (mat m n)) rfl rfl _ #[.int .u64 0, .int .u64 0, .int .u64 0, .int .u64 0] (Blk.new _ _ _) (by kernel_rfl) rfl (mcells_one _) ?_; intro w2 hb2 hg2 hs2; have HS2 := Lib.hid hs2; have HB2 := Lib.hid hb2; have HG2 := Lib.hid hg2; clear hs2 hb2 hg2) | (refine wpList_load_blk rfl _ _ rfl w.heap.size rfl _ _ _ (hB0.thru HW1.out HG2.out) Try.underlying26 rfl (by kernel_rfl) ?_) | fail)
  refine (bits_ok m n _ hn).mono ?_
  rintro e w3 ⟨⟨v3, rfl, A3, c3, rfl, _, sg3⟩, hw3⟩
  have HW3 := Lib.hid hw3
  have HSG3 := Lib.hid sg3
  clear hw3 sg3
  go_wp2_with (first | (refine wpList_store_blk rfl _ _ _ rfl w3.heap.size (mcells (mat m ((n + 63) / 64))) rfl rfl _ #[.int .u64 0, .int .u64 0, .int .u64 0, .int .u64 0] (Blk.new _ _ _) (by kernel_rfl) rfl (mcells_one _) ?_; intro w4 hb4 hg4 hs4; have HS4 := Lib.hid hs4; have HB4 := Lib.hid hb4; have HG4 := Lib.hid hg4; clear hs4 hb4 hg4) | (refine wpList_load_blk rfl _ _ rfl w.heap.size rfl _ _ _ ((hB0.thru HW1.out HG2.out).thru HW3.out HG4.out) Try.underlying26 rfl (by kernel_rfl) ?_) | fail)
  refine (rwords_ok m n _ hn).mono ?_
  rintro e w5 ⟨⟨v5, rfl, A5, c5, rfl, _, sg5⟩, hw5⟩
  have HW5 := Lib.hid hw5
  have HSG5 := Lib.hid sg5
  clear hw5 sg5
  go_wp2_with (first | (refine wpList_store_blk rfl _ _ _ rfl w5.heap.size (mcells (mat m n)) rfl rfl _ #[.int .u64 0, .int .u64 0, .int .u64 0, .int .u64 0] (Blk.new _ _ _) (by kernel_rfl) rfl (mcells_one _) ?_; intro w6 hb6 hg6 hs6; have HS6 := Lib.hid hs6; have HB6 := Lib.hid hb6; have HG6 := Lib.hid hg6; clear hs6 hb6 hg6) | (refine wpList_load_blk rfl _ _ rfl w.heap.size rfl _ _ _ (((hB0.thru HW1.out HG2.out).thru HW3.out HG4.out).thru HW5.out HG6.out) Try.underlying26 rfl (by kernel_rfl) ?_) | fail)
  have hq : ((n : Int) + 63) / 64 = (((n + 63) / 64) : Nat) := by omega
  rw [hq]
  clear hq
  refine (rwords_ok m ((n + 63) / 64) _ (by omega)).mono ?_
  rintro e w7 ⟨⟨v7, rfl, A7, c7, rfl, _, sg7⟩, hw7⟩
  have HW7 := Lib.hid hw7
  have HSG7 := Lib.hid sg7
  clear hw7 sg7
  have hbl : (((mbits m n).length : Int) != (n : Int)) = false := by rw [mbits_len]; simp
  go_wp2_with (first | (refine wpList_store_blk rfl _ _ _ rfl w7.heap.size (mcells (mat m ((n + 63) / 64))) rfl rfl _ #[.int .u64 0, .int .u64 0, .int .u64 0, .int .u64 0] (Blk.new _ _ _) (by kernel_rfl) rfl (mcells_one _) ?_; intro w8 hb8 hg8 hs8; have HS8 := Lib.hid hs8; have HB8 := Lib.hid hb8; have HG8 := Lib.hid hg8; clear hs8 hb8 hg8; have c0 := (((HB2.out.thru HW3.out HG4.out).thru HW5.out HG6.out).thru HW7.out HG8.out).cell 0 (u := W64 (mat m n).1) rfl; have c1 := (((HB2.out.thru HW3.out HG4.out).thru HW5.out HG6.out).thru HW7.out HG8.out).cell 1 (u := W64 (mat m n).2.1) rfl; have c2 := (((HB2.out.thru HW3.out HG4.out).thru HW5.out HG6.out).thru HW7.out HG8.out).cell 2 (u := W64 (mat m n).2.2.1) rfl; have c3 := (((HB2.out.thru HW3.out HG4.out).thru HW5.out HG6.out).thru HW7.out HG8.out).cell 3 (u := W64 (mat m n).2.2.2) rfl; have d0 := ((HB6.out.thru HW7.out HG8.out)).cell 0 (u := W64 (mat m n).1) rfl; have d1 := ((HB6.out.thru HW7.out HG8.out)).cell 1 (u := W64 (mat m n).2.1) rfl; have d2 := ((HB6.out.thru HW7.out HG8.out)).cell 2 (u := W64 (mat m n).2.2.1) rfl; have d3 := ((HB6.out.thru HW7.out HG8.out)).cell 3 (u := W64 (mat m n).2.2.2) rfl; have f0 := (((HB4.out.thru HW5.out HG6.out).thru HW7.out HG8.out)).cell 0 (u := W64 (mat m ((n + 63) / 64)).1) rfl; have f1 := (((HB4.out.thru HW5.out HG6.out).thru HW7.out HG8.out)).cell 1 (u := W64 (mat m ((n + 63) / 64)).2.1) rfl; have f2 := (((HB4.out.thru HW5.out HG6.out).thru HW7.out HG8.out)).cell 2 (u := W64 (mat m ((n + 63) / 64)).2.2.1) rfl; have f3 := (((HB4.out.thru HW5.out HG6.out).thru HW7.out HG8.out)).cell 3 (u := W64 (mat m ((n + 63) / 64)).2.2.2) rfl; have g0 := (HB8.out).cell 0 (u := W64 (mat m ((n + 63) / 64)).1) rfl; have g1 := (HB8.out).cell 1 (u := W64 (mat m ((n + 63) / 64)).2.1) rfl; have g2 := (HB8.out).cell 2 (u := W64 (mat m ((n + 63) / 64)).2.2.1) rfl; have g3 := (HB8.out).cell 3 (u := W64 (mat m ((n + 63) / 64)).2.2.2) rfl) | fail)
  refine (eq_words m n _ _ _ _ w8.heap.size _ (Seg.thru (Seg.thru (Seg.thru (Seg.step _ _ HSG1.out HG2.out) HW3.out HG4.out) HW5.out HG6.out) HW7.out HG8.out) (Seg.thru (Seg.step _ _ HSG5.out HG6.out) HW7.out HG8.out) hn).mono ?_
  rintro e w9 ⟨rfl, nq, rfl⟩
  have S3 := Lib.hid (Seg.thru (Seg.thru (Seg.step _ _ HSG3.out HG4.out) HW5.out HG6.out) HW7.out HG8.out)
  have S7 := Lib.hid (Seg.step _ _ HSG7.out HG8.out)
  have hbel : Below w.heap.size w w8 := below_thru (below_thru (below_thru (below_thru ((Below.refl _ _).alloc (Nat.le_refl _) _) HW1.out HG2.out (by simp)) HW3.out HG4.out (by have := HW1.out.size; have := HG2.out.size; simp at *; omega)) HW5.out HG6.out (by have := HW1.out.size; have := HG2.out.size; have := HW3.out.size; have := HG4.out.size; simp at *; omega)) HW7.out HG8.out (by have := HW1.out.size; have := HG2.out.size; have := HW3.out.size; have := HG4.out.size; have := HW5.out.size; have := HG6.out.size; simp at *; omega)
  have HBEL := Lib.hid hbel
  have hlen := mbits_len m n
  have HLEN := Lib.hid hlen
  have hle : (mbits m n).length ≤ 10000 := by rw [hlen]; exact hn
  have hyl := mwords_len m ((n + 63) / 64)
  have HYL := Lib.hid hyl
  clear hbel hlen hyl hB0
  go_wp2_with fail
  clear heq c0 c1 c2 c3 d0 d1 d2 d3 f0 f1 f2 f3 g0 g1 g2 g3
  go_loop [106] (fun i => ∃ j : Nat, j ≤ (mbits m n).length ∧ i = .int .i64 j) (fun i => (mbits m n).length - (intOf i).toNat)
  case atStart => exact ⟨0, Nat.zero_le _, rfl⟩
  case round =>
    obtain ⟨j, hj, rfl⟩ := hrel
    by_cases hlt : j < (mbits m n).length
    · have hjl : j / 64 < ((mwords m ((n + 63) / 64)).map wv).length := by rw [List.length_map, HYL.out]; have := HLEN.out; omega
      obtain ⟨ad, rfl, _, hc⟩ := S3.out.bool hlt
      rw [mbits_get] at hc
      obtain ⟨ae, rfl, _, hd⟩ := S7.out.int hjl
      rw [words_get] at hd
      have hji : (j : Int) / 64 < ((mwords m ((n + 63) / 64)).length : Int) := by rw [HYL.out]; have := HLEN.out; omega
      have hm0 : 0 ≤ (j : Int) % 64 := by omega
      have hm1 : (j : Int) % 64 ≤ 63 := by omega
      have hbf := top_bit64 (mout (mat m (j / 64))) (j % 64) (by omega)
      have hbg : (mout (mat m (j / 64))).getLsbD (63 - j % 64) = mbit m j := rfl
      rw [hbg] at hbf
      clear hbg
      go_wp2
      go_round
      case rel => exact ⟨j + 1, by omega, by go_num⟩
      case measure => simp [intOf]; omega
    · go_wp2
      go_ret
      exact ⟨rfl, below_drewN HBEL.out _⟩

theorem okWide_arr {P : Program} {w : World} {r : Reach} {base : Nat} {t e : TypeId} {n : Nat} {v : Value} (ht : P.underlying t = some (.array n e)) (h : Value.okWide P w r base t v) : ∃ cs, v = .agg cs := by
  simp only [Value.okWide, ht] at h
  obtain ⟨cs, h1, h2, _⟩ := h
  exact ⟨cs, h1⟩
theorem word_of {H : Type} {enc : TypeId × Value → H} {w : World} {base : Nat} {spare : Nat → Bool} {held : Bool} {fuel : Nat} {cs : List Value} {x : DataW H × List MemPlace}
    (h : DataW.trod enc Try.prog w base spare held fuel 22 cs = some x) : ∃ y : BitVec 64, cs = [W64 y] := by
  obtain ⟨n, rfl, _, hw⟩ := DataW.trod_int Try.underlying22 h
  have hb := bounds_u64 hw
  obtain ⟨y, rfl⟩ := wv_of n hb.1 (by omega)
  exact ⟨y, rfl⟩
theorem open_mixer {H : Type} {enc : TypeId × Value → H} {W : World} {v : Value} {d : DataW H} {ps : List MemPlace} {r : Reach} {b0 : Nat}
    (h : DataW.Trod enc Try.prog W 0 (fun _ => true) true 26 v d ps) (hv : Value.okWide Try.prog W r b0 26 v) : ∃ m : Mx, v = MV m ∧ True := by
  obtain ⟨cs, rfl⟩ := okWide_arr Try.underlying26 hv
  obtain ⟨fuel, hf⟩ := h
  obtain ⟨xs, k, rfl, _, hl, hx, hel⟩ := DataW.trod_array Try.underlying26 hf
  have hc : Try.prog.cellsOf 22 = 1 := by kernel_rfl
  have hC : Try.prog.cellsOf 26 = 4 := by kernel_rfl
  rw [hC] at hl
  rw [hc] at hel
  simp only [Value.cells] at hl hel
  match cs, hl with
  | ⟨[c0, c1, c2, c3]⟩, _ =>
    match xs, hx with
    | [x0, x1, x2, x3], _ =>
      have e0 := hel 0 (by omega)
      have e1 := hel 1 (by omega)
      have e2 := hel 2 (by omega)
      have e3 := hel 3 (by omega)
      simp at e0 e1 e2 e3
      obtain ⟨y0, h0⟩ := word_of e0
      obtain ⟨y1, h1⟩ := word_of e1
      obtain ⟨y2, h2⟩ := word_of e2
      obtain ⟨y3, h3⟩ := word_of e3
      simp at h0 h1 h2 h3
      subst h0 h1 h2 h3
      exact ⟨(y0, y1, y2, y3), rfl, trivial⟩

theorem MixerWords_walk (m : Mx) (a1 : Int) (w : World) (_s0 : True) (_w1 : (Lit.int .i64 a1).wf = true) :
    Calls Try.prog 5 #[MV m, .int .i64 a1] w fun e w' => e = .returned (.bool true) ∧ Below w.heap.size w w' := by
  by_cases h : a1 < 0 ∨ 10000 < a1
  · exact MixerWords_bad m a1 w h
  · obtain ⟨n, rfl⟩ := Int.eq_ofNat_of_zero_le (show 0 ≤ a1 by omega)
    exact MixerWords_good m n w (by omega)
end Go.Proofs.Ytakjcodfcoaadaa
