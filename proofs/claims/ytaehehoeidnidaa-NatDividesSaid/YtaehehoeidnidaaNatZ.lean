/- Numbers of words: the reference's ABig; same, walked. No condition but the size. -/
import Derived.Test.YtaehehoeidnidaaNatY
import Derived.Test.YtaehehoeidnidaaNatV
import Derived.Test.YtaehehoeidnidaaNatW
import Derived.Test.YtaehehoeidnidaaEqu64s
import Derived.Test.YtaehehoeidnidaaSeq
namespace Go.Proofs.Ytaehehoeidnidaa
open Go.ChangeShapes Go.WideShapes Go.ChangeAt Go.RowKit
set_option linter.unusedVariables false

theorem newZ0 (w : World) : IntZ (w.alloc (.cells #[.bool false, .slice none 0 0] tI)) w.heap.size 0 0 :=
  IntZ.shut (b := false) (ds := []) (A := none) (c := 0) (Blk.new w tI _) (Nat.le_refl _) (Nat.zero_le _) (by first | exact TSeg.nil | exact fun h => absurd h (by simp)) ⟨fun i hi => absurd hi (by simp), fun h => absurd h (by simp), by simp, rfl⟩
theorem nv_drop {a : List Nat} {n : Nat} (h : n < a.length) : nv (a.drop n) = nv (a.drop (n + 1)) * 2 ^ 64 + wo a n := by
  rw [List.drop_eq_getElem_cons h, nv_cons, wo_lt h, Nat.mul_comm wB]
  exact Nat.add_comm _ _
theorem wok_drop {a : List Nat} (h : wok a) (n : Nat) : wok (a.drop n) := fun i hi => by
  rw [List.length_drop] at hi
  rw [wo_lt (by rw [List.length_drop]; exact hi), List.getElem_drop]
  have := h (n + i) (by omega)
  rwa [wo_lt (by omega)] at this
theorem fits_nv {a : List Nat} (h : wok a) (hl : a.length ≤ 64) : Fits (nv a : Int) 128 := by
  unfold Fits
  rw [Int.natAbs_natCast]
  have h1 := nv_lt h
  have h2 : wB ^ a.length ≤ wB ^ 64 := Nat.pow_le_pow_right (by decide) hl
  have h3 : wB ^ 64 = bp 128 := by decide
  omega
theorem fits_up {z : Int} (h : Fits z 128) : Fits (z * (2 ^ 64 : Nat)) 130 := by
  unfold Fits at *
  rw [Int.natAbs_mul, Int.natAbs_natCast]
  have h3 : bp 130 = bp 128 * 2 ^ 64 := by decide
  rw [h3]
  exact Nat.mul_lt_mul_of_pos_right h (by decide)
theorem fits_word {n : Nat} (h : n < wB) : Fits (n : Int) 130 := by
  unfold Fits
  rw [Int.natAbs_natCast]
  have h3 : wB ≤ bp 130 := by decide
  omega
set_option maxRecDepth 20000 in
set_option maxHeartbeats 4000000 in
theorem abig_any (A : Option Addr) (a : List Nat) (c : Nat) (w : World) (hs : Seg w w.heap.size A (u64s a)) (ka : wok a) (la : a.length ≤ 64) :
    Calls Try.prog 52 #[.slice A a.length c] w fun e w' => e = .returned (ptrV w.heap.size) ∧ NewZ w w' w.heap.size (nv a) := by
  have HS := Lib.hid hs
  have HK := Lib.hid (And.intro ka la)
  have uL : Hid (wrap64 ((a.length : Int) - 1) = (a.length : Int) - 1) := by unfold Hid wrap64; omega
  have uL2 := uL.out
  have HN0 := Lib.hid (newBlk w (.bool false) (.slice none 0 0))
  have HZ0 : Hid (IntZ (w.alloc (.cells #[.bool false, .slice none 0 0] tI)) w.heap.size 0 0) := newZ0 w
  clear hs ka la
  go_enter Try.func52, Try.ntmps52
  go_wp2_with fail
  clear uL2
  --LOOK1
  go_loopw [4] (fun s4 wx => ∃ (n : Nat), n ≤ a.length ∧ s4 = .int .i64 ((n : Int) - 1) ∧ Hid (IntZ wx w.heap.size 0 (nv (a.drop n) : Nat) ∧ IntBlk wx w.heap.size) ∧ Hid (Below w.heap.size w wx)) (fun s4 _ => (intOf s4 + 1).toNat)
  case atStart => exact ⟨a.length, Nat.le_refl _, by first | rfl | rw [uL.out], ⟨by rw [List.drop_length]; exact HZ0.out, HN0.out⟩, (Below.refl _ _).alloc (Nat.le_refl _) _⟩
  case round =>
    obtain ⟨n, hn, rfl, hx, hb⟩ := hrel
    cases n with
    | zero =>
      go_wp2_with fail
      go_ret
      exact ⟨rfl, hx.out.1, hx.out.2, hb.out, Nat.le_refl _⟩
    | succ k =>
      obtain ⟨ad, rfl, hab, hca0⟩ := HS.out.wo (k := k) (by omega)
      have hca := (hb.out.cell (block_lt hca0)).trans hca0
      have e1 : ((k + 1 : Nat) : Int) - 1 = (k : Int) := by omega
      rw [e1]
      have i0 : (k : Int) < (a.length : Int) := by omega
      have hst : Hid ((((nv (a.drop (k + 1)) : Nat) : Int) * (2 ^ 64 : Nat) + (wo a k : Int)) = ((nv (a.drop k) : Nat) : Int)) := by
        unfold Hid; rw [nv_drop (show k < a.length by omega), Int.natCast_add, Int.natCast_mul]
      have F1 := Lib.hid (fits_nv (wok_drop HK.out.1 (k + 1)) (by have := HK.out.2; rw [List.length_drop]; omega))
      have hwk := HK.out.1.all k
      have F2 := Lib.hid (fits_word hwk)
      have HWK := Lib.hid hwk
      have HKL := Lib.hid (And.intro hca0 (show k + 1 ≤ a.length from hn))
      have uk : Hid (wrap64 ((k : Int) - 1) = (k : Int) - 1) := by have := HK.out; unfold Hid wrap64; omega
      clear hwk hca0 hn e1
      generalize wo a k = y at *
      go_wp2_with fail
      refine (lsh_any w.heap.size w.heap.size 0 64 _ 128 wr hx.out.2 hx.out.1 F1.out (by decide) (by decide)).mono ?_
      rintro e w1 ⟨rfl, hp⟩
      have P1 := Lib.hid hp
      have HB1 : Hid (Below w.heap.size w w1) := rb_put hb.out hp.2.2 (Nat.le_refl _)
      have hca1 := (HB1.out.cell (block_lt HKL.out.1)).trans HKL.out.1
      have hca2 : (w1.alloc (.cells #[.bool false, .slice none 0 0] tI)).cell? (ad.add k) = some (u64v y) := (World.cell?_alloc_lt _ _ _ (block_lt hca1)).trans hca1
      clear hp hca hca1
      go_wp2_with fail
      refine (setU_any w1.heap.size y _ (newBlk _ _ _) HWK.out).mono ?_
      rintro e w2 ⟨rfl, hp⟩
      have P2 := Lib.hid hp.new
      clear hp hca2
      go_wp2_with fail
      refine (add_any w.heap.size w.heap.size 0 w1.heap.size 0 _ _ 130 w2 (P1.out.2.1.below P2.out.2.2.1) (P1.out.1.below P2.out.2.2.1) P2.out.1 (fits_up F1.out) F2.out (by decide)).mono ?_
      rintro e w3 ⟨rfl, hp⟩
      rw [hst.out] at hp
      have P3 := Lib.hid hp
      clear hp
      have huk := uk.out
      go_wp2_with fail
      go_roundw
      case rel => exact ⟨k, by have := HKL.out.2; omega, by rw [uk.out], ⟨P3.out.1, P3.out.2.1⟩, rb_put (rb_go HB1.out P2.out.2.2.1) P3.out.2.2 (Nat.le_refl _)⟩
      case measure => rw [uk.out]; simp [intOf]
theorem seg_ints {w : World} {B : Nat} {A : Option Addr} {l : List Nat} (h : Seg w B A (u64s l)) : Seg w B A ((l.map fun (n : Nat) => (n : Int)).map (.int .u64)) := by
  rw [List.map_map]; exact h
theorem eq_words (A C : Option Addr) (l m : List Nat) (c d B : Nat) (w : World) (hs : Seg w B A (u64s l)) (ht : Seg w B C (u64s m)) (hl : l.length ≤ 9223372036854775807) (he : l = m) :
    Calls Try.prog 98 #[.slice A l.length c, .slice C m.length d] w fun e w' => e = .returned (.bool true) ∧ ∃ n, w' = w.drewN n := by
  have h := eq_u64s (l.map fun (n : Nat) => (n : Int)) (m.map fun (n : Nat) => (n : Int)) A C c d B w (seg_ints hs) (seg_ints ht) (by rw [List.length_map]; exact hl)
  rw [List.length_map, List.length_map, decide_eq_true (by rw [he])] at h
  exact h
set_option maxRecDepth 20000 in
set_option maxHeartbeats 1000000 in
theorem same_true (A : Option Addr) (l : List Nat) (c gx ox : Nat) (z x : Int) (w : World) (hs : Seg w w.heap.size A (u64s l)) (hx : IntZ w gx ox x) (hlen : (wd x.toNat).length ≤ 1000) (hl : l = (nfits x.toNat).1) (hz : z = (nfits x.toNat).2) :
    Calls Try.prog 49 #[.slice A l.length c, .int .i64 z, .pointer (some ⟨gx, ox, none⟩)] w fun e w' => e = .returned (.bool true) ∧ Below w.heap.size w w' := by
  have HW := Lib.hid (awords_any gx ox x w hx hlen)
  rw [← hz] at HW
  have h9 : l.length ≤ 9223372036854775807 := by
    rw [hl]; unfold nfits; split
    · simp
    · show (wd x.toNat).length ≤ _; omega
  have HS := Lib.hid hs
  have HL := Lib.hid (And.intro hl h9)
  clear hs hx hlen hl hz h9
  go_enter Try.func49, Try.ntmps49
  go_wp2_with fail
  refine HW.out.mono ?_
  rintro e w1 ⟨A2, c2, rfl, hc2, s2, hb⟩
  have HE := Lib.hid (eq_words A A2 l _ c c2 w1.heap.size w1 (HS.out.on hb) s2 HL.out.2 HL.out.1)
  have HB := Lib.hid hb
  clear hb s2 hc2 HL
  generalize (nfits x.toNat).1 = m at *
  go_wp2_with fail
  refine HE.out.mono ?_
  rintro e w2 ⟨rfl, n, rfl⟩
  go_wp2_with fail
  go_ret
  exact ⟨rfl, below_drewN HB.out _⟩
end Go.Proofs.Ytaehehoeidnidaa
