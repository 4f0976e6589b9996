/- Package bottom: Join; the reference's LJoin, walked. No condition. -/
import Derived.Test.YtkffakekakhgdaaBotY
import Derived.Test.YtkffakekakhgdaaConu64s
import Derived.Test.YtkffakekakhgdaaContu
namespace Go.Proofs.Ytkffakekakhgdaa
open Go.ChangeShapes Go.WideShapes Go.ChangeAt Go.RowKit
set_option linter.unusedVariables false

abbrev tWs : TypeId := 23
/-- Two slices, one behind the other, as an own one. -/
theorem conc2w (b : Nat) (x y : Vw) (u : World) (hblk : Blk u b tWs #[vwV x, vwV y]) (hx : Seg u u.heap.size x.1 x.2.1) (hy : Seg u u.heap.size y.1 y.2.1) (ox : ∀ v ∈ x.2.1, v.oneCell' = true) (oy : ∀ v ∈ y.2.1, v.oneCell' = true) (hsz : x.2.1.length + y.2.1.length ≤ 1000) :
    Calls Try.prog 36 #[.slice (some ⟨b, 0, none⟩) 2 2] u fun e w' => ∃ A c, e = .returned (.slice A (x.2.1.length + y.2.1.length) c) ∧ Own w' u.heap.size tW (.slice A (x.2.1.length + y.2.1.length) c) (x.2.1 ++ y.2.1) ∧ Below u.heap.size u w' := by
  have hv : VwsOk u u.heap.size (some ⟨b, 0, none⟩) [x, y] := by
    refine ⟨fun _ => ⟨_, rfl, hblk.lt, fun k v hk => ?_⟩, fun z hz => ?_⟩
    · have hk2 : k < 2 := (List.getElem?_eq_some_iff.1 hk).1
      rcases (by omega : k = 0 ∨ k = 1) with rfl | rfl
      · simp at hk; subst hk; exact hblk.cell 0 rfl
      · simp at hk; subst hk; exact hblk.cell 1 rfl
    · rcases List.mem_cons.1 hz with rfl | hz
      · exact ⟨hx, ox⟩
      · rw [List.mem_singleton.1 hz]; exact ⟨hy, oy⟩
  have e1 : vlen [x, y] 2 = x.2.1.length + y.2.1.length := by simp [vlen]
  have e2 : vall [x, y] 2 = x.2.1 ++ y.2.1 := by simp [vall]
  have h := conc_u64s (some ⟨b, 0, none⟩) [x, y] 2 u.heap.size u hv (Nat.le_refl _) (by simp) (by show vlen [x, y] 2 * 8 ≤ _; rw [e1]; omega)
  refine h.mono fun e w' ⟨v, he, ho, hb⟩ => ?_
  rw [show ([x, y] : List Vw).length = 2 from rfl, e2] at ho
  obtain ⟨A, c, rfl, hc, hs⟩ := ho.res2
  rw [List.length_append] at hs
  exact ⟨A, c, by rw [he, List.length_append], hs, hb⟩
theorem own_caps {w : World} {base n c : Nat} {e : TypeId} {A : Option Addr} {xs : List Value} (h : Own w base e (.slice A n c) xs) : n ≤ c ∧ c ≤ maxLen := by
  have hl := h.len
  rcases h.2 with ⟨e0, _⟩ | ⟨g, cap, cur, e0, _, _, hn, hm, _⟩
  · injection e0 with _ e1 e2
    subst e1; subst e2
    exact ⟨Nat.le_refl _, Nat.zero_le _⟩
  · injection e0 with _ e1 e2
    subst e2
    exact ⟨by omega, hm⟩
/-- What Join hands back. -/
def bjres (seed : BitVec 64) (room : Int) (a b : List (BitVec 64)) : List (BitVec 64) × Nat := if bright seed room a && bright seed room b then ((sortK (brank seed) (a ++ b)).take room.toNat, 0) else ([], 1)
def JOut (w : World) (r : List (BitVec 64) × Nat) (e : Ending) (w' : World) : Prop := ∃ A c, e = .returned (.tuple #[.slice A r.1.length c, .int .i64 (r.2 : Nat)]) ∧ r.1.length ≤ c ∧ Seg w' w'.heap.size A (r.1.map W64) ∧ Below w.heap.size w w'
theorem bright_facts {seed : BitVec 64} {room : Int} {l : List (BitVec 64)} (h : bright seed room l = true) : 1 ≤ room ∧ room ≤ 400 ∧ l.length ≤ 400 ∧ (l.length : Int) ≤ room ∧ Rising (brank seed) l := by
  have := of_decide_eq_true h
  exact ⟨this.1.1, this.1.2, by omega, this.2.1, this.2.2⟩
set_option maxRecDepth 20000 in
set_option maxHeartbeats 4000000 in
theorem bjoin_any (seed : BitVec 64) (room : Int) (A C : Option Addr) (a b : List (BitVec 64)) (c d : Nat) (w : World) (ha : Seg w w.heap.size A (a.map W64)) (hb : Seg w w.heap.size C (b.map W64)) :
    Calls Try.prog 6 #[W64 seed, .int .i64 room, .slice A a.length c, .slice C b.length d] w fun e w' => JOut w (bjres seed room a b) e w' := by
  have HA := Lib.hid ((ha.alloc (Nat.le_refl _) (.cells #[W64 seed] tW)).more (show w.heap.size ≤ (w.alloc (.cells #[W64 seed] tW)).heap.size by simp))
  have HC := Lib.hid ((hb.alloc (Nat.le_refl _) (.cells #[W64 seed] tW)).more (show w.heap.size ≤ (w.alloc (.cells #[W64 seed] tW)).heap.size by simp))
  have HB1 : Hid (Below w.heap.size w (w.alloc (.cells #[W64 seed] tW))) := (Below.refl _ _).alloc (Nat.le_refl _) _
  have HBX : Hid ((w.alloc (.cells #[W64 seed] tW)).cell? ⟨w.heap.size, 0, none⟩ = some (W64 seed)) := cell_new1 _ _ _
  clear ha hb
  have hc := HBX.out
  obtain ⟨n, hn⟩ : ∃ n, n = a.length := ⟨_, rfl⟩
  obtain ⟨m, hm⟩ : ∃ m, m = b.length := ⟨_, rfl⟩
  have HRA : Hid (∀ u, Seg u u.heap.size A (a.map W64) → Calls Try.prog 10 #[W64 seed, .int .i64 room, .slice A n c] u fun e w' => e = .returned (.bool (bright seed room a)) ∧ ∃ m, w' = u.drewN m) := fun u h => by rw [hn]; exact bright_any seed room A a c _ u h
  have HRB : Hid (∀ u, Seg u u.heap.size C (b.map W64) → Calls Try.prog 10 #[W64 seed, .int .i64 room, .slice C m d] u fun e w' => e = .returned (.bool (bright seed room b)) ∧ ∃ m, w' = u.drewN m) := fun u h => by rw [hm]; exact bright_any seed room C b d _ u h
  rw [← hn, ← hm]
  have HL := Lib.hid (And.intro hn hm)
  clear hn hm
  by_cases h1 : bright seed room a = true
  · by_cases h2 : bright seed room b = true
    · have HF1 := Lib.hid (bright_facts h1)
      have HF2 := Lib.hid (bright_facts h2)
      have HRES : Hid (bjres seed room a b = ((sortK (brank seed) (a ++ b)).take room.toNat, 0)) := if_pos (by rw [h1, h2]; rfl)
      rw [h1] at HRA
      rw [h2] at HRB
      clear h1 h2
      go_enter Try.func6, Try.ntmps6
      go_wp2_with fail
      refine (HRA.out _ HA.out).mono ?_
      rintro e w2 ⟨rfl, m2, rfl⟩
      go_wp2_with fail
      refine (HRB.out _ (HC.out.drewN m2)).mono ?_
      rintro e w3 ⟨rfl, m3, rfl⟩
      go_wp2_with fail
      --LOOK1
      clear hc
      have HBW : Hid (Below (w.alloc (.cells #[W64 seed] tW)).heap.size (w.alloc (.cells #[W64 seed] tW)) (((w.alloc (.cells #[W64 seed] tW)).drewN (m2 + m3)).alloc (.cells #[.slice A n c, .slice C m d] tWs))) := (below_drewN (Below.refl (w.alloc (.cells #[W64 seed] tW)).heap.size (w.alloc (.cells #[W64 seed] tW))) (m2 + m3)).alloc (w := (w.alloc (.cells #[W64 seed] tW)).drewN (m2 + m3)) (show (w.alloc (.cells #[W64 seed] tW)).heap.size ≤ ((w.alloc (.cells #[W64 seed] tW)).drewN (m2 + m3)).heap.size from Nat.le_refl _) _
      have HBK : Hid (Blk (((w.alloc (.cells #[W64 seed] tW)).drewN (m2 + m3)).alloc (.cells #[.slice A n c, .slice C m d] tWs)) (w.heap.size + 1) tWs #[.slice A n c, .slice C m d]) := by simpa [Hid] using Blk.new ((w.alloc (.cells #[W64 seed] tW)).drewN (m2 + m3)) tWs #[.slice A n c, .slice C m d]
      obtain ⟨w4, hw4⟩ : ∃ w4, w4 = ((w.alloc (.cells #[W64 seed] tW)).drewN (m2 + m3)).alloc (.cells #[.slice A n c, .slice C m d] tWs) := ⟨_, rfl⟩
      rw [← hw4] at HBW HBK ⊢
      clear hw4
      have HSA := Lib.hid (Seg.more (HA.out.below HBW.out) HBW.out.size)
      have HSC := Lib.hid (Seg.more (HC.out.below HBW.out) HBW.out.size)
      have HBX4 : Hid (w4.cell? ⟨w.heap.size, 0, none⟩ = some (W64 seed)) := by
        unfold Hid
        rw [HBW.out.cell (p := ⟨w.heap.size, 0, none⟩) (by simp)]
        exact HBX.out
      have HB4 : Hid (Below w.heap.size w w4) := HB1.out.trans (HBW.out.mono HB1.out.size)
      have hlt4 : Hid (w.heap.size < w4.heap.size) := by
        have h := HBW.out.size
        unfold Hid
        simp at h
        omega
      obtain ⟨N, hN⟩ : ∃ N, N = (a ++ b).length := ⟨_, rfl⟩
      have HN : Hid (N = (a ++ b).length ∧ n + m = N ∧ N ≤ 1000) := by
        have h1 := HF1.out.2.2.1
        have h2 := HF2.out.2.2.1
        have h3 := HL.out
        rw [List.length_append] at hN
        exact ⟨by rw [List.length_append]; exact hN, by omega, by omega⟩
      clear hN
      have HCC : Hid (Calls Try.prog 36 #[.slice (some ⟨w.heap.size + 1, 0, none⟩) 2 2] w4 fun e w' => ∃ A5 c5, e = .returned (.slice A5 N c5) ∧ Own w' w4.heap.size tW (.slice A5 N c5) ((a ++ b).map W64) ∧ Below w4.heap.size w4 w') := by
        have e1 : (a.map W64).length = n := by rw [List.length_map]; exact HL.out.1.symm
        have e2 : (b.map W64).length = m := by rw [List.length_map]; exact HL.out.2.symm
        have h := conc2w (w.heap.size + 1) (A, a.map W64, c) (C, b.map W64, d) w4 (by show Blk w4 _ tWs #[.slice A (a.map W64).length c, .slice C (b.map W64).length d]; rw [e1, e2]; exact HBK.out) HSA.out HSC.out (bword_one a) (bword_one b) (by show (a.map W64).length + (b.map W64).length ≤ 1000; rw [e1, e2, HN.out.2.1]; exact HN.out.2.2)
        simp only [e1, e2, HN.out.2.1, ← List.map_append] at h
        exact h
      refine HCC.out.mono ?_
      rintro e w5 ⟨A5, c5, rfl, ho5, hb5⟩
      have HO5 := Lib.hid ho5
      have HB5 := Lib.hid hb5
      clear ho5 hb5 HCC HSA HSC HA HC HBK
      have HBX5 : Hid (w5.cell? ⟨w.heap.size, 0, none⟩ = some (W64 seed)) := by
        unfold Hid
        rw [HB5.out.cell (p := ⟨w.heap.size, 0, none⟩) hlt4.out]
        exact HBX4.out
      have HSORT : Hid (Calls Try.prog 37 #[.slice A5 N c5, .func (.func 38) #[] #[.pointer (some ⟨w.heap.size, 0, none⟩)]] w5 fun e w' => e = .returned (.tuple #[]) ∧ Own w' w4.heap.size tW (.slice A5 N c5) ((bms seed (a ++ b)).map W64) ∧ Below w4.heap.size w5 w') := by
        have h := HO5.out
        unfold Hid
        rw [HN.out.1] at h ⊢
        exact bsort_any seed (a ++ b) A5 c5 w4.heap.size w.heap.size w5 h hlt4.out HB5.out.size HBX5.out (by rw [← HN.out.1]; exact HN.out.2.2)
      go_wp2_with fail
      refine HSORT.out.mono ?_
      rintro e w6 ⟨rfl, ho6, hb6⟩
      have HO6 := Lib.hid ho6
      have HB6 := Lib.hid (HB5.out.trans hb6)
      clear ho6 hb6 HSORT HBX5 HBX4
      obtain ⟨s, hs⟩ : ∃ s, s = sortK (brank seed) (a ++ b) := ⟨_, rfl⟩
      obtain ⟨L, hL⟩ : ∃ L, L = s.length := ⟨_, rfl⟩
      have HCMP : Hid (Calls Try.prog 41 #[.slice A5 N c5] w6 fun e w' => e = .returned (.slice A5 L c5) ∧ Own w' w4.heap.size tW (.slice A5 L c5) (s.map W64) ∧ Below w4.heap.size w6 w') := by
        have h := HO6.out
        unfold Hid
        rw [hL, hs]
        rw [HN.out.1] at h ⊢
        exact bcompact_any seed (a ++ b) A5 c5 w4.heap.size w6 h HB6.out.size (by rw [← HN.out.1]; exact HN.out.2.2)
      rw [← hs] at HRES
      have HLS := Lib.hid hL
      clear hs hL
      go_wp2_with fail
      refine HCMP.out.mono ?_
      rintro e w7 ⟨rfl, ho7, hb7⟩
      have HO7 := Lib.hid ho7
      have HB7 := Lib.hid (HB4.out.trans ((HB6.out.trans hb7).mono (Nat.le_of_lt hlt4.out)))
      clear ho7 hb7 HCMP
      obtain ⟨R, rfl⟩ : ∃ R : Nat, room = (R : Int) := ⟨room.toNat, by have := HF1.out.1; omega⟩
      have HCL : Hid (L ≤ c5 ∧ c5 ≤ maxLen) := by
        exact own_caps HO7.out
      have HCC := HCL.out.1
      obtain ⟨K, hK⟩ : ∃ K, K = min R L := ⟨_, rfl⟩
      have hmin : min (R : Int) (L : Int) = (K : Int) := by omega
      have i3 : (K : Int) ≤ (c5 : Int) := by omega
      have HK : Hid (K = min R L ∧ K ≤ c5) := ⟨hK, by omega⟩
      clear hK HCC
      go_wp2_with fail
      refine (bclip_any A5 K c5 _ HK.out.2 HCL.out.2).mono ?_
      rintro e w8 ⟨rfl, rfl⟩
      go_wp2_with fail
      go_ret2
      rw [HRES.out]
      have hlen : (s.take (Int.toNat (R : Int))).length = K := by rw [Int.toNat_natCast, List.length_take, ← HLS.out]; exact HK.out.1.symm
      refine ⟨A5, K, by rw [hlen]; rfl, by rw [hlen]; exact Nat.le_refl _, ?_, HB7.out⟩
      rw [Int.toNat_natCast, List.map_take]
      exact HO7.out.seg.pre R
    · have hf : bright seed room b = false := by simpa using h2
      have HRES : Hid (bjres seed room a b = ([], 1)) := if_neg (by rw [h1, hf]; simp)
      rw [h1] at HRA
      rw [hf] at HRB
      clear h1 h2 hf
      go_enter Try.func6, Try.ntmps6
      go_wp2_with fail
      refine (HRA.out _ HA.out).mono ?_
      rintro e w2 ⟨rfl, m2, rfl⟩
      go_wp2_with fail
      refine (HRB.out _ (HC.out.drewN m2)).mono ?_
      rintro e w3 ⟨rfl, m3, rfl⟩
      go_wp2_with fail
      go_ret2
      rw [HRES.out]
      exact ⟨none, 0, rfl, Nat.le_refl _, Seg.nil, below_drewN HB1.out _⟩
  · have hf : bright seed room a = false := by simpa using h1
    have HRES : Hid (bjres seed room a b = ([], 1)) := if_neg (by rw [hf]; simp)
    rw [hf] at HRA
    clear h1 hf
    go_enter Try.func6, Try.ntmps6
    go_wp2_with fail
    refine (HRA.out _ HA.out).mono ?_
    rintro e w2 ⟨rfl, m2, rfl⟩
    go_wp2_with fail
    go_ret2
    rw [HRES.out]
    exact ⟨none, 0, rfl, Nat.le_refl _, Seg.nil, below_drewN HB1.out _⟩
end Go.Proofs.Ytkffakekakhgdaa
