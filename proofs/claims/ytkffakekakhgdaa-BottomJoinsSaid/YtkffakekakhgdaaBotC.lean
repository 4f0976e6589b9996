/- Package bottom: All and Common, walked. No condition. -/
import Derived.Test.YtkffakekakhgdaaBotA
namespace Go.Proofs.Ytkffakekakhgdaa
open Go.ChangeShapes Go.WideShapes Go.ChangeAt Go.RowKit
set_option linter.unusedVariables false

/-- What All hands back. -/
def bkeep (seed : BitVec 64) (room : Int) (l : List (BitVec 64)) : List (BitVec 64) := (sortK (brank seed) l).take room.toNat
def ballr (seed : BitVec 64) (room : Int) (l : List (BitVec 64)) : List (BitVec 64) × Nat := if 1 ≤ room ∧ room ≤ 400 then (bkeep seed room l, 0) else ([], 2)
theorem bstep (seed : BitVec 64) (room : Int) (l : List (BitVec 64)) (h1 : 1 ≤ room) (h2 : room ≤ 400) {k : Nat} (hk : k < l.length) : bjres seed room (bkeep seed room (l.take k)) [l[k]] = (bkeep seed room (l.take (k + 1)), 0) := by
  have e1 : bright seed room (bkeep seed room (l.take k)) = true := decide_eq_true ⟨⟨h1, h2⟩, by
    have : (bkeep seed room (l.take k)).length ≤ room.toNat := List.length_take_le _ _
    omega, rising_take (rising_sortK _) _⟩
  have e2 : bright seed room [l[k]] = true := decide_eq_true ⟨⟨h1, h2⟩, by simp; omega, List.pairwise_singleton _ _⟩
  unfold bjres
  rw [e1, e2, if_pos (by rfl)]
  unfold bkeep
  rw [keep_more (brank_inj seed), List.take_succ_eq_append_getElem hk]
theorem bkeep_nil (seed : BitVec 64) (room : Int) : bkeep seed room [] = [] := by unfold bkeep; rw [show sortK (brank seed) [] = [] from rfl, List.take_nil]
theorem seg_new1 (w : World) (u : Value) (t : TypeId) : Seg (w.alloc (.cells #[u] t)) (w.alloc (.cells #[u] t)).heap.size (some ⟨w.heap.size, 0, none⟩) [u] := fun _ => by
  refine ⟨_, rfl, by simp, fun k v hk => ?_⟩
  have h0 : k = 0 := by have := (List.getElem?_eq_some_iff.1 hk).1; simp at this; exact this
  subst h0
  simp at hk
  subst hk
  exact cell_new1 w u t
set_option maxRecDepth 20000 in
set_option maxHeartbeats 4000000 in
theorem ball_any (seed : BitVec 64) (room : Int) (A : Option Addr) (l : List (BitVec 64)) (c : Nat) (w : World) (hs : Seg w w.heap.size A (l.map W64)) (hm : l.length ≤ 9223372036854775807) :
    Calls Try.prog 9 #[W64 seed, .int .i64 room, .slice A l.length c] w fun e w' => JOut w (ballr seed room l) e w' := by
  have HS := Lib.hid hs
  clear hs
  obtain ⟨n, hn⟩ : ∃ n, n = l.length := ⟨_, rfl⟩
  rw [← hn] at hm ⊢
  have HN := Lib.hid (And.intro hn hm)
  clear hn hm
  rcases (by omega : room < 1 ∨ (¬ room < 1 ∧ 400 < room) ∨ (¬ room < 1 ∧ ¬ 400 < room)) with h1 | ⟨h1, h2⟩ | ⟨h1, h2⟩
  · have hf : Hid (ballr seed room l = ([], 2)) := if_neg (fun h => by omega)
    go_enter Try.func9, Try.ntmps9
    go_wp2_with fail
    go_ret2
    exact ⟨none, 0, by rw [hf.out]; rfl, by rw [hf.out]; exact Nat.le_refl _, by rw [hf.out]; exact Seg.nil, Below.refl _ _⟩
  · have hf : Hid (ballr seed room l = ([], 2)) := if_neg (fun h => by omega)
    go_enter Try.func9, Try.ntmps9
    go_wp2_with fail
    go_ret2
    exact ⟨none, 0, by rw [hf.out]; rfl, by rw [hf.out]; exact Nat.le_refl _, by rw [hf.out]; exact Seg.nil, Below.refl _ _⟩
  · have HRES : Hid (ballr seed room l = (bkeep seed room l, 0)) := if_pos ⟨by omega, by omega⟩
    have HST : Hid (∀ k (hk : k < l.length), bjres seed room (bkeep seed room (l.take k)) [l[k]] = (bkeep seed room (l.take (k + 1)), 0)) := fun k hk => bstep seed room l (by omega) (by omega) hk
    go_enter Try.func9, Try.ntmps9
    go_wp2_with fail
    clear h1 h2
    go_loopw [8, 21] (fun s8 s21 wx => ∃ (k : Nat) (A8 : Option Addr) (c8 : Nat), k ≤ n ∧ s21 = .int .i64 k ∧ s8 = .slice A8 (bkeep seed room (l.take k)).length c8 ∧ Hid ((bkeep seed room (l.take k)).length ≤ c8) ∧ Hid (Seg wx wx.heap.size A8 ((bkeep seed room (l.take k)).map W64)) ∧ Hid (Below w.heap.size w wx)) (fun _ s21 _ => n - (intOf s21).toNat)
    case atStart => exact ⟨0, none, 0, Nat.zero_le _, rfl, by rw [List.take_zero, bkeep_nil]; rfl, by rw [List.take_zero, bkeep_nil]; exact Nat.le_refl _, by rw [List.take_zero, bkeep_nil]; exact Seg.nil, Below.refl _ _⟩
    case round =>
      obtain ⟨k, A8, c8, hkn, rfl, rfl, hc8, hseg, hb⟩ := hrel
      by_cases hkl : k < n
      · have i1 : (k : Int) < (n : Int) := by omega
        have hk2 : k < l.length := by rw [← HN.out.1]; exact hkl
        have HSTK := Lib.hid (HST.out k hk2)
        have ui : Hid (wrap64 ((k : Int) + 1) = ((k + 1 : Nat) : Int)) := by have := HN.out.2; unfold Hid wrap64; omega
        obtain ⟨ad, rfl, hab, hc1⟩ := HS.out.word hk2
        obtain ⟨x, hx⟩ : ∃ x, x = l[k] := ⟨_, rfl⟩
        rw [← hx] at hc1 HSTK
        have hc1' : wr.cell? (ad.add k) = some (W64 x) := by rw [hb.out.cell (p := ad.add k) (badd hab)]; exact hc1
        have HK := Lib.hid hkl
        obtain ⟨t, ht⟩ : ∃ t, t = bkeep seed room (l.take k) := ⟨_, rfl⟩
        rw [← ht] at HSTK hseg hc8 ⊢
        clear hx hk2 hc1 hab hkn hkl ht HST
        have HT : Hid (Seg (wr.alloc (.cells #[W64 x] tW)) (wr.alloc (.cells #[W64 x] tW)).heap.size A8 (t.map W64)) := (hseg.out.alloc (Nat.le_refl _) _).more (by simp)
        have HX : Hid (Seg (wr.alloc (.cells #[W64 x] tW)) (wr.alloc (.cells #[W64 x] tW)).heap.size (some ⟨wr.heap.size, 0, none⟩) ([x].map W64)) := seg_new1 _ _ _
        have HJ : Hid (Calls Try.prog 6 #[W64 seed, .int .i64 room, .slice A8 t.length c8, .slice (some ⟨wr.heap.size, 0, none⟩) 1 1] (wr.alloc (.cells #[W64 x] tW)) fun e w' => JOut (wr.alloc (.cells #[W64 x] tW)) (bjres seed room t [x]) e w') := bjoin_any seed room A8 _ t [x] c8 1 _ HT.out HX.out
        go_wp2_with fail
        refine HJ.out.mono ?_
        rw [HSTK.out]
        rintro e w2 ⟨A9, c9, rfl, hc9, hs9, hb9⟩
        have HC9 := Lib.hid hc9
        have HS9 := Lib.hid hs9
        have HB9 : Hid (Below w.heap.size w w2) := hb.out.trans ((((Below.refl wr.heap.size wr).alloc (Nat.le_refl _) _).trans (hb9.mono (by simp))).mono hb.out.size)
        clear hc9 hs9 hb9 HJ HT HX
        go_wp2_with fail
        go_roundw
        case rel => exact ⟨k + 1, A9, c9, HK.out, by first | rfl | rw [ui.out], rfl, HC9.out, HS9.out, HB9.out⟩
        case measure => (try rw [ui.out]); have := HK.out; simp [intOf]; omega
      · obtain rfl : k = n := by omega
        have HF : Hid (l.take k = l) := List.take_of_length_le (by rw [HN.out.1]; exact Nat.le_refl _)
        rw [HF.out] at hc8 hseg ⊢
        have i1 : ¬ (k : Int) < (k : Int) := Int.lt_irrefl _
        go_wp2_with fail
        go_ret2
        exact ⟨A8, c8, by rw [HRES.out]; rfl, by rw [HRES.out]; exact hc8.out, by rw [HRES.out]; exact hseg.out, hb.out⟩
/-- What Common hands back. -/
def bboth (a b l : List (BitVec 64)) : Nat := (l.filter fun x => decide (x ∈ a) && decide (x ∈ b)).length
theorem bboth_snoc (a b l : List (BitVec 64)) (x : BitVec 64) : bboth a b (l ++ [x]) = bboth a b l + (if (decide (x ∈ a) && decide (x ∈ b)) = true then 1 else 0) := by
  unfold bboth
  rw [List.filter_append, List.length_append]
  congr 1
  rw [List.filter_cons]
  split <;> simp [*]
theorem bboth_le (a b l : List (BitVec 64)) : bboth a b l ≤ l.length := List.length_filter_le _ _
theorem has_u64 (l : List (BitVec 64)) (x : BitVec 64) (A : Option Addr) (c B : Nat) (w : World) (hs : Seg w B A (l.map W64)) (hm : l.length ≤ 9223372036854775807) :
    Calls Try.prog 13 #[.slice A l.length c, W64 x] w fun e w' => e = .returned (.bool (decide (x ∈ l))) ∧ w = w' := by
  have h := contains_u64s (l.map wv) (wv x) A c B w (by rw [List.map_map]; exact hs) (by rw [List.length_map]; exact hm)
  rw [List.length_map] at h
  have e : decide (wv x ∈ l.map wv) = decide (x ∈ l) := by
    rw [decide_eq_decide]
    rw [List.mem_map]
    exact ⟨fun ⟨y, hy, h⟩ => by rw [← wv_inj h]; exact hy, fun h => ⟨x, h, rfl⟩⟩
  rw [e] at h
  exact h
def bcres (seed : BitVec 64) (room : Int) (a b : List (BitVec 64)) : Nat × Nat × Nat := if (bjres seed room a b).2 = 0 then (bboth a b (bjres seed room a b).1, (bjres seed room a b).1.length, 0) else (0, 0, 1)
theorem bjres_cases (seed : BitVec 64) (room : Int) (a b : List (BitVec 64)) : (∃ t, bjres seed room a b = (t, 0) ∧ bcres seed room a b = (bboth a b t, t.length, 0) ∧ t.length ≤ 400) ∨ (bjres seed room a b = ([], 1) ∧ bcres seed room a b = (0, 0, 1)) := by
  by_cases h : (bright seed room a && bright seed room b) = true
  · left
    have e : bjres seed room a b = ((sortK (brank seed) (a ++ b)).take room.toNat, 0) := if_pos h
    refine ⟨_, e, ?_, ?_⟩
    · unfold bcres; rw [e]; rfl
    · have h1 := (bright_facts (Bool.and_eq_true_iff.1 h).1).2.1
      have : ((sortK (brank seed) (a ++ b)).take room.toNat).length ≤ room.toNat := List.length_take_le _ _
      omega
  · right
    have e : bjres seed room a b = ([], 1) := if_neg h
    exact ⟨e, by unfold bcres; rw [e]; rfl⟩
set_option maxRecDepth 20000 in
set_option maxHeartbeats 4000000 in
theorem bcommon_any (seed : BitVec 64) (room : Int) (A C : Option Addr) (a b : List (BitVec 64)) (c d : Nat) (w : World) (ha : Seg w w.heap.size A (a.map W64)) (hb : Seg w w.heap.size C (b.map W64)) (hma : a.length ≤ 9223372036854775807) (hmb : b.length ≤ 9223372036854775807) :
    Calls Try.prog 8 #[W64 seed, .int .i64 room, .slice A a.length c, .slice C b.length d] w fun e w' => e = .returned (.tuple #[.int .i64 (bcres seed room a b).1, .int .i64 (bcres seed room a b).2.1, .int .i64 (bcres seed room a b).2.2]) ∧ Below w.heap.size w w' := by
  have HA := Lib.hid ha
  have HC := Lib.hid hb
  have HJ : Hid (∀ u, Below w.heap.size w u → Calls Try.prog 6 #[W64 seed, .int .i64 room, .slice A a.length c, .slice C b.length d] u fun e w' => JOut u (bjres seed room a b) e w') := fun u hu => bjoin_any seed room A C a b c d u ((ha.below hu).more hu.size) ((hb.below hu).more hu.size)
  have HIA : Hid (∀ x u, Below w.heap.size w u → Calls Try.prog 13 #[.slice A a.length c, W64 x] u fun e w' => e = .returned (.bool (decide (x ∈ a))) ∧ u = w') := fun x u hu => has_u64 a x A c w.heap.size u (ha.below hu) (by omega)
  have HIB : Hid (∀ x u, Below w.heap.size w u → Calls Try.prog 13 #[.slice C b.length d, W64 x] u fun e w' => e = .returned (.bool (decide (x ∈ b))) ∧ u = w') := fun x u hu => has_u64 b x C d w.heap.size u (hb.below hu) (by omega)
  obtain ⟨n, hn⟩ : ∃ n, n = a.length := ⟨_, rfl⟩
  obtain ⟨m, hm⟩ : ∃ m, m = b.length := ⟨_, rfl⟩
  rw [← hn] at HJ HIA ⊢
  rw [← hm] at HJ HIB ⊢
  clear ha hb hma hmb hn hm
  rcases bjres_cases seed room a b with ⟨t, e1, e2, ht4⟩ | ⟨e1, e2⟩
  · have HR := Lib.hid e2
    have HT4 := Lib.hid ht4
    rw [e1] at HJ
    clear e1 e2 ht4
    go_enter Try.func8, Try.ntmps8
    go_wp2_with fail
    refine (HJ.out _ (Below.refl _ _)).mono ?_
    rintro e w2 ⟨A2, c2, rfl, hc2, hs2, hb2⟩
    have HB2 := Lib.hid hb2
    have HS2 := Lib.hid hs2
    have HC2 := Lib.hid hc2
    clear hc2 hs2 hb2 HJ
    obtain ⟨N, hN⟩ : ∃ N, N = t.length := ⟨_, rfl⟩
    have HN : Hid (N = t.length ∧ N ≤ 400) := ⟨hN, by rw [hN]; exact HT4.out⟩
    rw [show (t, 0).1.length = t.length from rfl, ← hN]
    clear hN
    go_wp2_with fail
    --LOOK1
    go_loopw [13, 29] (fun s13 s29 wx => ∃ k : Nat, k ≤ N ∧ s29 = .int .i64 k ∧ s13 = .int .i64 (bboth a b (t.take k) : Nat) ∧ wx = w2) (fun _ s29 _ => N - (intOf s29).toNat)
    case atStart => exact ⟨0, Nat.zero_le _, rfl, rfl, rfl⟩
    case round =>
      obtain ⟨k, hkN, rfl, rfl, rfl⟩ := hrel
      by_cases hkl : k < N
      · have i1 : (k : Int) < (N : Int) := by omega
        have hk2 : k < t.length := by rw [← HN.out.1]; exact hkl
        have HST : Hid (bboth a b (t.take (k + 1)) = bboth a b (t.take k) + (if (decide (t[k] ∈ a) && decide (t[k] ∈ b)) = true then 1 else 0)) := by unfold Hid; rw [List.take_succ_eq_append_getElem hk2, bboth_snoc]
        have ui : Hid (wrap64 ((k : Int) + 1) = ((k + 1 : Nat) : Int)) := by have := HN.out.2; unfold Hid wrap64; omega
        obtain ⟨ad, rfl, hab, hc1⟩ := HS2.out.word hk2
        obtain ⟨x, hx⟩ : ∃ x, x = t[k] := ⟨_, rfl⟩
        rw [← hx] at hc1 HST
        have hle : bboth a b (t.take k) ≤ 400 := Nat.le_trans (bboth_le _ _ _) (by rw [List.length_take]; have := HN.out; omega)
        obtain ⟨q, hq⟩ : ∃ q, q = bboth a b (t.take k) := ⟨_, rfl⟩
        rw [← hq] at hle HST ⊢
        have uq : Hid (wrap64 ((q : Int) + 1) = ((q + 1 : Nat) : Int)) := by unfold Hid wrap64; omega
        have HIAx := Lib.hid (HIA.out x _ HB2.out)
        have HIBx := Lib.hid (HIB.out x _ HB2.out)
        have HK := Lib.hid hkl
        obtain ⟨fa, hfa⟩ : ∃ fa, fa = decide (x ∈ a) := ⟨_, rfl⟩
        obtain ⟨fb, hfb⟩ : ∃ fb, fb = decide (x ∈ b) := ⟨_, rfl⟩
        rw [← hfa] at HIAx HST
        rw [← hfb] at HIBx HST
        clear hx hk2 hab hkN hkl hq hle hfa hfb
        cases fa with
        | false =>
          go_wp2_with fail
          refine HIAx.out.mono ?_
          rintro e w3 ⟨rfl, rfl⟩
          go_wp2_with fail
          go_roundw
          case rel => exact ⟨k + 1, HK.out, by first | rfl | rw [ui.out], by rw [HST.out]; rfl, by first | rfl | trivial⟩
          case measure => (try rw [ui.out]); have := HK.out; simp [intOf]; omega
        | true =>
          cases fb with
          | false =>
            go_wp2_with fail
            refine HIAx.out.mono ?_
            rintro e w3 ⟨rfl, rfl⟩
            go_wp2_with fail
            refine HIBx.out.mono ?_
            rintro e w3 ⟨rfl, rfl⟩
            go_wp2_with fail
            go_roundw
            case rel => exact ⟨k + 1, HK.out, by first | rfl | rw [ui.out], by rw [HST.out]; rfl, by first | rfl | trivial⟩
            case measure => (try rw [ui.out]); have := HK.out; simp [intOf]; omega
          | true =>
            go_wp2_with fail
            refine HIAx.out.mono ?_
            rintro e w3 ⟨rfl, rfl⟩
            go_wp2_with fail
            refine HIBx.out.mono ?_
            rintro e w3 ⟨rfl, rfl⟩
            go_wp2_with fail
            go_roundw
            case rel => exact ⟨k + 1, HK.out, by first | rfl | rw [ui.out], by rw [HST.out]; first | rfl | (rw [uq.out]; rfl), by first | rfl | trivial⟩
            case measure => (try rw [ui.out]); have := HK.out; simp [intOf]; omega
      · obtain rfl : k = N := by omega
        have HF : Hid (t.take k = t) := List.take_of_length_le (by rw [HN.out.1]; exact Nat.le_refl _)
        rw [HF.out]
        have i1 : ¬ (k : Int) < (k : Int) := Int.lt_irrefl _
        go_wp2_with fail
        go_ret3
        exact ⟨by rw [HR.out, ← HN.out.1]; rfl, HB2.out⟩
  · have HR := Lib.hid e2
    rw [e1] at HJ
    clear e1 e2
    go_enter Try.func8, Try.ntmps8
    go_wp2_with fail
    refine (HJ.out _ (Below.refl _ _)).mono ?_
    rintro e w2 ⟨A2, c2, rfl, hc2, hs2, hb2⟩
    have HB2 := Lib.hid hb2
    clear hc2 hs2 hb2 HJ
    go_wp2_with fail
    go_ret3
    exact ⟨by rw [HR.out]; rfl, HB2.out⟩
end Go.Proofs.Ytkffakekakhgdaa
