/- cycles.Back, walked, where all the rows together are no more than so long. No condition but that. -/
import Derived.Test.YtkffakekakhgdaaCycC
import Derived.Test.YtkffakekakhgdaaRepI
import Derived.Test.YtkffakekakhgdaaRwI
namespace Go.Proofs.Ytkffakekakhgdaa
open Go.ChangeShapes Go.WideShapes Go.ChangeAt Go.RowKit
set_option linter.unusedVariables false

/-- A slice of slices of numbers, to be read. -/
def RowsR (W : World) (B : Nat) (A : Option Addr) (R : List (List Int)) : Prop :=
  ∀ k (h : k < R.length), ∃ ad A' c', A = some ad ∧ ad.block < B ∧ W.cell? (ad.add k) = some (.slice A' (R[k]).length c') ∧ Seg W B A' ((R[k]).map (.int .i64))
theorem RowsR.below {W W' : World} {B : Nat} {A : Option Addr} {R : List (List Int)} (h : RowsR W B A R) (hb : Below B W W') : RowsR W' B A R := fun k hk => by
  obtain ⟨ad, A', c', h1, h2, h3, h4⟩ := h k hk
  exact ⟨ad, A', c', h1, h2, by rw [hb.cell (p := ad.add k) (by rw [add_block]; exact h2)]; exact h3, h4.below hb⟩
theorem RowsR.more {W : World} {B B' : Nat} {A : Option Addr} {R : List (List Int)} (h : RowsR W B A R) (hb : B ≤ B') : RowsR W B' A R := fun k hk => by
  obtain ⟨ad, A', c', h1, h2, h3, h4⟩ := h k hk
  exact ⟨ad, A', c', h1, by omega, h3, h4.more hb⟩
theorem RowsR.on {W W' : World} {A : Option Addr} {R : List (List Int)} (h : RowsR W W.heap.size A R) (hb : Below W.heap.size W W') : RowsR W' W'.heap.size A R := (h.below hb).more hb.size
theorem RowsO.read {W : World} {base m c : Nat} {A : Option Addr} {R : List (List Int)} (h : RowsO W base (.slice A m c) R) : RowsR W W.heap.size A R := fun k hk => by
  obtain ⟨ad, A', c', h1, h2, h3⟩ := h.at_ hk
  obtain ⟨A2, c2, e2, _, hs⟩ := h3.res
  injection e2 with e3 _ _
  exact ⟨ad, A', c', h1, by have := block_lt h2; rwa [add_block] at this, h2, by rw [e3]; exact hs⟩

/-! ### plain -/
theorem flat_split (R : List (List Int)) {i : Nat} (hi : i < R.length) : R.flatten = (R.take i).flatten ++ (R[i] ++ (R.drop (i + 1)).flatten) := by
  conv => lhs; rw [← List.take_append_drop i R]
  rw [List.flatten_append, List.drop_eq_getElem_cons hi, List.flatten_cons]
def offR (R : List (List Int)) (i : Nat) : Nat := (R.take i).flatten.length
theorem offR_step (R : List (List Int)) {i : Nat} (hi : i < R.length) : offR R (i + 1) = offR R i + (R[i]).length := by
  unfold offR
  rw [List.take_succ_eq_append_getElem hi, List.flatten_append, List.length_append]
  simp
theorem offR_le (R : List (List Int)) {i : Nat} (hi : i < R.length) : offR R i + (R[i]).length ≤ R.flatten.length := by
  have h := congrArg List.length (flat_split R hi)
  rw [List.length_append, List.length_append] at h
  unfold offR
  omega
theorem offR_all (R : List (List Int)) : offR R R.length = R.flatten.length := by unfold offR; rw [List.take_length]
theorem pat_flat (R : List (List Int)) {i j : Nat} (hi : i < R.length) (hj : j < (R[i]).length) : pat R.flatten (offR R i + j) = pat R[i] j := by
  have h1 := offR_le R hi
  rw [pat_get (by omega), pat_get hj]
  have h := flat_split R hi
  have : R.flatten[offR R i + j]? = some (R[i])[j] := by
    rw [h, List.getElem?_append_right (by unfold offR; omega), List.getElem?_append_left (by unfold offR; omega)]
    unfold offR
    rw [Nat.add_sub_cancel_left, List.getElem?_eq_getElem hj]
  rw [List.getElem?_eq_getElem (by omega)] at this
  exact Option.some.inj this
/-- Whom the rows, up to place j of row i, send where. -/
def psR (R : List (List Int)) (i j : Nat) : List (Int × Int) := prs (R.take i) ++ (rowp (R.getD i [])).take j
theorem getD_row (R : List (List Int)) {i : Nat} (hi : i < R.length) : R.getD i [] = R[i] := by simp [hi]
theorem psR_zero (R : List (List Int)) (i : Nat) : psR R i 0 = prs (R.take i) := by simp [psR]
theorem psR_step (R : List (List Int)) {i j : Nat} (hi : i < R.length) (hj : j < (R[i]).length) : psR R i (j + 1) = psR R i j ++ [(pat R[i] j, pat R[i] ((j + 1) % (R[i]).length))] := by
  unfold psR
  rw [getD_row R hi, List.take_succ_eq_append_getElem (by rw [rowp_len]; exact hj), List.append_assoc]
  congr 2
  simp [rowp]
theorem psR_end (R : List (List Int)) {i : Nat} (hi : i < R.length) : psR R i (R[i]).length = prs (R.take (i + 1)) := by
  unfold psR prs
  rw [getD_row R hi, List.take_of_length_le (l := rowp R[i]) (by rw [rowp_len]; exact Nat.le_refl _), List.take_succ_eq_append_getElem hi, List.flatMap_append]
  simp
theorem psR_keys (R : List (List Int)) {i j : Nat} (hi : i < R.length) (hj : j ≤ (R[i]).length) : (psR R i j).map (·.1) = R.flatten.take (offR R i + j) := by
  unfold psR
  rw [getD_row R hi, List.map_append, prs_fst, List.map_take, rowp_fst, flat_split R hi]
  unfold offR
  rw [List.take_length_add_append, List.take_append_of_le_length hj]
theorem psR_vals (R : List (List Int)) {i j : Nat} (hi : i < R.length) (hj : j < (R[i]).length) (hk : ∀ m, m < offR R i + j → 0 ≤ pat R.flatten m) (hx : 0 ≤ pat R[i] j) : ∀ kv ∈ psR R i j, 0 ≤ kv.2 := by
  intro kv hkv
  have hin : ∀ x ∈ (R.take i).flatten, 0 ≤ x := fun x hx2 => by
    obtain ⟨m, hm, rfl⟩ := List.mem_iff_getElem.1 hx2
    have h1 := offR_le R hi
    have h3 : m < offR R i := hm
    have h2 := hk m (by omega)
    rw [pat_get (by omega)] at h2
    have e : R.flatten[m]? = some (R.take i).flatten[m] := by
      rw [flat_split R hi, List.getElem?_append_left hm, List.getElem?_eq_getElem hm]
      rfl
    rw [List.getElem?_eq_getElem (by omega)] at e
    have e3 := Option.some.inj e
    rw [e3] at h2
    exact h2
  unfold psR at hkv
  rcases List.mem_append.1 hkv with h | h
  · refine hin kv.2 ((prs_perm (R.take i)).mem_iff.1 (List.mem_map.2 ⟨kv, h, rfl⟩))
  · rw [getD_row R hi] at h
    obtain ⟨m, hm, e⟩ := List.mem_iff_getElem.1 h
    rw [List.length_take, rowp_len] at hm
    rw [List.getElem_take] at e
    have e2 : kv.2 = pat R[i] ((m + 1) % (R[i]).length) := by rw [← e]; simp [rowp]
    rw [e2, Nat.mod_eq_of_lt (by omega)]
    by_cases hmj : m + 1 = j
    · rw [hmj]; exact hx
    · rw [← pat_flat R hi (by omega)]
      exact hk _ (by omega)
/-- New or not: by what stands there. -/
theorem psR_new (R : List (List Int)) {i j : Nat} (hi : i < R.length) (hj : j < (R[i]).length) (hok : pokc R.flatten (offR R i + j) = true) (hx : 0 ≤ pat R[i] j) :
    (lkp (psR R i j) (pat R[i] j) < 0 ↔ pat R[i] j ∉ R.flatten.take (offR R i + j)) := by
  have hk : ∀ m, m < offR R i + j → 0 ≤ pat R.flatten m := fun m hm => ((pokc_iff _ _).1 hok m hm).1
  rw [← psR_keys R hi (Nat.le_of_lt hj)]
  constructor
  · intro h hm
    obtain ⟨v, h1, h2⟩ := lkp_mem hm
    have := psR_vals R hi hj hk hx _ h1
    simp only at this
    omega
  · intro h
    rw [lkp_no h]; decide
theorem backR_bad {R : List (List Int)} {m : Nat} (hm : m ≤ R.flatten.length) (h : pokc R.flatten m = false) : backR R = ([], 1) := by
  unfold backR
  rw [if_neg]
  unfold permB
  intro hp
  rw [Bool.and_eq_true, pokc_iff] at hp
  rw [Bool.eq_false_iff, Ne, pokc_iff] at h
  exact h fun k hk => hp.2 k (by omega)
theorem backR_long {R : List (List Int)} (h : 20 < R.flatten.length) : backR R = ([], 1) := by
  unfold backR
  rw [if_neg]
  intro hp
  have := permB_len hp
  omega
theorem backR_good {R : List (List Int)} (h : R.flatten.length ≤ 20) (hp : pokc R.flatten R.flatten.length = true) : backR R = (outR R, 0) ∧ permB (outR R) = true := by
  have hpb : permB R.flatten = true := by
    unfold permB
    rw [hp, decide_eq_true h]; rfl
  exact ⟨if_pos hpb, outR_perm hpb⟩
def outK (R : List (List Int)) (i j n : Nat) : List Int := tab (fun (x : Nat) => lkp (psR R i j) (x : Int)) n
theorem outK_set (R : List (List Int)) {i j n X : Nat} {v : Int} (hi : i < R.length) (hj : j < (R[i]).length) (hX : X < n) (hx : pat R[i] j = (X : Int)) (hv : pat R[i] ((j + 1) % (R[i]).length) = v) : (outK R i j n).set X v = outK R i (j + 1) n := by
  unfold outK
  refine List.ext_getElem (by rw [List.length_set, tab_len, tab_len]) fun y h1 h2 => ?_
  rw [tab_len] at h2
  rw [List.getElem_set]
  have e : ∀ f : Nat → Int, ∀ h, (tab f n)[y]'h = f y := fun f h => by simp [tab]
  rw [e, e, psR_step R hi hj, lkp_snoc, hx, hv]
  by_cases hy : X = y
  · subst hy; rw [if_pos rfl, if_pos rfl]
  · rw [if_neg hy, if_neg (by omega)]
theorem outK_end (R : List (List Int)) (n : Nat) {i : Nat} (hi : i < R.length) : outK R i (R[i]).length n = outK R (i + 1) 0 n := by
  unfold outK; rw [psR_end R hi, psR_zero]
set_option maxRecDepth 20000 in
set_option maxHeartbeats 2000000 in
theorem repeat_zero (ad : Addr) (c : Nat) (x : Int) (w : World) (hc : w.cell? ad = some (.int .i64 x)) :
    Calls Try.prog 57 #[.slice (some ad) 1 c, .int .i64 0] w fun e w' => ∃ g, e = .returned (.slice (some ⟨g, 0, none⟩) 0 0) ∧ w.heap.size ≤ g ∧ w'.heap[g]? = some (.cells #[] 3 (0, 0)) ∧ Below w.heap.size w w' := by
  have hmul := fun u => bmul_any 1 0 (by decide) (by decide) u
  have hmk : ∀ w, (Instr.makeSlice 36 (.int .i64 0) (.int .i64 0)).run Try.prog w = .ok (.slice (some ⟨w.heap.size, 0, none⟩) 0 0) (w.alloc (.cells (madeCells #[.int .i64 0] 0) 3)) := fun w =>
    run_make_row' (P := Try.prog) 36 3 (.int .i64 0) 8 Try.underlying36 (by kernel_rfl) rfl .i64 .i64 0 (by omega) (by omega) w
  have e0 : madeCells #[Value.int .i64 0] 0 = #[] := by simp [madeCells]
  have HE0 := Lib.hid e0
  clear e0
  have hsz : (Try.prog.info? 3).map (·.size) = some 1 := by kernel_rfl
  have HZ := Lib.hid hsz
  clear hsz
  go_enter Try.func57, Try.ntmps57
  go_wp2_with fail
  refine (hmul _).mono ?_
  rintro e w1 ⟨rfl, rfl⟩
  clear hmul
  go_wp2_with (first
    | (refine wpList_copy_nothing rfl (.tmp 31) (.tmp 32) 36 36 rfl 3 Try.underlying36 HZ.out (some ⟨w.heap.size, 0, none⟩) (some ad) 0 0 1 c rfl rfl rfl ?_)
    | fail)
  obtain ⟨w2, hw2⟩ : ∃ w2, w2 = w.alloc (.cells (madeCells #[.int .i64 0] 0) 3) := ⟨_, rfl⟩
  rw [← hw2]
  go_loopw [8] (fun s8 wx => s8 = .int .i64 0 ∧ wx = w2) (fun _ _ => 0)
  case atStart => exact ⟨rfl, rfl⟩
  case round =>
    obtain ⟨rfl, rfl⟩ := hrel
    go_wp2_with fail
    go_ret
    subst hw2
    exact ⟨w.heap.size, rfl, Nat.le_refl _, by rw [heap_alloc_new w _, HE0.out], (Below.refl _ _).alloc (Nat.le_refl _) _⟩
theorem repeat_any (ad : Addr) (c N : Nat) (x : Int) (w : World) (hc : w.cell? ad = some (.int .i64 x)) (hN : N ≤ 1000) :
    Calls Try.prog 57 #[.slice (some ad) 1 c, .int .i64 N] w (RepOut w.heap.size x N w) := by
  by_cases h0 : N = 0
  · subst h0
    refine (repeat_zero ad c x w hc).mono ?_
    rintro e w' ⟨g, h1, h2, h3, h4⟩
    exact ⟨g, h1, h2, h3, h4⟩
  · exact repeat_pos ad c N x w hc (by omega) hN
theorem own_of_cells {w : World} {base g : Nat} {t : TypeId} {l : List Value} (h : w.heap[g]? = some (.cells l.toArray t (0, 0))) (hg : base ≤ g) (hl : l.length ≤ maxLen) : Own w base t (.slice (some ⟨g, 0, none⟩) l.length l.length) l :=
  ⟨by simp, .inr ⟨g, l.length, l.toArray, rfl, hg, h, Nat.le_refl _, hl, by simp, by simp⟩⟩
theorem outK_zero (R : List (List Int)) (n : Nat) : (outK R 0 0 n).map (Value.int .i64) = List.replicate n (.int .i64 (-1)) := by
  unfold outK
  rw [psR_zero]
  refine List.ext_getElem (by rw [List.length_map, tab_len, List.length_replicate]) fun i h1 h2 => ?_
  simp [tab, prs, lkp]
theorem crem2 {c d : Nat} (h : 0 < d) : Int.tmod (c : Int) (d : Int) = ((c % d : Nat) : Int) := by
  rw [Int.tmod_eq_emod_of_nonneg (by omega)]; rfl
theorem jfacts {j L J1 : Nat} (h : J1 = j + 1) (hj : j < L) (hL : L ≤ 1000000000) : (j : Int) + 1 = (J1 : Int) ∧ wrap64 (J1 : Int) = (J1 : Int) ∧ Int.tmod (J1 : Int) (L : Int) = ((J1 % L : Nat) : Int) ∧ (J1 : Int) % (L : Int) = ((J1 % L : Nat) : Int) ∧ ¬ (L : Int) = 0 ∧ ((J1 % L : Nat) : Int) < (L : Int) := by
  refine ⟨by omega, by unfold wrap64; omega, crem2 (by omega), rfl, by omega, ?_⟩
  have := Nat.mod_lt J1 (show 0 < L by omega)
  exact Int.ofNat_lt.2 this
theorem pokc_next {R : List (List Int)} {i j : Nat} {z : Int} (hi : i < R.length) (hj : j < (R[i]).length) (hok : pokc R.flatten (offR R i + j) = true) (hz : pat R[i] j = z) :
    pokc R.flatten (offR R i + (j + 1)) = (decide (0 ≤ z) && decide (z < R.flatten.length) && !decide (z ∈ R.flatten.take (offR R i + j))) := by
  have e : pokc R.flatten ((offR R i + j) + 1) = (pokc R.flatten (offR R i + j) && (decide (0 ≤ pat R.flatten (offR R i + j)) && decide (pat R.flatten (offR R i + j) < R.flatten.length) && !decide (pat R.flatten (offR R i + j) ∈ R.flatten.take (offR R i + j)))) := rfl
  rw [← Nat.add_assoc, e, hok, pat_flat R hi hj, hz, Bool.true_and]
set_option maxRecDepth 20000 in
set_option maxHeartbeats 4000000 in
theorem back_any (R : List (List Int)) (A : Option Addr) (c : Nat) (w : World) (hr : RowsR w w.heap.size A R) (hm : R.length ≤ 1000000000) (hf : R.flatten.length ≤ 1000000000) :
    Calls Try.prog 25 #[.slice A R.length c] w fun e w' => SOut w w' e (backR R).1 (backR R).2 := by
  obtain ⟨res, hres⟩ : ∃ res, res = backR R := ⟨_, rfl⟩
  rw [← hres]
  have HRES := Lib.hid hres
  have HRW := Lib.hid hr
  have HM := Lib.hid (And.intro hm hf)
  clear hres hr hm hf
  obtain ⟨M, hM⟩ : ∃ M, M = R.length := ⟨_, rfl⟩
  rw [← hM]
  have HMM := Lib.hid hM
  clear hM
  go_enter Try.func25, Try.ntmps25
  go_wp2_with fail
  go_loopw [4, 14] (fun s4 s14 wx => ∃ (k x : Nat), k ≤ M ∧ s14 = .int .i64 k ∧ s4 = .int .i64 x ∧ Hid (x = offR R k) ∧ wx = w) (fun _ s14 _ => M - (intOf s14).toNat)
  case atStart => exact ⟨0, 0, Nat.zero_le _, rfl, rfl, rfl, rfl⟩
  case round =>
    obtain ⟨k, x, hkM, rfl, rfl, HX, rfl⟩ := hrel
    by_cases hlt : k < M
    · have i1 : (k : Int) < (M : Int) := by omega
      have hkR : k < R.length := by rw [← HMM.out]; exact hlt
      obtain ⟨ad, A', c', rfl, _, hc, hsg⟩ := HRW.out k hkR
      have hst := offR_step R hkR
      have hle := offR_le R hkR
      obtain ⟨L, hL⟩ : ∃ L, L = (R[k]).length := ⟨_, rfl⟩
      rw [← hL] at hc hst hle
      rw [← HX.out] at hst hle
      have HST : Hid (x + L = offR R (k + 1)) := hst.symm
      have u1 : wrap64 ((x : Int) + (L : Int)) = ((x + L : Nat) : Int) := by have := HM.out.2; unfold wrap64; omega
      have HU1 := Lib.hid u1
      have uk : Hid (wrap64 ((k : Int) + 1) = ((k + 1 : Nat) : Int)) := by have := HM.out.1; have := HMM.out; unfold Hid wrap64; omega
      have HK := Lib.hid hlt
      clear hL hst hle hsg hkR hlt hkM u1
      go_wp2_with fail
      go_roundw
      case rel => exact ⟨k + 1, x + L, HK.out, by first | rfl | rw [uk.out], by first | rfl | rw [HU1.out], HST.out, by first | rfl | trivial⟩
      case measure => (try rw [uk.out]); have := HK.out; simp [intOf]; omega
    · have hke : k = M := by omega
      have i1 : ¬ (k : Int) < (M : Int) := by omega
      have hxf : x = R.flatten.length := by rw [HX.out, hke, HMM.out]; exact offR_all R
      have HXF := Lib.hid hxf
      have HKE : Hid (M = R.length) := HMM.out
      by_cases h20 : 20 < x
      · have i2 : (20 : Int) < (x : Int) := by omega
        have HNO : Hid (res = ([], 1)) := by unfold Hid; rw [HRES.out]; exact backR_long (by rw [← hxf]; exact h20)
        clear hkM hlt hke hxf h20
        go_wp2_with fail
        go_ret2
        rw [HNO.out]
        exact SOut.nil_ (Below.refl _ _)
      · have i2 : ¬ (20 : Int) < (x : Int) := by omega
        have HX20 : Hid (x ≤ 20) := by unfold Hid; omega
        clear hkM hlt hke hxf h20
        obtain ⟨w, rfl⟩ : ∃ w, w = wr := ⟨_, rfl⟩
        go_wp2_with fail
        refine (repeat_any ⟨w.heap.size, 0, none⟩ 1 x (-1) _ (cell_new1 _ _ _) (by have := HX20.out; omega)).mono ?_
        rintro e w2 ⟨g, rfl, hg1, hg2, hb2⟩
        have HOW2 : Hid (Own w2 w.heap.size 3 (.slice (some ⟨g, 0, none⟩) x x) ((outK R 0 0 x).map (.int .i64))) := by
          have h := own_of_cells (base := w.heap.size) hg2 (by simp at hg1; omega) (by have := HX20.out; simp [maxLen]; omega)
          unfold Hid
          rw [outK_zero]
          rw [List.length_replicate] at h
          exact h
        have HGB : Hid (w.heap.size ≤ g) := by unfold Hid; simp at hg1; omega
        have HB2 : Hid (Below w.heap.size w w2) := ((Below.refl _ _).alloc (Nat.le_refl _) _).trans (hb2.mono (by simp))
        have HP0 : Hid (pokc R.flatten (offR R 0 + 0) = true) := rfl
        clear hg1 hg2 hb2
        go_wp2_with fail
        go_loopw [30] (fun s30 wx => ∃ i : Nat, i ≤ M ∧ s30 = .int .i64 i ∧ Hid (Own wx w.heap.size 3 (.slice (some ⟨g, 0, none⟩) x x) ((outK R i 0 x).map (.int .i64))) ∧ Hid (pokc R.flatten (offR R i + 0) = true) ∧ Hid (Below w.heap.size w wx)) (fun s30 _ => M - (intOf s30).toNat)
        case atStart => exact ⟨0, Nat.zero_le _, rfl, HOW2.out, HP0.out, HB2.out⟩
        case round =>
          clear HOW2 HP0 HB2
          obtain ⟨i, hiM, rfl, HOI, HPI, HBI⟩ := hrel
          by_cases hlt : i < M
          · have i3 : (i : Int) < (M : Int) := by omega
            have hiR : i < R.length := by rw [← HMM.out]; exact hlt
            obtain ⟨ad, A', c', rfl, had, hc0, hsg⟩ := HRW.out i hiR
            have hc := (HBI.out.cell (p := ad.add i) (by rw [add_block]; exact had)).trans hc0
            clear hc0 had
            obtain ⟨r, hr⟩ : ∃ r, r = R[i] := ⟨_, rfl⟩
            rw [← hr] at hc hsg
            have HSG := Lib.hid hsg
            have HRI : Hid (∃ h : i < R.length, R[i] = r) := ⟨hiR, hr.symm⟩
            have HLE : Hid (offR R i + r.length ≤ R.flatten.length) := by rw [hr]; exact offR_le R hiR
            have uk : Hid (wrap64 ((i : Int) + 1) = ((i + 1 : Nat) : Int)) := by have := HM.out.1; have := HMM.out; unfold Hid wrap64; omega
            have HI := Lib.hid hlt
            obtain ⟨L, hL⟩ : ∃ L, L = r.length := ⟨_, rfl⟩
            rw [← hL] at hc
            have HLL := Lib.hid hL
            clear hr hsg hiR hlt hiM hL
            obtain ⟨wi, rfl⟩ : ∃ wi : World, wi = wr := ⟨_, rfl⟩
            go_wp2_with fail
            clear hc
            go_loopw [36] (fun s36 wx => ∃ j : Nat, j ≤ L ∧ s36 = .int .i64 j ∧ Hid (Own wx w.heap.size 3 (.slice (some ⟨g, 0, none⟩) x x) ((outK R i j x).map (.int .i64))) ∧ Hid (pokc R.flatten (offR R i + j) = true) ∧ Hid (Below w.heap.size w wx)) (fun s36 _ => L - (intOf s36).toNat)
            case atStart => exact ⟨0, Nat.zero_le _, rfl, HOI.out, HPI.out, HBI.out⟩
            case round =>
              obtain ⟨j, hjL, rfl, HOJ, HPJ, HBJ⟩ := hrel
              by_cases hlj : j < L
              · have i4 : (j : Int) < (L : Int) := by omega
                have hjr : j < r.length := by rw [← HLL.out]; exact hlj
                obtain ⟨ad2, rfl, _, hcz⟩ := (HSG.out.below HBJ.out).pat hjr
                obtain ⟨hiR, hRr⟩ := HRI.out
                have hjR : j < (R[i]).length := by rw [hRr]; exact hjr
                have hz0 : pat R[i] j = pat r j := by rw [hRr]
                obtain ⟨z, hz⟩ : ∃ z, z = pat r j := ⟨_, rfl⟩
                rw [← hz] at hcz hz0
                have hpn := pokc_next hiR hjR HPJ.out hz0
                have hxf2 : (x : Int) = R.flatten.length := by rw [HXF.out]
                have hmle : offR R i + (j + 1) ≤ R.flatten.length := by have := HLE.out; omega
                have HBAD : Hid (pokc R.flatten (offR R i + (j + 1)) = false → res = ([], 1)) := fun h => by rw [HRES.out]; exact backR_bad hmle h
                rcases (by omega : z < 0 ∨ (¬ z < 0 ∧ (x : Int) ≤ z) ∨ (¬ z < 0 ∧ ¬ (x : Int) ≤ z)) with h1 | ⟨h1, h2⟩ | ⟨h1, h2⟩
                · have HNO : Hid (res = ([], 1)) := HBAD.out (by rw [hpn, decide_eq_false (show ¬ 0 ≤ z by omega)]; rfl)
                  clear hpn hxf2 hmle hz0 hjR hRr hiR hjr hlj hjL hz
                  go_wp2_with fail
                  go_ret2
                  rw [HNO.out]
                  exact SOut.nil_ HBJ.out
                · have HNO : Hid (res = ([], 1)) := HBAD.out (by rw [hpn, decide_eq_false (show ¬ z < R.flatten.length by omega)]; simp)
                  clear hpn hxf2 hmle hz0 hjR hRr hiR hjr hlj hjL hz
                  go_wp2_with fail
                  go_ret2
                  rw [HNO.out]
                  exact SOut.nil_ HBJ.out
                · obtain ⟨X, rfl⟩ : ∃ X : Nat, z = X := ⟨z.toNat, by omega⟩
                  have hXx : X < x := by omega
                  have hnew := psR_new R hiR hjR HPJ.out (by rw [hz0]; omega)
                  rw [hz0] at hnew
                  have hco := HOJ.out.cell (j := X) (u := .int .i64 (lkp (psR R i j) (X : Int))) (by rw [List.getElem?_map]; unfold outK; rw [tab_get hXx]; rfl)
                  have hfo := HOJ.out.frozen X
                  obtain ⟨y, hy⟩ : ∃ y, y = lkp (psR R i j) (X : Int) := ⟨_, rfl⟩
                  rw [← hy] at hco hnew
                  have i5 : (X : Int) < (x : Int) := by omega
                  by_cases h3 : y < 0
                  · have HPN : Hid (pokc R.flatten (offR R i + (j + 1)) = true) := by
                      unfold Hid
                      rw [hpn, decide_eq_true (show (0 : Int) ≤ (X : Int) by omega), decide_eq_true (show (X : Int) < R.flatten.length by omega), decide_eq_false (hnew.1 h3)]; rfl
                    obtain ⟨J, hJ⟩ : ∃ J, J = (j + 1) % L := ⟨_, rfl⟩
                    have hJL : J < r.length := by rw [hJ, ← HLL.out]; exact Nat.mod_lt _ (by omega)
                    obtain ⟨ad3, e3, _, hcJ⟩ := (HSG.out.below HBJ.out).pat hJL
                    injection e3 with e3
                    subst e3
                    have hst := HOJ.out.set X (.int .i64 (pat r J))
                    rw [← List.map_set, outK_set R hiR hjR hXx hz0 (by rw [hRr, ← HLL.out, ← hJ])] at hst
                    have HST := Lib.hid hst
                    obtain ⟨v, hv⟩ : ∃ v, v = pat r J := ⟨_, rfl⟩
                    rw [← hv] at hcJ HST
                    obtain ⟨J1, hJ1⟩ : ∃ J1, J1 = j + 1 := ⟨_, rfl⟩
                    rw [← hJ1] at hJ
                    have hLb : L ≤ 1000000000 := by rw [HLL.out]; exact Nat.le_trans (Nat.le_trans (Nat.le_add_left _ _) HLE.out) HM.out.2
                    obtain ⟨k1, k2, k3, k4, k5, k6⟩ := jfacts hJ1 hlj hLb
                    rw [← hJ] at k3 k4 k6
                    have HK2 := Lib.hid k2
                    have k7 : ¬ (0 : Int) ≤ y := Int.not_le.2 h3
                    have HJ1 : Hid (J1 = j + 1 ∧ j < L) := ⟨hJ1, hlj⟩
                    clear hpn hxf2 hmle hz0 hjR hRr hiR hjr hlj hjL hz hnew hy hst hJL hJ hJ1 hv hXx hLb HBAD
                    go_wp2_with fail
                    clear k1 k2 k3 k4 k5 k6
                    go_roundw
                    case rel => exact ⟨j + 1, HJ1.out.2, by first | rfl | rw [HK2.out, HJ1.out.1] | rw [HJ1.out.1], HST.out, HPN.out, HBJ.out.setCell HGB.out _⟩
                    case measure => (try rw [HK2.out]); have := HJ1.out; simp [intOf]; omega
                  · have HNO : Hid (res = ([], 1)) := HBAD.out (by
                      have : (X : Int) ∈ R.flatten.take (offR R i + j) := Classical.byContradiction fun h => h3 (hnew.2 h)
                      rw [hpn, decide_eq_true this]; simp)
                    have k7 : (0 : Int) ≤ y := by omega
                    clear hpn hxf2 hmle hz0 hjR hRr hiR hjr hlj hjL hz hnew hy hXx h3
                    go_wp2_with fail
                    go_ret2
                    rw [HNO.out]
                    exact SOut.nil_ HBJ.out
              · have hje : j = L := by omega
                have i4 : ¬ (j : Int) < (L : Int) := by omega
                obtain ⟨hiR, hRr⟩ := HRI.out
                have HLr : Hid (j = (R[i]).length) := by unfold Hid; rw [hje, HLL.out, hRr]
                have HOE : Hid (Own wr w.heap.size 3 (.slice (some ⟨g, 0, none⟩) x x) ((outK R (i + 1) 0 x).map (.int .i64))) := by
                  have h := HOJ.out
                  rw [HLr.out, outK_end R x hiR] at h
                  exact h
                have HPE : Hid (pokc R.flatten (offR R (i + 1) + 0) = true) := by
                  have h := HPJ.out
                  rw [HLr.out, ← offR_step R hiR] at h
                  exact h
                clear hje hlj hjL hRr HLr
                clear hiR
                go_wp2_with fail
                go_roundw
                case rel => exact ⟨i + 1, HI.out, by first | rfl | rw [uk.out], HOE.out, HPE.out, HBJ.out⟩
                case measure => (try rw [uk.out]); have := HI.out; simp [intOf]; omega
          · have hie : i = M := by omega
            have i3 : ¬ (i : Int) < (M : Int) := by omega
            have hgood := backR_good (R := R) (by rw [← HXF.out]; exact HX20.out) (by have h := HPI.out; rw [hie, HMM.out, offR_all] at h; exact h)
            have HRG : Hid (res = (outR R, 0)) := by unfold Hid; rw [HRES.out]; exact hgood.1
            have hoe : outK R i 0 x = outR R := by
              unfold outK outR
              rw [psR_zero, hie, HMM.out, List.take_length, HXF.out]
            have ho2 := HOI.out
            rw [hoe] at ho2
            have hlen : (outR R).length = x := by rw [outR_len, HXF.out]
            obtain ⟨A9, c9, e9, _, hsg9⟩ := ho2.res
            injection e9 with e9 e11 e10
            rw [← e9] at hsg9
            have hR := pright_any (outR R) (some ⟨g, 0, none⟩) x wr hsg9 (by rw [hlen]; have := HX20.out; omega)
            rw [hgood.2, hlen] at hR
            have HR := Lib.hid hR
            have HSG9 := Lib.hid hsg9
            have HLN := Lib.hid hlen
            clear hR hsg9 hlen ho2 hoe hgood hie hlt hiM e9 e10 e11
            go_wp2_with fail
            refine HR.out.mono ?_
            rintro e w9 ⟨rfl, hb9⟩
            have HB9 := Lib.hid (HBI.out.trans (hb9.mono HBI.out.size))
            have HSG10 := Lib.hid (HSG9.out.on hb9)
            clear hb9
            go_wp2_with fail
            go_ret2
            rw [HRG.out]
            exact ⟨some ⟨g, 0, none⟩, x, by rw [HLN.out]; rfl, by rw [HLN.out]; exact Nat.le_refl _, HSG10.out, HB9.out⟩
end Go.Proofs.Ytkffakekakhgdaa
