/- Which of some weights a tape draws, walked twice. No condition. -/
import Derived.Test.YtmcbkjepjijfjaaCoiN
import Derived.Test.YtmcbkjepjijfjaaSeq
namespace Go.Proofs.Ytmcbkjepjijfjaa
open Go.ChangeShapes Go.WideShapes Go.ChangeAt Go.RowKit
set_option linter.unusedVariables false

def osum (l : List Int) : Nat → Int
  | 0 => 0
  | j + 1 => osum l j + pat l j
def okc (l : List Int) : Nat → Bool
  | 0 => true
  | j + 1 => okc l j && decide (0 ≤ pat l j ∧ osum l j + pat l j ≤ 1099511627776)
theorem okc_at {l : List Int} {n : Nat} (h : okc l n = true) : ∀ j, j < n → 0 ≤ pat l j ∧ osum l j + pat l j ≤ 1099511627776 := by
  induction n with
  | zero => intro j hj; omega
  | succ n ih =>
    simp only [okc, Bool.and_eq_true, decide_eq_true_eq] at h
    intro j hj
    by_cases e : j = n
    · subst e; exact h.2
    · exact ih h.1 j (by omega)
theorem okc_pre {l : List Int} {n : Nat} (h : okc l n = true) : ∀ m, m ≤ n → okc l m = true := by
  induction n with
  | zero => intro m hm; rw [show m = 0 by omega]; rfl
  | succ n ih =>
    intro m hm
    by_cases e : m = n + 1
    · rw [e]; exact h
    · simp only [okc, Bool.and_eq_true] at h
      exact ih h.1 m (by omega)
theorem okc_no {l : List Int} {m n : Nat} (hm : m ≤ n) (h : okc l m = false) : okc l n = false := by
  rw [Bool.eq_false_iff] at h ⊢
  exact fun h2 => h (okc_pre h2 m hm)
theorem osum_bd {l : List Int} {n : Nat} (h : okc l n = true) : ∀ j, j ≤ n → 0 ≤ osum l j ∧ osum l j ≤ 1099511627776 := by
  intro j
  induction j with
  | zero => intro _; exact ⟨Int.le_refl _, by show (0 : Int) ≤ _; decide⟩
  | succ j ih => intro hj; have := ih (by omega); have := okc_at h j (by omega); rw [osum]; omega
theorem osum_mono {l : List Int} {n : Nat} (h : okc l n = true) {i j : Nat} (hij : i ≤ j) (hj : j ≤ n) : osum l i ≤ osum l j := by
  induction hij with
  | refl => exact Int.le_refl _
  | step h1 ih => have := ih (by omega); have := okc_at h _ (show _ < n from hj); rw [osum]; omega
def pof (t : List Bool) : List Int → Nat → Nat → Int → Int × Int × Int
  | [], _, _, _ => (0, 0, 3)
  | w :: ws, k, u, s => if (ptoss (t.drop u) w s).2.2 ≠ 0 then (0, 0, (ptoss (t.drop u) w s).2.2) else if (ptoss (t.drop u) w s).1 = true then ((k : Int), (u : Int) + (ptoss (t.drop u) w s).2.1, 0) else pof t ws (k + 1) (u + (ptoss (t.drop u) w s).2.1.toNat) (s - w)
def ofR (t : List Bool) (l : List Int) : Int × Int × Int := if okc l l.length = true then if osum l l.length = 0 then (0, 0, 3) else pof t l 0 0 (osum l l.length) else (0, 0, 2)
theorem drop_patc {l : List Int} {j : Nat} (h : j < l.length) : l.drop j = pat l j :: l.drop (j + 1) := by rw [List.drop_eq_getElem_cons h, pat_get h]
set_option maxRecDepth 20000 in
set_option maxHeartbeats 1000000 in
theorem cof_coin (t : List Bool) (l : List Int) (A C : Option Addr) (c d : Nat) (w : World) (hs : Seg w w.heap.size A (t.map .bool)) (ht : Seg w w.heap.size C (l.map (.int .i64))) (hm : t.length < 140737488355328) (hc : t.length ≤ c) (hml : l.length ≤ 9223372036854775807) (hwl : ∀ x, x ∈ l → x ≤ 9223372036854775807) :
    Calls Try.prog 53 #[.slice A t.length c, .slice C l.length d] w fun e w' => e = N3 (ofR t l) ∧ Below w.heap.size w w' := by
  have HS := Lib.hid hs
  have HL := Lib.hid ht
  have HWL := Lib.hid hwl
  clear hs ht hwl
  have HTO : Hid (∀ (A' : Option Addr) (u c' : Nat) (a b : Int) (q : World), Seg q q.heap.size A' ((t.drop u).map .bool) → Calls Try.prog 49 #[.slice A' (t.drop u).length c', FracV a b] q fun e w' => e = C3 (ptoss (t.drop u) a b) ∧ Below q.heap.size q w') :=
    fun A' u c' a b q h => toss_any2 (t.drop u) a b A' c' q h (by rw [List.length_drop]; omega)
  go_enter Try.func53, Try.ntmps53
  go_wp2_with fail
  go_loop [7, 18] (fun s7 s18 => ∃ j : Nat, j ≤ l.length ∧ s18 = .int .i64 j ∧ s7 = .int .i64 (osum l j) ∧ Hid (okc l j = true)) (fun _ s18 => l.length - (intOf s18).toNat)
  case atStart => exact ⟨0, Nat.zero_le _, rfl, rfl, rfl⟩
  case round =>
    obtain ⟨j, hj, rfl, rfl, hok⟩ := hrel
    have hb := osum_bd hok.out j (Nat.le_refl _)
    by_cases hlt : j < l.length
    · have i2 : (j : Int) < (l.length : Int) := by omega
      obtain ⟨ad, rfl, _, hcell⟩ := HL.out.pat hlt
      have hxm : pat l j ≤ 9223372036854775807 := HWL.out _ (by rw [pat_get hlt]; exact List.getElem_mem hlt)
      have HST : Hid (okc l (j + 1) = (okc l j && decide (0 ≤ pat l j ∧ osum l j + pat l j ≤ 1099511627776))) := rfl
      have HSU : Hid (osum l (j + 1) = osum l j + pat l j) := rfl
      have HNO : Hid (okc l (j + 1) = false → ofR t l = (0, 0, 2)) := fun h => by unfold ofR; rw [okc_no hlt h]; rfl
      generalize pat l j = x at *
      generalize osum l j = s at *
      by_cases h1 : x < 0
      · have HF := Lib.hid (HNO.out (by rw [HST.out, hok.out, decide_eq_false (by omega)]; rfl))
        go_wp2_with fail
        refine bodyPost_ret (v := .tuple #[.int .i64 0, .int .i64 0, .int .i64 2]) (by simp [results, Try.results53, go_sem]) rfl ⟨by rw [HF.out], Below.refl _ _⟩
      · by_cases h2 : 1099511627776 < x
        · have HF := Lib.hid (HNO.out (by rw [HST.out, hok.out, decide_eq_false (by omega)]; rfl))
          go_wp2_with fail
          refine bodyPost_ret (v := .tuple #[.int .i64 0, .int .i64 0, .int .i64 2]) (by simp [results, Try.results53, go_sem]) rfl ⟨by rw [HF.out], Below.refl _ _⟩
        · by_cases h3 : 1099511627776 < s + x
          · have HF := Lib.hid (HNO.out (by rw [HST.out, hok.out, decide_eq_false (by omega)]; rfl))
            go_wp2_with fail
            refine bodyPost_ret (v := .tuple #[.int .i64 0, .int .i64 0, .int .i64 2]) (by simp [results, Try.results53, go_sem]) rfl ⟨by rw [HF.out], Below.refl _ _⟩
          · have HT : Hid (okc l (j + 1) = true) := by unfold Hid; rw [HST.out, hok.out, decide_eq_true (by omega)]; rfl
            go_wp2_with fail
            go_round
            case rel => exact ⟨j + 1, by omega, by go_num, by rw [HSU.out], HT⟩
            case measure => simp [intOf]; omega
    · have i2 : ¬ (j : Int) < (l.length : Int) := by omega
      obtain rfl : j = l.length := by omega
      have HR : Hid (ofR t l = if osum l l.length = 0 then (0, 0, 3) else pof t l 0 0 (osum l l.length)) := by unfold ofR Hid; rw [hok.out]; rfl
      obtain ⟨S, hS⟩ : ∃ S, osum l l.length = S := ⟨_, rfl⟩
      have HSS := Lib.hid hS
      rw [hS] at HR hb
      rw [hS]
      clear hS
      by_cases hz : S = 0
      · have HV : Hid (ofR t l = (0, 0, 3)) := by unfold Hid; rw [HR.out, if_pos hz]
        have b1 : (S == 0) = true := by simpa using hz
        clear hz
        go_wp2_with fail
        refine bodyPost_ret (v := .tuple #[.int .i64 0, .int .i64 0, .int .i64 3]) (by simp [results, Try.results53, go_sem]) rfl ⟨by rw [HV.out], Below.refl _ _⟩
      · have HV : Hid (ofR t l = pof t l 0 0 S) := by unfold Hid; rw [HR.out, if_neg hz]
        have hS0 : 0 < S := by omega
        have b1 : (S == 0) = false := by simpa using hz
        clear hz
        go_wp2_with fail
        clear b1
        go_loopw [7, 10, 42] (fun s7 s10 sk wr => ∃ (k u : Nat) (s : Int), k ≤ l.length ∧ sk = .int .i64 k ∧ s10 = .int .i64 u ∧ s7 = .int .i64 s ∧ u ≤ t.length ∧ 0 < s ∧ Hid (osum l k + s = S) ∧ Hid (ofR t l = pof t (l.drop k) k u s) ∧ Below w.heap.size w wr) (fun _ _ sk _ => l.length - (intOf sk).toNat)
        case atStart => exact ⟨0, 0, S, Nat.zero_le _, rfl, rfl, rfl, Nat.zero_le _, hS0, by unfold Hid; rw [osum]; omega, HV.out, Below.refl _ _⟩
        case round =>
          obtain ⟨k, u, s, hk, rfl, rfl, rfl, hu, hs0, hsum, hp, hbel⟩ := hrel
          have HB := Lib.hid hbel
          have HSM := Lib.hid hsum.out
          have HPT := Lib.hid hp.out
          have hok2 := osum_bd hok.out k hk
          have hs40 : s ≤ 1099511627776 := by have := hsum.out; omega
          clear hbel hsum hp
          have hkl : k < l.length := by
            rcases Nat.lt_or_ge k l.length with h | h
            · exact h
            · have h1 := HSM.out
              have h2 := HSS.out
              rw [show k = l.length by omega, h2] at h1
              omega
          have i3 : (k : Int) < (l.length : Int) := by omega
          obtain ⟨ad, rfl, hadb, hcell⟩ := (HL.out.below HB.out).pat hkl
          have hx0 := (okc_at hok.out k hkl).1
          have hxs : pat l k ≤ s := by
            have h1 := osum_mono hok.out (show k + 1 ≤ l.length from hkl) (Nat.le_refl _)
            have h2 := HSM.out
            have h3 := HSS.out
            rw [osum] at h1
            omega
          have HSU : Hid (osum l (k + 1) = osum l k + pat l k) := rfl
          have HCL : Hid (∀ q, Below w.heap.size w q → q.cell? (ad.add k) = some (.int .i64 (pat l k))) := fun q hq => by
            obtain ⟨ad2, e2, _, h3⟩ := (HL.out.below hq).pat hkl
            injection e2 with e2
            subst e2
            exact h3
          rw [drop_patc hkl, pof] at HPT
          generalize pat l k = x at *
          obtain ⟨A', hsl, hsg⟩ := slice_bools A (ys := t) (l := u) (c := c) hu hc
          have HSG := Lib.hid hsg
          have htt := HTO.out A' u (c - u) x s
          have hpu := ptoss_used (t := t.drop u) (a := x) (b := s)
          have hpe := ptoss_err (t := t.drop u) (a := x) (b := s)
          have hpa : x = s → (ptoss (t.drop u) x s).1 = true := fun e => by rw [e, ptoss_all (by omega) (by omega)]
          rw [List.length_drop] at hpu htt hsl
          obtain ⟨⟨y, v, e⟩, hre⟩ : ∃ r, r = ptoss (t.drop u) x s := ⟨_, rfl⟩
          rw [← hre] at hpu hpe hpa HPT htt
          have HTT := Lib.hid htt
          have HPU := Lib.hid hpu
          have HPE := Lib.hid hpe
          have HPA := Lib.hid hpa
          clear hre hpu hpe hpa hsg htt hadb
          have iu : (u : Int) ≤ (t.length : Int) := by omega
          go_wp2_with fail
          refine (HTT.out _ (HSG.out _ _ ((HS.out.below HB.out).more HB.out.size))).mono ?_
          rintro e2 w2 ⟨rfl, hb⟩
          have HB2 : Hid (Below w.heap.size w w2) := HB.out.trans (hb.mono HB.out.size)
          clear hb hsl
          by_cases he : e = 0
          · subst he
            have hpu := HPU.out rfl
            obtain ⟨V, rfl⟩ : ∃ V : Nat, v = V := ⟨v.toNat, by omega⟩
            cases y with
            | true =>
              have HF : Hid (ofR t l = ((k : Int), (u : Int) + V, 0)) := by unfold Hid; rw [HPT.out, if_neg (by simp), if_pos rfl]
              go_wp2_with fail
              refine bodyPost_ret (v := .tuple #[.int .i64 k, .int .i64 ((u : Int) + V), .int .i64 0]) (by simp [results, Try.results53, go_sem]) rfl ⟨by rw [HF.out], HB2.out⟩
            | false =>
              have HF : Hid (ofR t l = pof t (l.drop (k + 1)) (k + 1) (u + V) (s - x)) := by unfold Hid; rw [HPT.out, if_neg (by simp), if_neg (by simp)]; rfl
              have hxs2 : x < s := by
                rcases Int.lt_or_le x s with h | h
                · exact h
                · have := HPA.out (by omega); cases this
              go_wp2_with fail
              go_roundw
              case rel => exact ⟨k + 1, u + V, s - x, by omega, by go_num, by go_num, rfl, by omega, by omega, by unfold Hid; have := HSM.out; rw [HSU.out]; omega, HF.out, HB2.out⟩
              case measure => simp [intOf]; omega
          · have d1 : (e != 0) = true := by simpa using he
            have HF : Hid (ofR t l = (0, 0, e)) := by unfold Hid; rw [HPT.out, if_pos he]
            clear he
            go_wp2_with fail
            refine bodyPost_ret (v := .tuple #[.int .i64 0, .int .i64 0, .int .i64 e]) (by simp [results, Try.results53, go_sem]) rfl ⟨by rw [HF.out], HB2.out⟩
set_option maxRecDepth 20000 in
set_option maxHeartbeats 1000000 in
theorem rof_coin (t : List Bool) (l : List Int) (A C : Option Addr) (c d : Nat) (w : World) (hs : Seg w w.heap.size A (t.map .bool)) (ht : Seg w w.heap.size C (l.map (.int .i64))) (hm : t.length < 140737488355328) (hc : t.length ≤ c) (hml : l.length ≤ 9223372036854775807) (hwl : ∀ x, x ∈ l → x ≤ 9223372036854775807) :
    Calls Try.prog 54 #[.slice A t.length c, .slice C l.length d] w fun e w' => e = N3 (ofR t l) ∧ Below w.heap.size w w' := by
  have HS := Lib.hid hs
  have HL := Lib.hid ht
  have HWL := Lib.hid hwl
  clear hs ht hwl
  have HTO : Hid (∀ (A' : Option Addr) (u c' : Nat) (a b : Int) (q : World), Seg q q.heap.size A' ((t.drop u).map .bool) → Calls Try.prog 50 #[.slice A' (t.drop u).length c', FracV a b] q fun e w' => e = C3 (ptoss (t.drop u) a b) ∧ Below q.heap.size q w') :=
    fun A' u c' a b q h => ctoss_any (t.drop u) a b A' c' q h (by rw [List.length_drop]; omega)
  go_enter Try.func54, Try.ntmps54
  go_wp2_with fail
  go_loop [7, 17] (fun s7 s18 => ∃ j : Nat, j ≤ l.length ∧ s18 = .int .i64 j ∧ s7 = .int .i64 (osum l j) ∧ Hid (okc l j = true)) (fun _ s18 => l.length - (intOf s18).toNat)
  case atStart => exact ⟨0, Nat.zero_le _, rfl, rfl, rfl⟩
  case round =>
    obtain ⟨j, hj, rfl, rfl, hok⟩ := hrel
    have hb := osum_bd hok.out j (Nat.le_refl _)
    by_cases hlt : j < l.length
    · have i2 : (j : Int) < (l.length : Int) := by omega
      obtain ⟨ad, rfl, _, hcell⟩ := HL.out.pat hlt
      have hxm : pat l j ≤ 9223372036854775807 := HWL.out _ (by rw [pat_get hlt]; exact List.getElem_mem hlt)
      have HST : Hid (okc l (j + 1) = (okc l j && decide (0 ≤ pat l j ∧ osum l j + pat l j ≤ 1099511627776))) := rfl
      have HSU : Hid (osum l (j + 1) = osum l j + pat l j) := rfl
      have HNO : Hid (okc l (j + 1) = false → ofR t l = (0, 0, 2)) := fun h => by unfold ofR; rw [okc_no hlt h]; rfl
      generalize pat l j = x at *
      generalize osum l j = s at *
      by_cases h1 : x < 0
      · have HF := Lib.hid (HNO.out (by rw [HST.out, hok.out, decide_eq_false (by omega)]; rfl))
        go_wp2_with fail
        refine bodyPost_ret (v := .tuple #[.int .i64 0, .int .i64 0, .int .i64 2]) (by simp [results, Try.results54, go_sem]) rfl ⟨by rw [HF.out], Below.refl _ _⟩
      · by_cases h2 : 1099511627776 - s < x
        · have HF := Lib.hid (HNO.out (by rw [HST.out, hok.out, decide_eq_false (by omega)]; rfl))
          go_wp2_with fail
          refine bodyPost_ret (v := .tuple #[.int .i64 0, .int .i64 0, .int .i64 2]) (by simp [results, Try.results54, go_sem]) rfl ⟨by rw [HF.out], Below.refl _ _⟩
        · have HT : Hid (okc l (j + 1) = true) := by unfold Hid; rw [HST.out, hok.out, decide_eq_true (by omega)]; rfl
          go_wp2_with fail
          go_round
          case rel => exact ⟨j + 1, by omega, by go_num, by rw [HSU.out], HT⟩
          case measure => simp [intOf]; omega
    · have i2 : ¬ (j : Int) < (l.length : Int) := by omega
      obtain rfl : j = l.length := by omega
      have HR : Hid (ofR t l = if osum l l.length = 0 then (0, 0, 3) else pof t l 0 0 (osum l l.length)) := by unfold ofR Hid; rw [hok.out]; rfl
      obtain ⟨S, hS⟩ : ∃ S, osum l l.length = S := ⟨_, rfl⟩
      have HSS := Lib.hid hS
      rw [hS] at HR hb
      rw [hS]
      clear hS
      by_cases hz : S = 0
      · have HV : Hid (ofR t l = (0, 0, 3)) := by unfold Hid; rw [HR.out, if_pos hz]
        have b1 : S < 1 := by omega
        clear hz
        go_wp2_with fail
        refine bodyPost_ret (v := .tuple #[.int .i64 0, .int .i64 0, .int .i64 3]) (by simp [results, Try.results54, go_sem]) rfl ⟨by rw [HV.out], Below.refl _ _⟩
      · have HV : Hid (ofR t l = pof t l 0 0 S) := by unfold Hid; rw [HR.out, if_neg hz]
        have hS0 : 0 < S := by omega
        have b1 : ¬ S < 1 := by omega
        clear hz
        go_wp2_with fail
        clear b1
        go_loopw [7, 10, 11] (fun s7 s10 sk wr => ∃ (k u : Nat) (s : Int), k ≤ l.length ∧ sk = .int .i64 k ∧ s10 = .int .i64 u ∧ s7 = .int .i64 s ∧ u ≤ t.length ∧ 0 < s ∧ Hid (osum l k + s = S) ∧ Hid (ofR t l = pof t (l.drop k) k u s) ∧ Below w.heap.size w wr) (fun _ _ sk _ => l.length - (intOf sk).toNat)
        case atStart => exact ⟨0, 0, S, Nat.zero_le _, rfl, rfl, rfl, Nat.zero_le _, hS0, by unfold Hid; rw [osum]; omega, HV.out, Below.refl _ _⟩
        case round =>
          obtain ⟨k, u, s, hk, rfl, rfl, rfl, hu, hs0, hsum, hp, hbel⟩ := hrel
          have HB := Lib.hid hbel
          have HSM := Lib.hid hsum.out
          have HPT := Lib.hid hp.out
          have hok2 := osum_bd hok.out k hk
          have hs40 : s ≤ 1099511627776 := by have := hsum.out; omega
          clear hbel hsum hp
          have hkl : k < l.length := by
            rcases Nat.lt_or_ge k l.length with h | h
            · exact h
            · have h1 := HSM.out
              have h2 := HSS.out
              rw [show k = l.length by omega, h2] at h1
              omega
          have i3 : (k : Int) < (l.length : Int) := by omega
          obtain ⟨ad, rfl, hadb, hcell⟩ := (HL.out.below HB.out).pat hkl
          have hx0 := (okc_at hok.out k hkl).1
          have hxs : pat l k ≤ s := by
            have h1 := osum_mono hok.out (show k + 1 ≤ l.length from hkl) (Nat.le_refl _)
            have h2 := HSM.out
            have h3 := HSS.out
            rw [osum] at h1
            omega
          have HSU : Hid (osum l (k + 1) = osum l k + pat l k) := rfl
          have HCL : Hid (∀ q, Below w.heap.size w q → q.cell? (ad.add k) = some (.int .i64 (pat l k))) := fun q hq => by
            obtain ⟨ad2, e2, _, h3⟩ := (HL.out.below hq).pat hkl
            injection e2 with e2
            subst e2
            exact h3
          rw [drop_patc hkl, pof] at HPT
          generalize pat l k = x at *
          obtain ⟨A', hsl, hsg⟩ := slice_bools A (ys := t) (l := u) (c := c) hu hc
          have HSG := Lib.hid hsg
          have htt := HTO.out A' u (c - u) x s
          have hpu := ptoss_used (t := t.drop u) (a := x) (b := s)
          have hpe := ptoss_err (t := t.drop u) (a := x) (b := s)
          have hpa : x = s → (ptoss (t.drop u) x s).1 = true := fun e => by rw [e, ptoss_all (by omega) (by omega)]
          rw [List.length_drop] at hpu htt hsl
          obtain ⟨⟨y, v, e⟩, hre⟩ : ∃ r, r = ptoss (t.drop u) x s := ⟨_, rfl⟩
          rw [← hre] at hpu hpe hpa HPT htt
          have HTT := Lib.hid htt
          have HPU := Lib.hid hpu
          have HPE := Lib.hid hpe
          have HPA := Lib.hid hpa
          clear hre hpu hpe hpa hsg htt hadb
          have iu : (u : Int) ≤ (t.length : Int) := by omega
          have HCELL := Lib.hid hcell
          clear hcell
          go_wp2_with fail
          refine wp_region_plan [(0, 0), (1, 0), (2, 0), (3, 0), (4, 0), (5, 0), (6, 1), (7, 0), (8, 0), (9, 2), (10, 0), (11, 0), (12, 0), (13, 0), (14, 0), (15, 0), (16, 0)] (fun w' => w'.cell? (ad.add k) = some (.int .i64 x) ∧ Below w.heap.size w w') (by kernel_rfl) (by kernel_rfl) (fun _ d _ _ _ h => by cases d <;> exact h) ⟨HCELL.out, Below.drew HB.out⟩ ?_
          iterate 9 ((first | (refine plan0 (v := ?_) rfl rfl (by rfl) ?_ ?_) | (refine plan1 (v := ?_) rfl rfl (by rfl) ?_ ?_)); rotate_left; (first | (intro w'; go_simp; with_reducible rfl) | (intro w' hS; obtain ⟨h1, h2⟩ := hS; go_simp; with_reducible rfl)); simp only [List.setIfInBounds_toArray, List.set_cons_zero, List.set_cons_succ])
          refine plan2 rfl rfl fun K' hK' => ?_
          go_simp
          refine (HTT.out _ (HSG.out _ _ (((HS.out.below HB.out).more HB.out.size).drew))).mono ?_
          rintro e2 w2 ⟨rfl, hb⟩
          have HB2 : Hid (Below w.heap.size w w2) := HB.out.trans ((show Below wr.heap.size wr w2 from (Below.drew (Below.refl _ _)).trans hb).mono HB.out.size)
          dsimp only
          refine hK' _ _ ⟨HCL.out _ HB2.out, HB2.out⟩ ?_
          clear hK' K' hb hsl
          iterate 6 ((refine plan0 (v := ?_) rfl rfl (by rfl) ?_ ?_); rotate_left; (intro w'; go_simp; with_reducible rfl); simp only [List.setIfInBounds_toArray, List.set_cons_zero, List.set_cons_succ])
          iterate 1 ((refine plan0 (v := ?_) rfl rfl (by rfl) ?_ ?_); rotate_left; (intro w'; go_simp; with_reducible rfl))
          refine planEnd ?_
          have hcell := HCL.out _ HB2.out
          by_cases he : e = 0
          · subst he
            have hpu := HPU.out rfl
            obtain ⟨V, rfl⟩ : ∃ V : Nat, v = V := ⟨v.toNat, by omega⟩
            cases y with
            | true =>
              have HF : Hid (ofR t l = ((k : Int), (u : Int) + V, 0)) := by unfold Hid; rw [HPT.out, if_neg (by simp), if_pos rfl]
              go_wp2_with fail
              refine bodyPost_ret (v := .tuple #[.int .i64 k, .int .i64 ((u : Int) + V), .int .i64 0]) (by simp [results, Try.results54, go_sem]) rfl ⟨by rw [HF.out], HB2.out⟩
            | false =>
              have HF : Hid (ofR t l = pof t (l.drop (k + 1)) (k + 1) (u + V) (s - x)) := by unfold Hid; rw [HPT.out, if_neg (by simp), if_neg (by simp)]; rfl
              have hxs2 : x < s := by
                rcases Int.lt_or_le x s with h | h
                · exact h
                · have := HPA.out (by omega); cases this
              go_wp2_with fail
              go_roundw
              case rel => exact ⟨k + 1, u + V, s - x, by omega, by go_num, by go_num, rfl, by omega, by omega, by unfold Hid; have := HSM.out; rw [HSU.out]; omega, HF.out, HB2.out⟩
              case measure => simp [intOf]; omega
          · have d1 : (e != 0) = true := by simpa using he
            have HF : Hid (ofR t l = (0, 0, e)) := by unfold Hid; rw [HPT.out, if_pos he]
            clear he
            go_wp2_with fail
            refine bodyPost_ret (v := .tuple #[.int .i64 0, .int .i64 0, .int .i64 e]) (by simp [results, Try.results54, go_sem]) rfl ⟨by rw [HF.out], HB2.out⟩
end Go.Proofs.Ytmcbkjepjijfjaa
