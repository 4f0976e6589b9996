/- Tossing a coin by a fraction, walked. No condition. -/
import Derived.Test.YtmcbkjepjijfjaaCoiR
namespace Go.Proofs.Ytmcbkjepjijfjaa
open Go.ChangeShapes Go.WideShapes Go.ChangeAt Go.RowKit
set_option linter.unusedVariables false

abbrev C3 (r : Bool × Int × Int) : Ending := .returned (.tuple #[.bool r.1, .int .i64 r.2.1, .int .i64 r.2.2])
set_option maxRecDepth 20000 in
set_option maxHeartbeats 4000000 in
theorem toss_any (t : List Bool) (a b : Int) (A : Option Addr) (c : Nat) (w : World) (hs : Seg w w.heap.size A (t.map .bool)) (hm : (t.length : Int) ≤ 9223372036854775000) :
    Calls Try.prog 49 #[.slice A t.length c, FracV a b] w fun e w' => e = C3 (ptoss t a b) ∧ Below w.heap.size w w' := by
  have HS := Lib.hid hs
  have hr := coright_any a b (w.alloc (.cells #[.int .i64 a, .int .i64 b] 62))
  clear hs
  cases hg : cok a b with
  | false =>
    rw [hg] at hr
    have HR := Lib.hid hr
    have HP : Hid (ptoss t a b = (false, 0, 2)) := by unfold ptoss Hid; rw [hg]; rfl
    clear hr hg
    go_enter Try.func49, Try.ntmps49
    go_wp2_with fail
    refine HR.out.mono ?_
    rintro e w1 ⟨rfl, hb⟩
    have HB1 : Hid (Below w.heap.size w w1) := ((Below.refl _ _).alloc (Nat.le_refl _) _).trans (hb.mono (by simp))
    clear hb
    go_wp2_with fail
    refine bodyPost_ret (v := .tuple #[.bool false, .int .i64 0, .int .i64 2]) (by simp [results, Try.results49, go_sem]) rfl ⟨by rw [HP.out], HB1.out⟩
  | true =>
    rw [hg] at hr
    have HR := Lib.hid hr
    have HP : Hid (ptoss t a b = ctf b t a 0) := by unfold ptoss Hid; rw [hg]; rfl
    unfold cok at hg
    simp at hg
    obtain ⟨g1, g2, g3, g4⟩ := hg
    clear hr
    by_cases hab : a = b
    · subst hab
      have HV : Hid (ptoss t a a = (true, 0, 0)) := by unfold Hid; rw [HP.out, ctf_yes (Int.le_refl a)]; rfl
      have b1 : (a == a) = true := by simp
      go_enter Try.func49, Try.ntmps49
      go_wp2_with fail
      refine HR.out.mono ?_
      rintro e w1 ⟨rfl, hb⟩
      have HB1 : Hid (Below w.heap.size w w1) := ((Below.refl _ _).alloc (Nat.le_refl _) _).trans (hb.mono (by simp))
      have hbk := (Blk.new w 62 #[.int .i64 a, .int .i64 a]).below hb (by simp)
      have hc0 := hbk.cell 0 (u := .int .i64 a) rfl
      have hc1 := hbk.cell 1 (u := .int .i64 a) rfl
      clear hb
      go_wp2_with fail
      refine bodyPost_ret (v := .tuple #[.bool true, .int .i64 0, .int .i64 0]) (by simp [results, Try.results49, go_sem]) rfl ⟨by rw [HV.out], HB1.out⟩
    · have b1 : (a == b) = false := by simpa using hab
      have hlt : a < b := by omega
      clear hab
      by_cases h0 : a = 0
      · subst h0
        have HV : Hid (ptoss t 0 b = (false, 0, 0)) := by unfold Hid; rw [HP.out, ctf_no (by omega) (Int.le_refl 0)]; rfl
        go_enter Try.func49, Try.ntmps49
        go_wp2_with fail
        refine HR.out.mono ?_
        rintro e w1 ⟨rfl, hb⟩
        have HB1 : Hid (Below w.heap.size w w1) := ((Below.refl _ _).alloc (Nat.le_refl _) _).trans (hb.mono (by simp))
        have hbk := (Blk.new w 62 #[.int .i64 0, .int .i64 b]).below hb (by simp)
        have hc0 := hbk.cell 0 (u := .int .i64 0) rfl
        have hc1 := hbk.cell 1 (u := .int .i64 b) rfl
        clear hb hbk
        go_wp2_with fail
        refine bodyPost_ret (v := .tuple #[.bool false, .int .i64 0, .int .i64 0]) (by simp [results, Try.results49, go_sem]) rfl ⟨by rw [HV.out], HB1.out⟩
      · have b2 : (a == 0) = false := by simpa using h0
        have ha : 0 < a := by omega
        clear h0
        go_enter Try.func49, Try.ntmps49
        go_wp2_with fail
        refine HR.out.mono ?_
        rintro e w1 ⟨rfl, hb⟩
        have HB1 : Hid (Below w.heap.size w w1) := ((Below.refl _ _).alloc (Nat.le_refl _) _).trans (hb.mono (by simp))
        have hbk := (Blk.new w 62 #[.int .i64 a, .int .i64 b]).below hb (by simp)
        have HS1 := Lib.hid (HS.out.below HB1.out)
        have hc0 := hbk.cell 0 (u := .int .i64 a) rfl
        have hc1 := hbk.cell 1 (u := .int .i64 b) rfl
        clear hb hbk
        go_wp2_with fail
        clear hc0 b1 b2
        go_loop [7, 29] (fun s7 s29 => ∃ (k : Nat) (r : Int), k ≤ t.length ∧ s29 = .int .i64 k ∧ s7 = .int .i64 r ∧ 0 < r ∧ r < b ∧ Hid (ptoss t a b = ctf b (t.drop k) r k)) (fun _ s29 => t.length - (intOf s29).toNat)
        case atStart => exact ⟨0, a, Nat.zero_le _, rfl, rfl, ha, hlt, HP.out⟩
        case round =>
          obtain ⟨k, r, hk, rfl, rfl, hr0, hrb, hp⟩ := hrel
          by_cases hkt : k < t.length
          · have i2 : (k : Int) < (t.length : Int) := by omega
            obtain ⟨ad, rfl, _, hcell⟩ := HS1.out.bool hkt
            have HST : Hid (ptoss t a b = ctf b (t.drop (k + 1)) (2 * r - if t[k] = true then b else 0) (k + 1)) := by
              unfold Hid; rw [hp.out, drop_bool hkt, ctf_step (by omega) (by omega)]
            clear hp
            generalize t[k] = x at *
            have i3 : r * 2 = 2 * r := by omega
            by_cases h1 : b ≤ 2 * r
            · cases x with
              | true =>
                rw [if_pos rfl] at HST
                by_cases h2 : 2 * r - b = 0
                · have HV : Hid (ptoss t a b = (false, ((k + 1 : Nat) : Int), 0)) := by unfold Hid; rw [HST.out, ctf_no (by omega) (by omega)]
                  have b3 : (2 * r - b == 0) = true := by simpa using h2
                  clear h2
                  go_wp2_with fail
                  refine bodyPost_ret (v := .tuple #[.bool false, .int .i64 (k + 1 : Nat), .int .i64 0]) (by simp [results, Try.results49, go_sem]) rfl ⟨by rw [HV.out], HB1.out⟩
                · have b3 : (2 * r - b == 0) = false := by simpa using h2
                  have hpos : 0 < 2 * r - b := by omega
                  clear h2
                  go_wp2_with fail
                  go_round
                  case rel => exact ⟨k + 1, 2 * r - b, by omega, by go_num, rfl, hpos, by omega, HST.out⟩
                  case measure => simp [intOf]; omega
              | false =>
                rw [if_neg (by decide)] at HST
                have HV : Hid (ptoss t a b = (true, ((k + 1 : Nat) : Int), 0)) := by unfold Hid; rw [HST.out, ctf_yes (by omega)]
                go_wp2_with fail
                refine bodyPost_ret (v := .tuple #[.bool true, .int .i64 (k + 1 : Nat), .int .i64 0]) (by simp [results, Try.results49, go_sem]) rfl ⟨by rw [HV.out], HB1.out⟩
            · cases x with
              | true =>
                rw [if_pos rfl] at HST
                have HV : Hid (ptoss t a b = (false, ((k + 1 : Nat) : Int), 0)) := by unfold Hid; rw [HST.out, ctf_no (by omega) (by omega)]
                go_wp2_with fail
                refine bodyPost_ret (v := .tuple #[.bool false, .int .i64 (k + 1 : Nat), .int .i64 0]) (by simp [results, Try.results49, go_sem]) rfl ⟨by rw [HV.out], HB1.out⟩
              | false =>
                rw [if_neg (by decide), Int.sub_zero] at HST
                have b3 : (2 * r == 0) = false := by rw [beq_eq_false_iff_ne]; omega
                go_wp2_with fail
                go_round
                case rel => exact ⟨k + 1, 2 * r, by omega, by go_num, rfl, by omega, by omega, HST.out⟩
                case measure => simp [intOf]; omega
          · have i2 : ¬ (k : Int) < (t.length : Int) := by omega
            have HV : Hid (ptoss t a b = (false, 0, 7)) := by unfold Hid; rw [hp.out, List.drop_eq_nil_of_le (by omega), ctf_end (by omega) (by omega)]
            go_wp2_with fail
            refine bodyPost_ret (v := .tuple #[.bool false, .int .i64 0, .int .i64 7]) (by simp [results, Try.results49, go_sem]) rfl ⟨by rw [HV.out], HB1.out⟩
end Go.Proofs.Ytmcbkjepjijfjaa
