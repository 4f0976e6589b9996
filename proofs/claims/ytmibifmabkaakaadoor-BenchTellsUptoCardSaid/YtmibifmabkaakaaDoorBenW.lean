/- The reference of package bench: zscan, zstep; bench.fits, numbers: walked. No condition but the text's own size and the library's tables. -/
import Derived.Test.YtmibifmabkaakaaDoorBenC
import Derived.RegionTactic
import Derived.ChangeAlike
namespace Go.Proofs.YtmibifmabkaakaaDoor
open Go.ChangeShapes Go.WideShapes Go.ChangeAt Go.RowKit
set_option linter.unusedVariables false

theorem fits_any (n : Int) (w : World) : Calls Tryd.prog 79 #[.int .i64 n] w fun e w' => e = .returned (.bool (decide (0 ≤ n ∧ n ≤ 1099511627776))) ∧ w = w' := by
  obtain ⟨b, hb⟩ : ∃ b, b = decide (0 ≤ n ∧ n ≤ 1099511627776) := ⟨_, rfl⟩
  rw [← hb]
  rcases (by omega : n < 0 ∨ (¬ n < 0 ∧ 1099511627776 < n) ∨ (¬ n < 0 ∧ ¬ 1099511627776 < n)) with h1 | ⟨h1, h2⟩ | ⟨h1, h2⟩
  · have hf : Hid (b = false) := hb.trans (decide_eq_false (by omega))
    clear hb
    go_enter Tryd.func79, Tryd.ntmps79
    go_wp2_with fail
    go_ret
    exact ⟨by rw [hf.out]; first | rfl | (simp; omega), rfl⟩
  · have hf : Hid (b = false) := hb.trans (decide_eq_false (by omega))
    clear hb
    go_enter Tryd.func79, Tryd.ntmps79
    go_wp2_with fail
    go_ret
    exact ⟨by rw [hf.out]; first | rfl | (simp; omega), rfl⟩
  · have hf : Hid (b = true) := hb.trans (decide_eq_true (by omega))
    clear hb
    go_enter Tryd.func79, Tryd.ntmps79
    go_wp2_with fail
    go_ret
    exact ⟨by rw [hf.out]; first | rfl | (simp; omega), rfl⟩
/-- What zscan and zstep hand back. -/
def RZ (r : Option (Nat × Bs)) : Value := .tuple #[.int .i64 ((r.map (·.1)).getD 0 : Nat), SV ((r.map (·.2)).getD []), .bool r.isSome]
theorem valF_lt : ∀ (k : Nat) (l : Bs), l.length = k → (∀ c ∈ l, isDig c = true) → valF 0 l < 10 ^ k := by
  intro k
  induction k with
  | zero => intro l h _; rw [List.length_eq_zero_iff.1 h]; decide
  | succ k ih =>
    intro l hk hall
    have hne : l ≠ [] := fun e => by subst e; cases hk
    obtain ⟨d, c, rfl⟩ : ∃ d c, l = d ++ [c] := ⟨l.dropLast, l.getLast hne, (List.dropLast_concat_getLast hne).symm⟩
    rw [List.length_append, List.length_singleton] at hk
    have h1 := ih d (by omega) fun x hx => hall x (by simp [hx])
    have h2 := isDig_iff.1 (hall c (by simp))
    rw [valF_snoc, Nat.pow_succ]
    omega
theorem pow_mono {a b : Nat} (h : a ≤ b) : (10 : Nat) ^ a ≤ 10 ^ b := Nat.pow_le_pow_right (by decide) h
/-- One more digit. -/
theorem scan_more {s : Bs} {k : Nat} (hk : k < (scanDs s).length) : ∃ h : k < s.length, k < 14 ∧ 48 ≤ s[k].toNat ∧ s[k].toNat ≤ 57 ∧ valF 0 ((scanDs s).take k) < 100000000000000 ∧ valF 0 ((scanDs s).take (k + 1)) = 10 * valF 0 ((scanDs s).take k) + (s[k].toNat - 48) := by
  have hp := scan_pre s
  have hl : k < s.length := by
    have := congrArg List.length hp
    rw [List.length_append] at this
    omega
  have he : s[k] = (scanDs s)[k] := by
    have h1 : s[k]? = (scanDs s)[k]? := by
      conv => lhs; rw [hp]
      rw [List.getElem?_append_left hk]
    rw [List.getElem?_eq_getElem hl, List.getElem?_eq_getElem hk] at h1
    exact Option.some.inj h1
  have h14 := scan_le s
  have hd := isDig_iff.1 (scan_all s (scanDs s)[k] (List.getElem_mem hk))
  have hv := valF_lt _ ((scanDs s).take k) rfl fun c hc => scan_all s c (List.mem_of_mem_take hc)
  rw [List.length_take, Nat.min_eq_left (by omega)] at hv
  refine ⟨hl, by omega, by rw [he]; exact hd.1, by rw [he]; exact hd.2, Nat.lt_of_lt_of_le hv (Nat.le_trans (pow_mono (b := 14) (by omega)) (by decide)), ?_⟩
  rw [List.take_succ_eq_append_getElem hk, valF_snoc, he]
theorem scan_end {s : Bs} (h : (scanDs s).length < s.length) (h14 : (scanDs s).length < 14) : s[(scanDs s).length].toNat < 48 ∨ 57 < s[(scanDs s).length].toNat := by
  have := scan_stop h14 s[(scanDs s).length] (s.drop ((scanDs s).length + 1)) (List.drop_eq_getElem_cons h)
  have h2 : ¬ (48 ≤ s[(scanDs s).length].toNat ∧ s[(scanDs s).length].toNat ≤ 57) := fun e => by rw [isDig_iff.2 e] at this; cases this
  omega
theorem wr64 (x : Int) (h0 : 0 ≤ x) (h1 : x ≤ 9223372036854775807) : wrap64 x = x := by unfold wrap64; omega
theorem get_nat (S : ByteArray) (k : Nat) (h : k < S.size) : S[k] = S.data.toList[k] := rfl
theorem u8w (C : Nat) (h : 48 ≤ C) (h2 : C ≤ 57) : IntKind.u8.wrap ((C : Int) - 48) = ((C - 48 : Nat) : Int) := by
  show ((C : Int) - 48) % 256 = _
  omega
set_option maxRecDepth 20000 in
set_option maxHeartbeats 4000000 in
theorem zscan_core (S : ByteArray) (N D : Nat) (V : Nat → Nat) (C : Nat → Nat) (rz : Option (Nat × Bs)) (hN : S.size = N) (hN2 : N ≤ 281474976710656)
    (hC : ∀ k (h : k < S.size), (S[k]'h).toNat = C k) (hV0 : V 0 = 0) (hD : D ≤ 14) (hDN : D ≤ N)
    (hmore : ∀ k, k < D → 48 ≤ C k ∧ C k ≤ 57 ∧ V k < 100000000000000 ∧ V (k + 1) = 10 * V k + (C k - 48))
    (hend : D < N → D < 14 → C D < 48 ∨ 57 < C D)
    (hrz : rz = if D = 0 ∨ (1 < D ∧ C 0 = 48) ∨ 1099511627776 < V D then none else some (V D, (S.extract D N).data.toList)) (w : World) :
    Calls Tryd.prog 101 #[.string S] w fun e w' => e = .returned (RZ rz) ∧ ∃ m, w' = w.drewN m := by
  have HM := Lib.hid hmore
  have HE := Lib.hid hend
  have HR := Lib.hid hrz
  have HD := Lib.hid (And.intro hD (And.intro hDN hN2))
  have HV0 := Lib.hid hV0
  clear hmore hend hrz hD hDN hN2 hV0
  go_enter Tryd.func101, Tryd.ntmps101
  go_wp2_with fail
  go_loopw [5, 6] (fun s5 s6 wx => ∃ k : Nat, k ≤ D ∧ s6 = .int .i64 k ∧ s5 = .int .i64 (V k : Nat) ∧ wx = w) (fun _ s6 _ => D - (intOf s6).toNat)
  case atStart => exact ⟨0, Nat.zero_le _, rfl, by rw [HV0.out]; rfl, rfl⟩
  case round =>
    obtain ⟨k, hkD, rfl, rfl, rfl⟩ := hrel
    by_cases hlt : k < D
    · obtain ⟨m1, m2, m3, m4⟩ := HM.out k hlt
      have hkN : k < S.size := by have := HD.out; omega
      have hc := hC k hkN
      have i1 : decide ((k : Int) < (N : Int)) = true := decide_eq_true (by have := HD.out; omega)
      have i2 : decide ((k : Int) < 14) = true := decide_eq_true (by have := HD.out; omega)
      have i3 : decide ((48 : Int) ≤ (C k : Nat)) = true := decide_eq_true (by omega)
      have i4 : decide (((C k : Nat) : Int) ≤ 57) = true := decide_eq_true (by omega)
      have HV : Hid (V (k + 1) = 10 * V k + (C k - 48)) := m4
      have hix : (0 : Int) ≤ (k : Int) ∧ (k : Int) < (N : Int) := by have := HD.out; omega
      have u1 : wrap64 (10 * (V k : Nat) + ((C k - 48 : Nat) : Int)) = (V (k + 1) : Nat) := by rw [wr64 _ (by omega) (by omega)]; omega
      have u2 : IntKind.u8.wrap ((C k : Nat) - 48) = ((C k - 48 : Nat) : Int) := u8w _ m1 m2
      have u3 : wrap64 ((k : Int) + 1) = ((k + 1 : Nat) : Int) := by rw [wr64 _ (by omega) (by have := HD.out; omega)]; omega
      have u4 : wrap64 (10 * (V k : Nat)) = 10 * (V k : Nat) := wr64 _ (by omega) (by omega)
      have HK := Lib.hid hlt
      have HC57 := Lib.hid m2
      have HU3 := Lib.hid u3
      have HU1 := Lib.hid u1
      clear hC hkD hlt m1 m2 m3 m4 HV u3 u1
      have u5 : wrap64 ((C k - 48 : Nat) : Int) = ((C k - 48 : Nat) : Int) := wr64 _ (by omega) (by have := HC57.out; omega)
      generalize C k = c at *
      generalize V k = v at *
      generalize c - 48 = d at *
      go_wp2_with fail
      go_roundw
      case rel => exact ⟨k + 1, HK.out, by rw [HU3.out], by rw [HU1.out], trivial⟩
      case measure => rw [HU3.out]; have := HK.out; simp [intOf]; omega
    · obtain rfl : k = D := by omega
      have HT : (¬ (k : Int) < (N : Int)) ∨ (decide ((k : Int) < (N : Int)) = true ∧ decide ((k : Int) < 14) = false) ∨ (decide ((k : Int) < (N : Int)) = true ∧ decide ((k : Int) < 14) = true ∧ decide ((48 : Int) ≤ (C k : Nat)) = false) ∨ (decide ((k : Int) < (N : Int)) = true ∧ decide ((k : Int) < 14) = true ∧ decide ((48 : Int) ≤ (C k : Nat)) = true ∧ ((((C k : Nat) : Int) ≤ 57) = False)) := by
        simp only [decide_eq_false_iff_not, decide_eq_true_eq, eq_iff_iff, iff_false]
        have := HE.out
        omega
      have HB : (((k : Int) == 0) = true ∧ Hid (rz = none)) ∨ (((k : Int) == 0) = false ∧ (0 : Int) < (N : Int) ∧ decide ((1 : Int) < (k : Int)) = true ∧ (((C 0 : Nat) : Int) == 48) = true ∧ Hid (rz = none)) ∨ (((k : Int) == 0) = false ∧ (0 : Int) < (N : Int) ∧ decide ((1 : Int) < (k : Int)) = true ∧ (((C 0 : Nat) : Int) == 48) = false ∧ decide ((1099511627776 : Int) < (V k : Nat)) = true ∧ Hid (rz = none)) ∨ (((k : Int) == 0) = false ∧ (0 : Int) < (N : Int) ∧ decide ((1 : Int) < (k : Int)) = true ∧ (((C 0 : Nat) : Int) == 48) = false ∧ decide ((1099511627776 : Int) < (V k : Nat)) = false ∧ Hid (rz = some (V k, (S.extract k N).data.toList))) ∨ (((k : Int) == 0) = false ∧ decide ((1 : Int) < (k : Int)) = false ∧ decide ((1099511627776 : Int) < (V k : Nat)) = true ∧ Hid (rz = none)) ∨ (((k : Int) == 0) = false ∧ decide ((1 : Int) < (k : Int)) = false ∧ decide ((1099511627776 : Int) < (V k : Nat)) = false ∧ Hid (rz = some (V k, (S.extract k N).data.toList))) := by
        have hr := HR.out
        by_cases a1 : k = 0
        · left
          exact ⟨by simp [a1], hr.trans (if_pos (Or.inl a1))⟩
        · have b1 : ((k : Int) == 0) = false := by rw [beq_eq_false_iff_ne]; omega
          right
          by_cases a2 : 1 < k
          · have b0 : (0 : Int) < (N : Int) := by have := HD.out; omega
            have b2 : decide ((1 : Int) < (k : Int)) = true := decide_eq_true (by omega)
            by_cases a3 : C 0 = 48
            · left
              exact ⟨b1, b0, b2, by rw [beq_iff_eq]; omega, hr.trans (if_pos (Or.inr (Or.inl ⟨a2, a3⟩)))⟩
            · have b3 : (((C 0 : Nat) : Int) == 48) = false := by rw [beq_eq_false_iff_ne]; omega
              right
              by_cases a4 : 1099511627776 < V k
              · left
                exact ⟨b1, b0, b2, b3, decide_eq_true (by omega), hr.trans (if_pos (Or.inr (Or.inr a4)))⟩
              · right; left
                exact ⟨b1, b0, b2, b3, decide_eq_false (by omega), hr.trans (if_neg (by omega))⟩
          · have b2 : decide ((1 : Int) < (k : Int)) = false := decide_eq_false (by omega)
            right; right; right
            by_cases a4 : 1099511627776 < V k
            · left
              exact ⟨b1, b2, decide_eq_true (by omega), hr.trans (if_pos (Or.inr (Or.inr a4)))⟩
            · right
              exact ⟨b1, b2, decide_eq_false (by omega), hr.trans (if_neg (by omega))⟩
      have hkN : k ≤ S.size := by have := HD.out; omega
      have hc0 : ∀ h : 0 < S.size, (S[0]'h).toNat = C 0 := hC 0
      have hck : ∀ h : k < S.size, (S[k]'h).toNat = C k := hC k
      have hix : (0 : Int) ≤ (k : Int) ∧ (k : Int) ≤ (N : Int) := by have := HD.out; omega
      clear hC hlt hkD
      rcases HT with i1 | ⟨i1, i2⟩ | ⟨i1, i2, i3⟩ | ⟨i1, i2, i3, i4⟩
      all_goals (rcases HB with ⟨j1, hr⟩ | ⟨j1, j0, j2, j3, hr⟩ | ⟨j1, j0, j2, j3, j4, hr⟩ | ⟨j1, j0, j2, j3, j4, hr⟩ | ⟨j1, j2, j3, hr⟩ | ⟨j1, j2, j3, hr⟩)
      all_goals go_wp2_with fail
      all_goals (try go_ret3)
      all_goals first | exact ⟨by rw [hr.out]; rfl, 0, rfl⟩ | skip
      all_goals go_quiet (fail)
      all_goals go_wp2_with fail
      all_goals go_ret3
      all_goals exact ⟨by rw [hr.out]; show _ = Ending.returned (.tuple #[_, SV (S.extract k N).data.toList, _]); rw [← sv_of]; rfl, _, rfl⟩
theorem ite_cc {α : Type} {p q : Prop} [Decidable p] [Decidable q] (h : p ↔ q) {a b c : α} (e : b = c) : (if p then a else b) = (if q then a else c) := by
  by_cases hp : p
  · rw [if_pos hp, if_pos (h.1 hp)]
  · rw [if_neg hp, if_neg (fun hq => hp (h.2 hq)), e]
theorem zscan_any (s : Bs) (hs : s.length ≤ 281474976710656) (w : World) : Calls Tryd.prog 101 #[SV s] w fun e w' => e = .returned (RZ (zscanR s)) ∧ ∃ m, w' = w.drewN m := by
  have hdn : (scanDs s).length ≤ s.length := by
    have := congrArg List.length (scan_pre s)
    rw [List.length_append] at this
    omega
  refine zscan_core ⟨s.toArray⟩ s.length (scanDs s).length (fun k => valF 0 ((scanDs s).take k)) (fun k => (s.getD k 0).toNat) (zscanR s) rfl hs ?_ rfl (scan_le s) hdn ?_ ?_ ?_ w
  · intro k h
    have h' : k < s.length := h
    show s[k].toNat = (s.getD k 0).toNat
    rw [List.getD_eq_getElem?_getD, List.getElem?_eq_getElem h']
    rfl
  · intro k hk
    obtain ⟨h, _, h1, h2, h3, h4⟩ := scan_more hk
    have e : s.getD k 0 = s[k] := by rw [List.getD_eq_getElem?_getD, List.getElem?_eq_getElem h]; rfl
    simp only [e]
    exact ⟨h1, h2, h3, h4⟩
  · intro h h14
    have e : s.getD (scanDs s).length 0 = s[(scanDs s).length] := by rw [List.getD_eq_getElem?_getD, List.getElem?_eq_getElem h]; rfl
    simp only [e]
    exact scan_end h h14
  · unfold zscanR
    simp only [List.take_length]
    have e1 : (1 < (scanDs s).length ∧ s.head? = some 48) ↔ (1 < (scanDs s).length ∧ (s.getD 0 0).toNat = 48) := by
      refine and_congr_right fun h => ?_
      cases s with
      | nil => simp [scanDs] at h
      | cons c t =>
        show some c = some 48 ↔ c.toNat = 48
        rw [Option.some.injEq]
        exact ⟨fun h => by rw [h]; rfl, fun h => UInt8.toNat_inj.1 h⟩
    refine ite_cc (by rw [e1]) ?_
    rw [sv_ext]
    show _ = some (_, (s.drop (scanDs s).length).take (s.length - (scanDs s).length))
    rw [List.take_of_length_le (by rw [List.length_drop]; exact Nat.le_refl _)]
end Go.Proofs.YtmibifmabkaakaaDoor
