/- The reference of package bench: zstep, walked. No condition but the text's own size. -/
import Derived.Test.YtmibifmabkaakaaDoorBenW
namespace Go.Proofs.YtmibifmabkaakaaDoor
open Go.ChangeShapes Go.WideShapes Go.ChangeAt Go.RowKit
set_option linter.unusedVariables false

set_option maxRecDepth 20000 in
set_option maxHeartbeats 4000000 in
theorem zstep_core (S W : ByteArray) (n m : Nat) (rz : Option (Nat × Bs)) (hS : S.size = n) (hW : W.size = m) (hn : n ≤ 281474976710656)
    (hz : ∀ u, m ≤ n → Calls Tryd.prog 101 #[.string (S.extract m n)] u fun e w' => e = .returned (RZ (zscanR (S.extract m n).data.toList)) ∧ ∃ m, w' = u.drewN m)
    (hrz : rz = if m ≤ n ∧ ((S.extract 0 m).toList == W.toList) = true then zscanR (S.extract m n).data.toList else none) (w : World) :
    Calls Tryd.prog 84 #[.string S, .string W] w fun e w' => e = .returned (RZ rz) ∧ ∃ m, w' = w.drewN m := by
  have HZ := Lib.hid hz
  have HR := Lib.hid hrz
  clear hz hrz
  by_cases h1 : n < m
  · have hr : Hid (rz = none) := HR.out.trans (if_neg (by omega))
    have i1 : (n : Int) < (m : Int) := by omega
    go_enter Tryd.func84, Tryd.ntmps84
    go_wp2_with fail
    go_ret3
    exact ⟨by rw [hr.out]; rfl, 0, rfl⟩
  · have i1 : ¬ (n : Int) < (m : Int) := by omega
    have i2 : (m : Int) ≤ (n : Int) := by omega
    by_cases h2 : ((S.extract 0 m).toList == W.toList) = true
    · go_enter Tryd.func84, Tryd.ntmps84
      go_wp2_with fail
      refine (HZ.out _ (by omega)).mono ?_
      rintro e w2 ⟨rfl, m2, rfl⟩
      have hr : Hid (rz = zscanR (S.extract m n).data.toList) := HR.out.trans (if_pos ⟨by omega, h2⟩)
      rw [← hr.out]
      unfold RZ
      go_wp2_with fail
      go_ret3
      exact ⟨rfl, _, rfl⟩
    · have hr : Hid (rz = none) := HR.out.trans (if_neg fun h => h2 h.2)
      have i3 : ((S.extract 0 m).toList == W.toList) = false := by simpa using h2
      clear h2
      go_enter Tryd.func84, Tryd.ntmps84
      go_wp2_with fail
      go_ret3
      exact ⟨by rw [hr.out]; rfl, 0, rfl⟩
theorem zstep_any (s word : Bs) (hs : s.length ≤ 281474976710656) (w : World) : Calls Tryd.prog 84 #[SV s, SV word] w fun e w' => e = .returned (RZ (zstepR s word)) ∧ ∃ m, w' = w.drewN m := by
  have e1 : ((⟨s.toArray⟩ : ByteArray).extract word.length s.length).data.toList = s.drop word.length := by
    rw [sv_ext]
    show (s.drop word.length).take (s.length - word.length) = _
    rw [List.take_of_length_le (by rw [List.length_drop]; exact Nat.le_refl _)]
  have e0 : ((⟨s.toArray⟩ : ByteArray).extract word.length s.length) = ⟨(s.drop word.length).toArray⟩ := by
    rw [sv_ext, List.take_of_length_le (by rw [List.length_drop]; exact Nat.le_refl _)]
  refine zstep_core ⟨s.toArray⟩ ⟨word.toArray⟩ s.length word.length (zstepR s word) rfl rfl hs ?_ ?_ w
  · intro u _
    rw [e1, e0]
    exact zscan_any _ (by rw [List.length_drop]; omega) u
  · rw [e1]
    unfold zstepR
    have e2 : (word.isPrefixOf s = true) ↔ (word.length ≤ s.length ∧ (((⟨s.toArray⟩ : ByteArray).extract 0 word.length).toList == (⟨word.toArray⟩ : ByteArray).toList) = true) := by
      rw [Lib.toList_data, Lib.toList_data, sv_ext, beq_iff_eq]
      show _ ↔ _ ∧ (s.drop 0).take (word.length - 0) = word
      rw [List.drop_zero, Nat.sub_zero, List.isPrefixOf_iff_prefix]
      constructor
      · rintro ⟨t, rfl⟩
        exact ⟨by simp, List.take_left⟩
      · rintro ⟨h1, h2⟩
        exact ⟨s.drop word.length, by conv => lhs; lhs; rw [← h2]
                                      exact List.take_append_drop _ _⟩
    by_cases h : word.isPrefixOf s = true
    · rw [if_pos h, if_pos (e2.1 h)]
    · rw [if_neg h, if_neg (fun g => h (e2.2 g))]
end Go.Proofs.YtmibifmabkaakaaDoor
