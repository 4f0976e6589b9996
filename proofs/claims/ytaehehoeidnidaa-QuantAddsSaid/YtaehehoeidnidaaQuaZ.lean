/- Package quant: All, walked. No condition but the list's own length. -/
import Derived.Test.YtaehehoeidnidaaQuaF
namespace Go.Proofs.Ytaehehoeidnidaa
open Go.ChangeShapes Go.WideShapes Go.ChangeAt Go.RowKit
set_option linter.unusedVariables false

theorem Own3.len {w : World} {base : Nat} {v : Value} {ps : List Rk} (h : Own3 w base v ps) : ps.length ≤ 9223372036854775807 := by
  rcases h.open_ with ⟨_, rfl⟩ | ⟨_, cap, _, _, _, _, h1, h2, _⟩
  · simp
  · unfold maxLen at h2; omega
/-- All that come, one by one; it stops at the first that is refused. -/
noncomputable def qgo (parts : Int) (xs : List Int) : Nat → List Rk × Int
  | 0 => ([], 0)
  | k + 1 => if (qgo parts xs k).2 = 0 then (if (qaddR parts (qgo parts xs k).1 (xs.getD k 0)).2 = 0 then qaddR parts (qgo parts xs k).1 (xs.getD k 0) else ([], (qaddR parts (qgo parts xs k).1 (xs.getD k 0)).2)) else qgo parts xs k
noncomputable def qallR (parts : Int) (xs : List Int) : List Rk × Int := if parts < 1 ∨ 100 < parts then ([], 2) else qgo parts xs xs.length
theorem qgo_stop (parts : Int) (xs : List Int) (k : Nat) (h : (qgo parts xs k).2 ≠ 0) : ∀ d, qgo parts xs (k + d) = qgo parts xs k
  | 0 => rfl
  | d + 1 => by
    have ih := qgo_stop parts xs k h d
    have e : qgo parts xs (k + (d + 1)) = if (qgo parts xs (k + d)).2 = 0 then (if (qaddR parts (qgo parts xs (k + d)).1 (xs.getD (k + d) 0)).2 = 0 then qaddR parts (qgo parts xs (k + d)).1 (xs.getD (k + d) 0) else ([], (qaddR parts (qgo parts xs (k + d)).1 (xs.getD (k + d) 0)).2)) else qgo parts xs (k + d) := rfl
    rw [e, ih, if_neg h]
theorem qgo_next {parts : Int} {xs : List Int} {k : Nat} {l r : List Rk} (h : qgo parts xs k = (l, 0)) (h2 : qaddR parts l (xs.getD k 0) = (r, 0)) : qgo parts xs (k + 1) = (r, 0) := by
  show (if _ then _ else _) = _
  rw [h]
  simp only
  rw [if_pos trivial, h2, if_pos rfl]
theorem qgo_fail {parts : Int} {xs : List Int} {k : Nat} {l r : List Rk} {e : Int} (h : qgo parts xs k = (l, 0)) (h2 : qaddR parts l (xs.getD k 0) = (r, e)) (he : e ≠ 0) (hk : k < xs.length) : qgo parts xs xs.length = ([], e) := by
  have h3 : qgo parts xs (k + 1) = ([], e) := by
    show (if _ then _ else _) = _
    rw [h]
    simp only
    rw [if_pos trivial, h2, if_neg he]
  have := qgo_stop parts xs (k + 1) (by rw [h3]; exact he) (xs.length - (k + 1))
  rw [show k + 1 + (xs.length - (k + 1)) = xs.length by omega, h3] at this
  exact this
set_option maxRecDepth 20000 in
set_option maxHeartbeats 4000000 in
theorem all_any (parts : Int) (A : Option Addr) (xs : List Int) (c : Nat) (w : World) (hs : Seg w w.heap.size A (xs.map (.int .i64))) (hm : xs.length ≤ 9223372036854775807) :
    Calls Try.prog 86 #[.int .i64 parts, .slice A xs.length c] w (KOut w.heap.size (qallR parts xs) w) := by
  have HS := Lib.hid hs
  have HM := Lib.hid hm
  clear hs hm
  rcases (by omega : parts < 1 ∨ (¬ parts < 1 ∧ 100 < parts) ∨ (¬ parts < 1 ∧ ¬ 100 < parts)) with h | ⟨h, h'⟩ | ⟨h, h'⟩
  · have HF : Hid (qallR parts xs = ([], 2)) := if_pos (.inl h)
    have b1 : decide (parts < 1) = true := decide_eq_true h
    clear h
    go_enter Try.func86, Try.ntmps86
    go_wp2_with fail
    go_ret2
    exact ⟨_, by rw [HF.out]; rfl, by rw [HF.out]; exact Own3.none_, Below.refl _ _⟩
  · have HF : Hid (qallR parts xs = ([], 2)) := if_pos (.inr h')
    have b1 : decide (parts < 1) = false := decide_eq_false h
    have b2 : decide (100 < parts) = true := decide_eq_true h'
    clear h h'
    go_enter Try.func86, Try.ntmps86
    go_wp2_with fail
    go_ret2
    exact ⟨_, by rw [HF.out]; rfl, by rw [HF.out]; exact Own3.none_, Below.refl _ _⟩
  · have HF : Hid (qallR parts xs = qgo parts xs xs.length) := if_neg (by omega)
    have b1 : decide (parts < 1) = false := decide_eq_false h
    have b2 : decide (100 < parts) = false := decide_eq_false h'
    clear h h'
    go_enter Try.func86, Try.ntmps86
    go_wp2_with fail
    clear b1 b2
    go_loopw [6, 19] (fun s6 s19 wx => ∃ (k : Nat) (l : List Rk), k ≤ xs.length ∧ s19 = .int .i64 k ∧ Hid (qgo parts xs k = (l, 0)) ∧ Hid (Own3 wx w.heap.size s6 l) ∧ Hid (Below w.heap.size w wx)) (fun _ s19 _ => xs.length - (intOf s19).toNat)
    case atStart => exact ⟨0, [], Nat.zero_le _, rfl, rfl, Own3.none_, Below.refl _ _⟩
    case round =>
      obtain ⟨k, l, hk, rfl, hg, ho, hb⟩ := hrel
      by_cases hlt : k < xs.length
      · have i1 : (k : Int) < (xs.length : Int) := by omega
        obtain ⟨ad, rfl, _, c0⟩ := HS.out.int hlt
        have d0 := (hb.out.cell (block_lt c0)).trans c0
        have hgd : xs.getD k 0 = xs[k] := by simp [List.getD, hlt]
        obtain ⟨y, hy⟩ : ∃ y, y = xs[k] := ⟨_, rfl⟩
        rw [← hy] at d0 hgd
        have HGD := Lib.hid hgd
        have uk : Hid (wrap64 ((k : Int) + 1) = ((k + 1 : Nat) : Int)) := by have := HM.out; exact qk64 (by omega)
        obtain ⟨A2, k2, rfl, _, hs2⟩ := ho.out.seg
        have HS2 := Lib.hid hs2
        have HLn := Lib.hid ho.out.len
        obtain ⟨⟨r, e⟩, hr⟩ : ∃ r : List Rk × Int, qaddR parts l y = r := ⟨_, rfl⟩
        have HR := Lib.hid hr
        have HK := Lib.hid (And.intro hk hlt)
        have hadd := add_any parts A2 l k2 y wr HS2.out HLn.out
        rw [HR.out] at hadd
        have HADD := Lib.hid hadd
        clear hgd hy hs2 hr hk hlt c0 hadd
        by_cases he : e = 0
        · subst he
          have HN : Hid (qgo parts xs (k + 1) = (r, 0)) := qgo_next hg.out (by rw [HGD.out]; exact HR.out)
          go_wp2_with fail
          refine HADD.out.mono ?_
          rintro e w1 ⟨v1, rfl, ho1, hb1⟩
          have HO1 := Lib.hid (ho1.rebase hb.out.size)
          have HB1 := Lib.hid (hb.out.trans (hb1.mono hb.out.size))
          clear ho1 hb1
          go_wp2_with fail
          go_roundw
          case rel => exact ⟨k + 1, r, by have := HK.out; omega, by first | rfl | rw [uk.out], HN.out, HO1.out, HB1.out⟩
          case measure => (try rw [uk.out]); have := HK.out; simp [intOf]; omega
        · have HN : Hid (qallR parts xs = ([], e)) := by unfold Hid; rw [HF.out]; exact qgo_fail hg.out (by rw [HGD.out]; exact HR.out) he HK.out.2
          have b1 : (e != 0) = true := by simpa using he
          have b2 : (e == 0) = false := by simpa using he
          clear he
          go_wp2_with fail
          refine HADD.out.mono ?_
          rintro e9 w1 ⟨v1, rfl, ho1, hb1⟩
          have HB1 := Lib.hid (hb.out.trans (hb1.mono hb.out.size))
          clear ho1 hb1
          go_wp2_with fail
          go_ret2
          exact ⟨_, by rw [HN.out]; rfl, by rw [HN.out]; exact Own3.none_, HB1.out⟩
      · obtain rfl : k = xs.length := by omega
        have HN : Hid (qallR parts xs = (l, 0)) := by unfold Hid; rw [HF.out]; exact hg.out
        go_wp2_with fail
        go_ret2
        exact ⟨_, by rw [HN.out]; rfl, by rw [HN.out]; exact ho.out, hb.out⟩
end Go.Proofs.Ytaehehoeidnidaa
