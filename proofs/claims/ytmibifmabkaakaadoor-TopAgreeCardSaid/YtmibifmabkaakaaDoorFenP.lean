/- Sums by a tree: all sums, whose part a number is in, walked. No condition. -/
import Derived.Test.YtmibifmabkaakaaDoorFenB
namespace Go.Proofs.YtmibifmabkaakaaDoor
open Go.ChangeShapes Go.WideShapes Go.ChangeAt Go.RowKit
set_option linter.unusedVariables false

theorem topk_eq {l : List Int} {n : Int} {k : Nat} (hmo : ∀ i j, i ≤ j → j ≤ l.length → pre l i ≤ pre l j) (h1 : pre l k ≤ n) (h2 : n < pre l (k + 1)) : ∀ j, k < j → j ≤ l.length → topk l n j = k := by
  intro j
  induction j with
  | zero => intro h; omega
  | succ j ih =>
    intro hk hj
    rw [topk]
    by_cases e : j = k
    · subst e; rw [if_pos h1]
    · have := hmo (k + 1) j (by omega) (by omega)
      rw [if_neg (by omega)]
      exact ih (by omega) (by omega)
theorem wok_mono {l : List Int} (h : wokB l = true) : ∀ i j, i ≤ j → j ≤ l.length → pre l i ≤ pre l j := fun i j hij hj => pre_mono (fun k hk => ((wok_at h).2 k hk).1) hij hj
def sumsL (l : List Int) : List Int := if wokB l = true then tab (pre l) (l.length + 1) else []
def sumsE (l : List Int) : Int := if wokB l = true then 0 else 2
set_option maxRecDepth 20000 in
set_option maxHeartbeats 2000000 in
theorem pick_any (l : List Int) (n : Int) (A : Option Addr) (c : Nat) (w : World) (hs : Seg w w.heap.size A (l.map (.int .i64))) (hm : l.length ≤ 9223372036854775807) :
    Calls Tryd.prog 25 #[.slice A l.length c, .int .i64 n] w fun e w' => e = .returned (.tuple #[.int .i64 (pickR l n).1, .int .i64 (pickR l n).2]) ∧ Below w.heap.size w w' := by
  have HS := Lib.hid hs
  have hw := fwrong_any l A c w hs hm
  cases hg : wokB l with
  | false =>
    rw [hg] at hw
    have HW := Lib.hid hw
    have HL : Hid (pickR l n = (0, 2)) := by unfold pickR Hid; rw [hg]; rfl
    clear hw hg hs
    go_enter Tryd.func25, Tryd.ntmps25
    go_wp2_with fail
    refine HW.out.mono ?_
    rintro e w' ⟨rfl, rfl⟩
    go_wp2_with fail
    go_ret2
    rw [HL.out]
    exact ⟨rfl, Below.refl _ _⟩
  | true =>
    rw [hg] at hw
    have HW := Lib.hid hw
    have HBU := Lib.hid (build_any l A c w hs hg)
    have hl := (wok_at hg).1
    have HMO := Lib.hid (wok_mono hg)
    have HN3 : Hid (n < 0 ∨ pre l l.length ≤ n → pickR l n = (0, 3)) := fun h => by unfold pickR; rw [if_pos hg, if_pos h]
    have HN0 : Hid (¬ (n < 0 ∨ pre l l.length ≤ n) → pickR l n = (((topk l n l.length : Nat) : Int), 0)) := fun h => by unfold pickR; rw [if_pos hg, if_neg h]
    have HPL := Lib.hid (pre_le hg (Nat.le_refl _))
    clear hw hg hs
    by_cases hneg : n < 0
    · have HR3 := Lib.hid (HN3.out (.inl hneg))
      go_enter Tryd.func25, Tryd.ntmps25
      go_wp2_with fail
      refine HW.out.mono ?_
      rintro e w' ⟨rfl, rfl⟩
      go_wp2_with fail
      refine HBU.out.mono ?_
      rintro e w1 ⟨rfl, _, hb⟩
      have HB1 := Lib.hid hb
      clear hb
      go_wp2_with fail
      go_ret2
      rw [HR3.out]
      exact ⟨rfl, HB1.out⟩
    · go_enter Tryd.func25, Tryd.ntmps25
      go_wp2_with fail
      refine HW.out.mono ?_
      rintro e w' ⟨rfl, rfl⟩
      go_wp2_with fail
      refine HBU.out.mono ?_
      rintro e w1 ⟨rfl, ⟨T, ht, hrow⟩, hb⟩
      have HB1 := Lib.hid hb
      have HSU := Lib.hid (tsum_any (pre l) T l.length l.length w.heap.size w1 hl (Nat.le_refl _) hrow ht)
      have HFI : Hid (∀ k, k < l.length → pre l k ≤ n → n < pre l (k + 1) → Calls Tryd.prog 69 #[.slice (some ⟨w.heap.size, 0, none⟩) (l.length + 1 : Nat) (l.length + 1 : Nat), .int .i64 n] w1 fun e w' => e = .returned (.int .i64 k) ∧ w1 = w') := fun k h1 h2 h3 => tfind_any (pre l) T l.length k w.heap.size n w1 hl h1 hrow ht HMO.out h2 h3
      clear ht hrow hb
      have i1 : ¬ n < 0 := by omega
      by_cases hge : pre l l.length ≤ n
      · have HR3 := Lib.hid (HN3.out (.inr hge))
        generalize pre l l.length = s at *
        generalize l.length + 1 = M at *
        go_wp2_with fail
        refine HSU.out.mono ?_
        rintro e w' ⟨rfl, rfl⟩
        go_wp2_with fail
        go_ret2
        rw [HR3.out]
        exact ⟨rfl, HB1.out⟩
      · have HR3 := Lib.hid (HN0.out (by omega))
        have htk := topk_ok (l := l) (n := n) (by omega) l.length (by omega)
        have HF := Lib.hid (HFI.out _ htk.1 htk.2.1 htk.2.2)
        clear htk HFI
        generalize topk l n l.length = k at *
        generalize pre l l.length = s at *
        generalize l.length + 1 = M at *
        go_wp2_with fail
        refine HSU.out.mono ?_
        rintro e w' ⟨rfl, rfl⟩
        go_wp2_with fail
        refine HF.out.mono ?_
        rintro e w' ⟨rfl, rfl⟩
        go_wp2_with fail
        go_ret2
        rw [HR3.out]
        exact ⟨rfl, HB1.out⟩
end Go.Proofs.YtmibifmabkaakaaDoor
