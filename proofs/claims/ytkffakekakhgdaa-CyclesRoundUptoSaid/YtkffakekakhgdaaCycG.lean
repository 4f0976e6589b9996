/- The reference's WTimes, walked. No condition but that it is an order. -/
import Derived.Test.YtkffakekakhgdaaCycD
import Derived.Test.YtkffakekakhgdaaCycF
namespace Go.Proofs.Ytkffakekakhgdaa
open Go.ChangeShapes Go.WideShapes Go.ChangeAt Go.RowKit
set_option linter.unusedVariables false

/-- Are the first so many where they belong? -/
def sameB (q : Nat → Nat) (m : Nat) : Nat → Bool
  | 0 => true
  | k + 1 => sameB q m k && (k == it q m k)
theorem sameB_iff (q : Nat → Nat) (m : Nat) : ∀ k, sameB q m k = true ↔ ∀ x, x < k → it q m x = x
  | 0 => by simp [sameB]
  | k + 1 => by
    rw [sameB, Bool.and_eq_true, sameB_iff q m k, beq_iff_eq]
    constructor
    · rintro ⟨h1, h2⟩ x hx
      by_cases e : x = k
      · subst e; exact h2.symm
      · exact h1 x (by omega)
    · intro h; exact ⟨fun x hx => h x (by omega), (h k (by omega)).symm⟩
def atF (q : Nat → Nat) (m k i : Nat) : Int := if i < k then ((it q (m + 1) i : Nat) : Int) else ((it q m i : Nat) : Int)
theorem atF_all {q : Nat → Nat} {m n : Nat} : tab (atF q m n) n = tab (fun i => ((it q (m + 1) i : Nat) : Int)) n := tab_congr fun i hi => if_pos hi
theorem atF_zero {q : Nat → Nat} {m n : Nat} : tab (atF q m 0) n = tab (fun i => ((it q m i : Nat) : Int)) n := tab_congr fun i hi => if_neg (Nat.not_lt_zero _)
theorem atF_set {q : Nat → Nat} {m n k : Nat} (hk : k < n) : (tab (atF q m k) n).set k ((it q (m + 1) k : Nat) : Int) = tab (atF q m (k + 1)) n := by
  refine List.ext_getElem (by rw [List.length_set, tab_len, tab_len]) fun i h1 h2 => ?_
  rw [tab_len] at h2
  rw [List.getElem_set]
  have e : ∀ f : Nat → Int, ∀ h, (tab f n)[i]'h = f i := fun f h => by simp [tab]
  rw [e, e]
  unfold atF
  by_cases hik : k = i
  · subst hik; rw [if_pos rfl, if_pos (Nat.lt_succ_self _)]
  · rw [if_neg hik]
    by_cases h3 : i < k
    · rw [if_pos h3, if_pos (by omega)]
    · rw [if_neg h3, if_neg (by omega)]
set_option maxRecDepth 20000 in
set_option maxHeartbeats 4000000 in
theorem wtimes_any (p : List Int) (A : Option Addr) (c : Nat) (w : World) (hs : Seg w w.heap.size A (p.map (.int .i64))) (hp : permB p = true) :
    Calls Try.prog 35 #[.slice A p.length c] w fun e w' => e = .returned (.int .i64 (timesR p : Nat)) ∧ Below w.heap.size w w' := by
  have hl20 := permB_len hp
  have HS := Lib.hid hs
  have HP := Lib.hid (permF_of hp)
  have HQ : Hid (∀ k, k < p.length → pat p k = ((qf p k : Nat) : Int)) := fun k hk => (qf_cast hp hk).symm
  have hPT : p = tab (fun i => ((it (qf p) 1 i : Nat) : Int)) p.length := by
    conv => lhs; rw [← tab_pat p]
    exact tab_congr fun i hi => HQ.out i hi
  have HB := Lib.hid (lcms_bd (ofs_bd HP.out hl20 (Nat.le_refl p.length)))
  have HTI := Lib.hid (fun m => times_is HP.out m)
  obtain ⟨L, hL⟩ : ∃ L, L = timesR p := ⟨_, rfl⟩
  rw [← hL]
  unfold timesR at hL
  rw [← hL] at HB HTI
  obtain ⟨q, hq⟩ : ∃ q, q = qf p := ⟨_, rfl⟩
  rw [← hq] at HP HQ HTI hPT
  obtain ⟨n, hn⟩ : ∃ n, n = p.length := ⟨_, rfl⟩
  rw [← hn] at HP HQ HTI hPT hl20 ⊢
  have HN := Lib.hid hn
  have HL := Lib.hid hl20
  have HPA : Hid (∀ X, X < n → ∃ ad, A = some ad ∧ ∀ u, Below w.heap.size w u → u.cell? (ad.add X) = some (.int .i64 (q X : Nat))) := fun X hX => by
    obtain ⟨ad, hA, had, hc⟩ := HS.out.pat (k := X) (by rw [← HN.out]; exact hX)
    refine ⟨ad, hA, fun u hu => ?_⟩
    rw [hu.cell (p := ad.add X) (by rw [add_block]; exact had), hc, HQ.out X hX]
  have HPM : Hid (p.map (Value.int .i64) = (tab (fun i => ((it q 1 i : Nat) : Int)) n).map (.int .i64)) := by unfold Hid; conv => lhs; rw [hPT]
  have hbn : ([] : List Value).length + n ≤ maxLen := by simp [maxLen]; omega
  have hbb : (([] : List Value).length + n) * 8 ≤ 140737488355328 := by simp; omega
  have HBN := Lib.hid hbn
  have HBB := Lib.hid hbb
  have HPL : Hid ((p.map (Value.int .i64)).length = n) := by unfold Hid; rw [List.length_map]; omega
  have HSA : Hid (Seg (w.alloc (.cells #[] 3)) w.heap.size A (p.map (.int .i64))) := HS.out.alloc (Nat.le_refl _) _
  have HSB : Hid (w.heap.size ≤ (w.alloc (.cells #[] 3)).heap.size) := by unfold Hid; simp
  have HBA : Hid (Below w.heap.size w (w.alloc (.cells #[] 3))) := (Below.refl _ _).alloc (Nat.le_refl _) _
  clear hs hp hL hq hn hl20 hPT hbn hbb
  go_enter Try.func35, Try.ntmps35
  go_wp2_with (first
    | (at_builtin; go_must (refine wpList_append_seg _ rfl _ _ elem_ints rfl w.heap.size _ [] rfl (own_empty w _ _ (Nat.le_refl _)) c rfl HPL.out HSA.out (ints_cell _) HBN.out HBB.out HSB.out ?_); intro v3 w3 hown3 hgr3 hbk3
       have HB3 := Lib.hid (HBA.out.trans ((Below.refl _ _).grown hgr3 HSB.out (own_empty w 3 w.heap.size (Nat.le_refl _)).block))
       rw [List.nil_append, HPM.out] at hown3
       have HO3 := Lib.hid hown3
       clear hown3 hgr3 hbk3)
    | fail)
  obtain ⟨A3, c3, e3⟩ := own_slice HO3.out
  rw [List.length_map, tab_len] at e3
  subst e3
  --LOOK0
  go_loopw [4] (fun s4 wx => ∃ m : Nat, s4 = .int .i64 m ∧ Hid (1 ≤ m ∧ m ≤ L) ∧ Hid (Own wx w.heap.size 3 (.slice A3 n c3) ((tab (fun i => ((it q m i : Nat) : Int)) n).map (.int .i64))) ∧ Hid (Below w.heap.size w wx)) (fun s4 _ => L - (intOf s4).toNat)
  case atStart => exact ⟨1, rfl, ⟨Nat.le_refl _, HB.out.1⟩, HO3.out, HB3.out⟩
  case round =>
    clear HO3 HB3
    obtain ⟨m, rfl, HML, HOW, HBE⟩ := hrel
    obtain ⟨wo, rfl⟩ : ∃ wo : World, wo = wr := ⟨_, rfl⟩
    go_wp2_with fail
    go_loopw [5, 16] (fun s5 s16 wx => ∃ k : Nat, k ≤ n ∧ s16 = .int .i64 k ∧ s5 = .bool (sameB q m k) ∧ wx = wo) (fun _ s16 _ => n - (intOf s16).toNat)
    case atStart => exact ⟨0, Nat.zero_le _, rfl, rfl, rfl⟩
    case round =>
      obtain ⟨k, hkn, rfl, rfl, rfl⟩ := hrel
      by_cases hlt : k < n
      · have i1 : (k : Int) < (n : Int) := by omega
        have HK := Lib.hid hlt
        obtain ⟨g, rfl, hgb⟩ := HOW.out.at_ (by omega)
        have hc := HOW.out.cell (j := k) (u := .int .i64 ((it q m k : Nat) : Int)) (by rw [List.getElem?_map, tab_get hlt]; rfl)
        obtain ⟨X, hX⟩ : ∃ X, X = it q m k := ⟨_, rfl⟩
        have hsb : sameB q m (k + 1) = (sameB q m k && (k == X)) := by rw [hX]; rfl
        rw [← hX] at hc
        obtain ⟨b, hb⟩ : ∃ b, b = sameB q m k := ⟨_, rfl⟩
        rw [← hb] at hsb ⊢
        have HSB2 := Lib.hid hsb
        have ui : Hid (wrap64 ((k : Int) + 1) = ((k + 1 : Nat) : Int)) := rw20 (by have := HL.out; omega)
        clear hkn hlt hX hsb hb
        cases b with
        | false =>
          have HN2 : Hid (sameB q m (k + 1) = false) := by unfold Hid; rw [HSB2.out]; rfl
          go_wp2_with fail
          go_roundw
          case rel => exact ⟨k + 1, HK.out, by first | rfl | rw [ui.out], by rw [HN2.out], by first | rfl | trivial⟩
          case measure => (try rw [ui.out]); have := HK.out; simp [intOf]; omega
        | true =>
          by_cases hkx : k = X
          · have b1 : ((k : Int) == (X : Int)) = true := by rw [hkx]; simp
            have HN2 : Hid (sameB q m (k + 1) = true) := by unfold Hid; rw [HSB2.out, beq_iff_eq.2 hkx]; rfl
            clear hkx
            go_wp2_with fail
            go_roundw
            case rel => exact ⟨k + 1, HK.out, by first | rfl | rw [ui.out], by rw [HN2.out], by first | rfl | trivial⟩
            case measure => (try rw [ui.out]); have := HK.out; simp [intOf]; omega
          · have b1 : ((k : Int) == (X : Int)) = false := by rw [beq_eq_false_iff_ne]; omega
            have HN2 : Hid (sameB q m (k + 1) = false) := by unfold Hid; rw [HSB2.out, beq_eq_false_iff_ne.2 hkx]; rfl
            clear hkx
            go_wp2_with fail
            go_roundw
            case rel => exact ⟨k + 1, HK.out, by first | rfl | rw [ui.out], by rw [HN2.out], by first | rfl | trivial⟩
            case measure => (try rw [ui.out]); have := HK.out; simp [intOf]; omega
      · have hke : k = n := by omega
        have i1 : ¬ (k : Int) < (n : Int) := by omega
        obtain ⟨b, hb⟩ : ∃ b, b = sameB q m k := ⟨_, rfl⟩
        rw [← hb]
        rw [hke] at hb
        cases b with
        | true =>
          have hd := (HTI.out m).1 ((sameB_iff q m n).1 hb.symm)
          have HME : Hid (m = L) := by
            have h1 := HML.out
            have h2 := Nat.le_of_dvd (by omega) hd
            unfold Hid; omega
          clear hkn hlt hke hb hd
          go_wp2_with fail
          go_ret
          exact ⟨by rw [← HME.out]; rfl, HBE.out⟩
        | false =>
          have HMLT : Hid (m < L) := by
            have h1 := HML.out
            unfold Hid
            refine Classical.byContradiction fun h => ?_
            have h2 : m = L := by omega
            have h3 := (sameB_iff q m n).2 ((HTI.out m).2 (by rw [h2]; exact Nat.dvd_refl _))
            rw [h3] at hb
            cases hb
          clear hkn hlt hke hb
          go_wp2_with fail
          go_loopw [32] (fun s32 wx => ∃ k : Nat, k ≤ n ∧ s32 = .int .i64 k ∧ Hid (Own wx w.heap.size 3 (.slice A3 n c3) ((tab (atF q m k) n).map (.int .i64))) ∧ Hid (Below w.heap.size w wx)) (fun s32 _ => n - (intOf s32).toNat)
          case atStart => exact ⟨0, Nat.zero_le _, rfl, by unfold Hid; rw [atF_zero]; exact HOW.out, HBE.out⟩
          case round =>
            obtain ⟨k, hkn, rfl, HOK, HBK⟩ := hrel
            by_cases hlt : k < n
            · have i2 : (k : Int) < (n : Int) := by omega
              have HK := Lib.hid hlt
              obtain ⟨g, rfl, hgb⟩ := HOK.out.at_ (by omega)
              have hc := HOK.out.cell (j := k) (u := .int .i64 ((it q m k : Nat) : Int)) (by rw [List.getElem?_map, tab_get hlt]; simp [atF])
              have hf := HOK.out.frozen k
              have hXn := it_lt HP.out hlt m
              have hst := HOK.out.set k (.int .i64 ((it q (m + 1) k : Nat) : Int))
              rw [← List.map_set, atF_set hlt, it_succ] at hst
              obtain ⟨X, hX⟩ : ∃ X, X = it q m k := ⟨_, rfl⟩
              rw [← hX] at hc hXn hst
              have HST := Lib.hid hst
              obtain ⟨ad, rfl, hpa⟩ := HPA.out X hXn
              have hcp := hpa _ HBK.out
              have i3 : (X : Int) < (n : Int) := by omega
              have HGB := Lib.hid hgb
              have ui : Hid (wrap64 ((k : Int) + 1) = ((k + 1 : Nat) : Int)) := rw20 (by have := HL.out; omega)
              clear hkn hlt hX hXn hst hpa hgb
              go_wp2_with fail
              go_roundw
              case rel => exact ⟨k + 1, HK.out, by first | rfl | rw [ui.out], HST.out, HBK.out.setCell HGB.out _⟩
              case measure => (try rw [ui.out]); have := HK.out; simp [intOf]; omega
            · have hke : k = n := by omega
              have i2 : ¬ (k : Int) < (n : Int) := by omega
              have HOE : Hid (Own wr w.heap.size 3 (.slice A3 n c3) ((tab (fun i => ((it q (m + 1) i : Nat) : Int)) n).map (.int .i64))) := by
                have h := HOK.out
                rw [hke, atF_all] at h
                exact h
              have um : Hid (wrap64 ((m : Int) + 1) = ((m + 1 : Nat) : Int)) := by have := HML.out; have := HB.out; unfold Hid wrap64; omega
              clear hkn hlt hke
              go_wp2_with fail
              go_roundw
              case rel => exact ⟨m + 1, by first | rfl | rw [um.out], ⟨by omega, HMLT.out⟩, HOE.out, HBK.out⟩
              case measure => (try rw [um.out]); have := HMLT.out; simp [intOf]; omega
end Go.Proofs.Ytkffakekakhgdaa
