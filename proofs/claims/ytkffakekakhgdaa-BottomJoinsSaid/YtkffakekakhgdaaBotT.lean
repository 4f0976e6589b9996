/- The reference of package bottom: LLeast, walked. No condition. -/
import Derived.Test.YtkffakekakhgdaaBotS
namespace Go.Proofs.Ytkffakekakhgdaa
open Go.ChangeShapes Go.WideShapes Go.ChangeAt Go.RowKit
set_option linter.unusedVariables false
set_option linter.unusedSectionVars false

section
variable {α : Type} [DecidableEq α] (k : α → Nat)
/-- The least one that is not had yet. -/
def lsel (out : List α) (s : Option α) (x : α) : Option α := if x ∈ out then s else match s with | none => some x | some b => if k x < k b then some x else some b
def lscan (out l : List α) : Option α := l.foldl (lsel k out) none
variable {k}
theorem lscan_snoc (out l : List α) (x : α) : lscan k out (l ++ [x]) = lsel k out (lscan k out l) x := by unfold lscan; rw [List.foldl_append]; rfl
theorem lscan_take (out l : List α) {i : Nat} (hi : i < l.length) : lscan k out (l.take (i + 1)) = lsel k out (lscan k out (l.take i)) l[i] := by rw [List.take_succ_eq_append_getElem hi, lscan_snoc]
theorem lscan_none (out : List α) (l : List α) : lscan k out l = none → ∀ x ∈ l, x ∈ out := by
  refine sortK_ind (P := fun l => lscan k out l = none → ∀ x ∈ l, x ∈ out) (fun _ x hx => absurd hx (by simp)) (fun l x ih h y hy => ?_) l
  rw [lscan_snoc] at h
  unfold lsel at h
  split at h
  · next h1 =>
    rcases List.mem_append.1 hy with hy | hy
    · exact ih h y hy
    · rw [List.mem_singleton.1 hy]; exact h1
  · split at h
    · cases h
    · split at h <;> cases h
theorem lscan_some (out : List α) (l : List α) : ∀ b, lscan k out l = some b → b ∈ l ∧ b ∉ out ∧ ∀ x ∈ l, x ∉ out → k b ≤ k x := by
  refine sortK_ind (P := fun l => ∀ b, lscan k out l = some b → b ∈ l ∧ b ∉ out ∧ ∀ x ∈ l, x ∉ out → k b ≤ k x) (fun b h => by simp [lscan] at h) (fun l x ih b h => ?_) l
  rw [lscan_snoc] at h
  unfold lsel at h
  split at h
  · next h1 =>
    obtain ⟨a1, a2, a3⟩ := ih b h
    refine ⟨List.mem_append_left _ a1, a2, fun y hy hn => ?_⟩
    rcases List.mem_append.1 hy with hy | hy
    · exact a3 y hy hn
    · rw [List.mem_singleton.1 hy] at hn; exact absurd h1 hn
  · next h1 =>
    split at h
    · next h2 =>
      cases h
      refine ⟨by simp, h1, fun y hy hn => ?_⟩
      rcases List.mem_append.1 hy with hy | hy
      · exact absurd (lscan_none out l h2 y hy) hn
      · rw [List.mem_singleton.1 hy]; exact Nat.le_refl _
    · next b' h2 =>
      obtain ⟨a1, a2, a3⟩ := ih b' h2
      split at h
      · next h3 =>
        cases h
        refine ⟨by simp, h1, fun y hy hn => ?_⟩
        rcases List.mem_append.1 hy with hy | hy
        · exact Nat.le_trans (Nat.le_of_lt h3) (a3 y hy hn)
        · rw [List.mem_singleton.1 hy]; exact Nat.le_refl _
      · next h3 =>
        cases h
        refine ⟨List.mem_append_left _ a1, a2, fun y hy hn => ?_⟩
        rcases List.mem_append.1 hy with hy | hy
        · exact a3 y hy hn
        · rw [List.mem_singleton.1 hy]; exact Nat.le_of_not_lt h3
theorem rising_lt {l : List α} (h : Rising k l) {i j : Nat} (hi : i < j) (hj : j < l.length) : k (l[i]'(Nat.lt_trans hi hj)) < k l[j] := List.pairwise_iff_getElem.1 h i j (Nat.lt_trans hi hj) hj hi
theorem lscan_next (hk : InjK k) (l : List α) (j : Nat) : lscan k ((sortK k l).take j) l = (sortK k l)[j]? := by
  have hr := rising_sortK (k := k) l
  have hm := mem_sortK hk l
  generalize sortK k l = s at *
  cases h : lscan k (s.take j) l with
  | none =>
    have h1 := lscan_none _ _ h
    rw [eq_comm, List.getElem?_eq_none_iff]
    refine Nat.le_of_not_lt fun hj => ?_
    have h2 := h1 _ ((hm s[j]).1 (List.getElem_mem hj))
    obtain ⟨i, hi, e⟩ := List.mem_take_iff_getElem.1 h2
    have := rising_lt hr (i := i) (j := j) (by omega) hj
    rw [e] at this
    exact Nat.lt_irrefl _ this
  | some b =>
    obtain ⟨a1, a2, a3⟩ := lscan_some _ _ b h
    obtain ⟨i, hi, rfl⟩ := List.mem_iff_getElem.1 ((hm b).2 a1)
    have hij : ¬ i < j := fun hij => a2 (List.mem_take_iff_getElem.2 ⟨i, by omega, rfl⟩)
    by_cases e : i = j
    · subst e; rw [List.getElem?_eq_getElem hi]
    · have hj : j < s.length := by omega
      have h1 := rising_lt hr (i := j) (j := i) (by omega) hi
      have h2 := a3 s[j] ((hm _).1 (List.getElem_mem hj)) fun h2 => by
        obtain ⟨i', hi', e'⟩ := List.mem_take_iff_getElem.1 h2
        have := rising_lt hr (i := i') (j := j) (by omega) hj
        rw [e'] at this
        exact Nat.lt_irrefl _ this
      omega
end
def bslen : Value → Nat
  | .slice _ n _ => n
  | _ => 0
abbrev tW : TypeId := 22
theorem wmem_step (x : BitVec 64) (zs : List (BitVec 64)) {q : Nat} (hq : q < zs.length) : decide (x ∈ zs.take (q + 1)) = (decide (x ∈ zs.take q) || decide (x = zs[q])) := by
  rw [← Bool.decide_or, decide_eq_decide, List.take_succ_eq_append_getElem hq, List.mem_append, List.mem_singleton]
set_option maxRecDepth 20000 in
set_option maxHeartbeats 4000000 in
theorem lleast_any (seed : BitVec 64) (R : Nat) (A : Option Addr) (l : List (BitVec 64)) (c : Nat) (w : World) (hR : R ≤ 400) (hs : Seg w w.heap.size A (l.map W64)) (hm : l.length ≤ 9223372036854775807) :
    Calls Try.prog 14 #[W64 seed, .int .i64 R, .slice A l.length c] w fun e w' => ∃ A' c', e = .returned (.slice A' ((sortK (brank seed) l).take R).length c') ∧ ((sortK (brank seed) l).take R).length ≤ c' ∧ Seg w' w'.heap.size A' (((sortK (brank seed) l).take R).map W64) ∧ Below w.heap.size w w' := by
  have HS := Lib.hid hs
  clear hs
  have HSC := Lib.hid (lscan_next (brank_inj seed) l)
  obtain ⟨s, hs⟩ : ∃ s, s = sortK (brank seed) l := ⟨_, rfl⟩
  rw [← hs] at HSC ⊢
  clear hs
  obtain ⟨t, ht⟩ : ∃ t, t = s.take R := ⟨_, rfl⟩
  rw [← ht]
  have HT := Lib.hid ht
  clear ht
  obtain ⟨n, hn⟩ : ∃ n, n = l.length := ⟨_, rfl⟩
  rw [← hn]
  have HN := Lib.hid (And.intro hn (And.intro (show n ≤ 9223372036854775807 by rw [hn]; exact hm) hR))
  clear hm hn hR
  go_enter Try.func14, Try.ntmps14
  go_wp2_with fail
  go_loopw [7] (fun s7 wx => ∃ (j : Nat) (A7 : Option Addr) (c7 : Nat), j ≤ R ∧ Hid (j ≤ s.length) ∧ s7 = .slice A7 j c7 ∧ Hid (Own wx w.heap.size tW (.slice A7 j c7) ((s.take j).map W64)) ∧ Hid (j ≤ c7) ∧ Hid (Below w.heap.size w wx)) (fun s7 _ => R - bslen s7)
  case atStart => exact ⟨0, none, 0, Nat.zero_le _, Nat.zero_le _, rfl, by rw [List.take_zero]; exact Own.none_, Nat.le_refl _, Below.refl _ _⟩
  case round =>
    obtain ⟨j, A7, c7, hjR, hjs, rfl, hown, hjc, hb⟩ := hrel
    by_cases hjl : j < R
    · have i1 : (j : Int) < (R : Int) := by omega
      obtain ⟨zs, hz⟩ : ∃ zs, zs = s.take j := ⟨_, rfl⟩
      have HZ : Hid (zs = s.take j ∧ zs.length = j ∧ j < R) := ⟨hz, by rw [hz, List.length_take]; exact Nat.min_eq_left hjs.out, hjl⟩
      have HNX : Hid (lscan (brank seed) zs l = s[j]?) := by unfold Hid; rw [hz]; exact HSC.out j
      rw [← hz] at hown
      have HSG := Lib.hid hown.out.seg
      have HSL := Lib.hid (Seg.more (HS.out.below hb.out) hb.out.size)
      obtain ⟨wo, rfl⟩ : ∃ wo : World, wo = wr := ⟨_, rfl⟩
      clear hz hjR hjl
      go_wp2_with fail
      clear i1
      go_loopw [8, 9, 21] (fun s8 s9 s21 wx => ∃ i : Nat, i ≤ n ∧ s21 = .int .i64 i ∧ s8 = W64 ((lscan (brank seed) zs (l.take i)).getD 0#64) ∧ s9 = .bool (lscan (brank seed) zs (l.take i)).isSome ∧ Hid (Below wo.heap.size wo wx)) (fun _ _ s21 _ => n - (intOf s21).toNat)
      case atStart => exact ⟨0, Nat.zero_le _, rfl, rfl, rfl, Below.refl _ _⟩
      case round =>
        obtain ⟨i, hin, rfl, rfl, rfl, hbi⟩ := hrel
        obtain ⟨st, hst⟩ : ∃ st, st = lscan (brank seed) zs (l.take i) := ⟨_, rfl⟩
        by_cases hil : i < n
        · have i2 : (i : Int) < (n : Int) := by omega
          have hil2 : i < l.length := by rw [← HN.out.1]; exact hil
          have HST : Hid (lscan (brank seed) zs (l.take (i + 1)) = lsel (brank seed) zs st l[i]) := by rw [hst]; exact lscan_take zs l hil2
          have ui : Hid (wrap64 ((i : Int) + 1) = ((i + 1 : Nat) : Int)) := by have := HN.out.2; unfold Hid wrap64; omega
          obtain ⟨ad, rfl, hab, hc1⟩ := HSL.out.word hil2
          obtain ⟨x, hx⟩ : ∃ x, x = l[i] := ⟨_, rfl⟩
          rw [← hx] at hc1 HST
          have hc1' : wr.cell? (ad.add i) = some (W64 x) := by rw [hbi.out.cell (p := ad.add i) (badd hab)]; exact hc1
          have HI := Lib.hid hil
          rw [← hst]
          have HSGr := Lib.hid (Seg.more (HSG.out.below hbi.out) hbi.out.size)
          obtain ⟨wp, rfl⟩ : ∃ wp : World, wp = wr := ⟨_, rfl⟩
          clear hx hst hil hil2 hc1 hab hin
          go_wp2_with fail
          clear i2 hc1'
          go_loopw [12, 27] (fun s12 s27 wx => ∃ q : Nat, q ≤ j ∧ s27 = .int .i64 q ∧ s12 = .bool (decide (x ∈ zs.take q)) ∧ wx = wp) (fun _ s27 _ => j - (intOf s27).toNat)
          case atStart => exact ⟨0, Nat.zero_le _, rfl, by simp, rfl⟩
          case round =>
            obtain ⟨q, hqj, rfl, rfl, hw0⟩ := hrel
            have hw1 := hw0.symm
            subst hw1
            clear hw0
            by_cases hql : q < j
            · have i3 : (q : Int) < (j : Int) := by omega
              have hq2 : q < zs.length := by rw [HZ.out.2.1]; exact hql
              have HSQ := Lib.hid (wmem_step x zs hq2)
              have uq : Hid (wrap64 ((q : Int) + 1) = ((q + 1 : Nat) : Int)) := by have := HZ.out.2.2; have := HN.out.2.2; unfold Hid wrap64; omega
              obtain ⟨bd, rfl, _, hc2⟩ := HSGr.out.word hq2
              obtain ⟨y, hy⟩ : ∃ y, y = zs[q] := ⟨_, rfl⟩
              rw [← hy] at hc2 HSQ
              have HQ := Lib.hid hql
              obtain ⟨bb, hbb⟩ : ∃ bb, bb = decide (x ∈ zs.take q) := ⟨_, rfl⟩
              rw [← hbb] at HSQ ⊢
              clear hy hbb hql hq2 hqj
              cases bb with
              | true =>
                go_wp2_with fail
                go_roundw
                case rel => exact ⟨q + 1, HQ.out, by first | rfl | rw [uq.out], by rw [HSQ.out]; rfl, by first | rfl | trivial⟩
                case measure => (try rw [uq.out]); have := HQ.out; simp [intOf]; omega
              | false =>
                by_cases hxy : x = y
                · subst hxy
                  go_wp2_with fail
                  go_roundw
                  case rel => exact ⟨q + 1, HQ.out, by first | rfl | rw [uq.out], by rw [HSQ.out]; simp, by first | rfl | trivial⟩
                  case measure => (try rw [uq.out]); have := HQ.out; simp [intOf]; omega
                · have hne : (wv x == wv y) = false := by rw [wv_beq]; exact decide_eq_false hxy
                  have HXY : Hid (decide (x = y) = false) := decide_eq_false hxy
                  clear hxy
                  go_wp2_with fail
                  go_roundw
                  case rel => exact ⟨q + 1, HQ.out, by first | rfl | rw [uq.out], by rw [HSQ.out, HXY.out]; rfl, by first | rfl | trivial⟩
                  case measure => (try rw [uq.out]); have := HQ.out; simp [intOf]; omega
            · obtain rfl : q = j := by omega
              have HIN : Hid (zs.take q = zs) := List.take_of_length_le (by rw [HZ.out.2.1]; exact Nat.le_refl _)
              have i3 : ¬ (q : Int) < (q : Int) := Int.lt_irrefl _
              rw [HIN.out]
              clear hqj hql
              --LOOK1
              by_cases hxz : x ∈ zs
              · have e1 : decide (x ∈ zs) = true := decide_eq_true hxz
                have HE : Hid (lscan (brank seed) zs (l.take (i + 1)) = st) := by unfold Hid; rw [HST.out]; unfold lsel; rw [if_pos hxz]
                rw [e1]
                clear e1 hxz
                go_wp2_with fail
                go_roundw
                case rel => exact ⟨i + 1, HI.out, by first | rfl | rw [ui.out], by rw [HE.out], by rw [HE.out], hbi⟩
                case measure => (try rw [ui.out]); have := HI.out; simp [intOf]; omega
              · have e1 : decide (x ∈ zs) = false := decide_eq_false hxz
                rw [e1]
                cases st with
                | none =>
                  have HE : Hid (lscan (brank seed) zs (l.take (i + 1)) = some x) := by unfold Hid; rw [HST.out]; unfold lsel; rw [if_neg hxz]
                  clear e1 hxz
                  rw [Option.isSome_none]
                  go_wp2_with fail
                  go_roundw
                  case rel => exact ⟨i + 1, HI.out, by first | rfl | rw [ui.out], by rw [HE.out]; rfl, by rw [HE.out]; rfl, hbi⟩
                  case measure => (try rw [ui.out]); have := HI.out; simp [intOf]; omega
                | some b =>
                  have HE : Hid (lscan (brank seed) zs (l.take (i + 1)) = if brank seed x < brank seed b then some x else some b) := by unfold Hid; rw [HST.out]; unfold lsel; rw [if_neg hxz]
                  clear e1 hxz
                  rw [Option.isSome_some, Option.getD_some]
                  have hx1 := wv_xor x seed
                  have hy1 := wv_xor b seed
                  obtain ⟨rx, hrx⟩ : ∃ rx, rx = brank seed x := ⟨_, rfl⟩
                  obtain ⟨ry, hry⟩ : ∃ ry, ry = brank seed b := ⟨_, rfl⟩
                  have HX : Hid (∀ u, Calls Try.prog 43 #[W64 (x ^^^ seed)] u fun e w' => e = .returned (.int .u64 (rx : Nat)) ∧ Below u.heap.size u w') := fun u => by rw [hrx]; exact lmixr_any seed x u
                  have HY : Hid (∀ u, Calls Try.prog 43 #[W64 (b ^^^ seed)] u fun e w' => e = .returned (.int .u64 (ry : Nat)) ∧ Below u.heap.size u w') := fun u => by rw [hry]; exact lmixr_any seed b u
                  rw [← hrx, ← hry] at HE
                  clear hrx hry
                  by_cases hlt : rx < ry
                  · have HE2 := Lib.hid (HE.out.trans (if_pos hlt))
                    have bt : (rx : Int) < (ry : Int) := Int.ofNat_lt.2 hlt
                    clear HE
                    go_wp2_with fail
                    refine (HX.out _).mono ?_
                    rintro e w8 ⟨rfl, hb8⟩
                    have HB8 := Lib.hid (hbi.out.trans (hb8.mono hbi.out.size))
                    clear hb8
                    go_wp2_with fail
                    refine (HY.out _).mono ?_
                    rintro e w9 ⟨rfl, hb9⟩
                    have HB9 := Lib.hid (HB8.out.trans (hb9.mono HB8.out.size))
                    clear hb9
                    go_wp2_with fail
                    go_roundw
                    case rel => exact ⟨i + 1, HI.out, by first | rfl | rw [ui.out], by rw [HE2.out]; rfl, by rw [HE2.out]; rfl, HB9⟩
                    case measure => (try rw [ui.out]); have := HI.out; simp [intOf]; omega
                  · have HE2 := Lib.hid (HE.out.trans (if_neg hlt))
                    have bt : ¬ (rx : Int) < (ry : Int) := fun h => hlt (Int.ofNat_lt.1 h)
                    clear HE
                    go_wp2_with fail
                    refine (HX.out _).mono ?_
                    rintro e w8 ⟨rfl, hb8⟩
                    have HB8 := Lib.hid (hbi.out.trans (hb8.mono hbi.out.size))
                    clear hb8
                    go_wp2_with fail
                    refine (HY.out _).mono ?_
                    rintro e w9 ⟨rfl, hb9⟩
                    have HB9 := Lib.hid (HB8.out.trans (hb9.mono HB8.out.size))
                    clear hb9
                    go_wp2_with fail
                    go_roundw
                    case rel => exact ⟨i + 1, HI.out, by first | rfl | rw [ui.out], by rw [HE2.out]; rfl, by rw [HE2.out]; rfl, HB9⟩
                    case measure => (try rw [ui.out]); have := HI.out; simp [intOf]; omega
        · have HST : Hid (st = s[j]?) := by
            have h := HNX.out
            rw [show l = l.take i by rw [List.take_of_length_le (by rw [← HN.out.1]; omega)]] at h
            exact hst.trans h
          have i2 : ¬ (i : Int) < (n : Int) := by omega
          rw [← hst]
          have HOW := Lib.hid (hown.out.below hbi.out (Nat.le_refl _))
          have HBW : Hid (Below w.heap.size w wr) := hb.out.trans (hbi.out.mono hb.out.size)
          clear hin hil hst
          by_cases hj2 : j < s.length
          · obtain ⟨v, hv, hnx⟩ : ∃ v, s[j]? = some v ∧ s.take (j + 1) = s.take j ++ [v] := ⟨s[j], List.getElem?_eq_getElem hj2, List.take_succ_eq_append_getElem hj2⟩
            have HE : Hid (st = some v) := HST.out.trans hv
            have HNEXT : Hid (s.take (j + 1) = zs ++ [v]) := by unfold Hid; rw [HZ.out.1]; exact hnx
            have HJ2 := Lib.hid hj2
            clear hnx
            obtain rfl := HE.out
            clear hv hj2 HST HE
            rw [Option.isSome_some, Option.getD_some]
            have HMB : Hid ((j + 1) * 8 ≤ 140737488355328 ∧ j + 1 ≤ maxLen) := by have h1 := HZ.out.2.2; have h2 := HN.out.2.2; unfold Hid maxLen; omega
            have HLZ : Hid ((zs.map W64).length = j) := by unfold Hid; rw [List.length_map]; exact HZ.out.2.1
            have HSZ : Hid (w.heap.size ≤ (wr.alloc (.cells #[W64 v] tW)).heap.size) := by have := HBW.out.size; unfold Hid; simp; omega
            have HOA := Lib.hid (Own.alloc' HOW.out (.cells #[W64 v] tW))
            go_wp2_with (first
              | (at_builtin; go_must (refine wpList_push _ rfl _ _ 23 tW 8 elem_u64s rfl w.heap.size _ _ rfl HOA.out (W64 v) ⟨wr.heap.size, 0, none⟩ 1 rfl (cell_new1 _ _ _) rfl (by rw [HLZ.out]; exact HMB.out.1) (by rw [HLZ.out]; exact HMB.out.2) HSZ.out ?_); intro v6 w6 hown6 hb6; have HO6 := Lib.hid hown6; have HB6 := Lib.hid hb6; clear hown6 hb6)
              | fail)
            obtain ⟨A8, c8, rfl, hc8, h8⟩ := HO6.out.res2
            have e8 : (zs.map W64 ++ [W64 v]).length = j + 1 := by rw [List.length_append, HLZ.out]; rfl
            rw [e8] at hc8 h8 ⊢
            refine ⟨?rel, ?measure⟩
            case rel =>
              refine ⟨j + 1, A8, c8, by have := HZ.out.2.2; omega, HJ2.out, rfl, ?_, hc8, HBW.out.trans (((Below.refl _ _).alloc HBW.out.size _).trans HB6.out)⟩
              unfold Hid
              rw [HNEXT.out, List.map_append]
              exact h8
            case measure => have := HZ.out.2.2; show R - (j + 1) < R - j; omega
          · have HE : Hid (st = none) := HST.out.trans (List.getElem?_eq_none_iff.2 (by omega))
            have HTK : Hid (s.take R = zs) := by
              unfold Hid
              rw [HZ.out.1, List.take_of_length_le (by have := HZ.out.2.2; omega), List.take_of_length_le (by omega)]
            obtain rfl := HE.out
            clear hj2 HST HE
            rw [Option.isSome_none]
            go_wp2_with fail
            go_ret
            obtain rfl : t = zs := HT.out.trans HTK.out
            exact ⟨A7, c7, by rw [HZ.out.2.1]; rfl, by rw [HZ.out.2.1]; exact hjc.out, HOW.out.seg, HBW.out⟩
    · obtain rfl : j = R := by omega
      have i1 : ¬ (j : Int) < (j : Int) := Int.lt_irrefl _
      rw [← HT.out] at hown
      have HLT : Hid (t.length = j) := by unfold Hid; rw [HT.out, List.length_take]; exact Nat.min_eq_left hjs.out
      clear hjl hjR
      go_wp2_with fail
      go_ret
      exact ⟨A7, c7, by rw [HLT.out]; rfl, by rw [HLT.out]; exact hjc.out, hown.out.seg, hb.out⟩
end Go.Proofs.Ytkffakekakhgdaa
