/- slices.SortFunc at [][]int by first numbers; slices.Max, slices.Index: the shelf's contract at this program, and walks. No condition but the size. -/
import Derived.Shelf.SlSortCmp.Whole1
import Derived.Test.YtkffakekakhgdaaCycC
import Derived.Test.YtkffakekakhgdaaConints
import Derived.Shelf.SlSortCmp.NoneTotal
import Derived.Lib.OwnBridge
import Derived.Sort.OwnSortedInts
namespace Go.Proofs.Ytkffakekakhgdaa
open Go.ChangeShapes Go.WideShapes Go.ChangeAt Go.RowKit Go.Sort
set_option linter.unusedVariables false

def laysSR_ren : Go.Shelf.Ren := ⟨fun | 6 => 61 | 14 => 90 | 15 => 67 | 20 => 113 | 21 => 114 | 22 => 115 | 23 => 116 | 24 => 117 | 25 => 118 | 26 => 119 | 27 => 120 | 28 => 99 | 29 => 100 | 46 => 127 | 47 => 122 | 48 => 123 | 49 => 128 | 50 => 129 | 57 => 132 | n => n, fun | 0 => 0 | 3 => 3 | 4 => 4 | 5 => 5 | 9 => 9 | 22 => 35 | 24 => 36 | 25 => 89 | 39 => 96 | 45 => 112 | 46 => 113 | 50 => 85 | 53 => 119 | 55 => 22 | 66 => 135 | 70 => 138 | 76 => 142 | 77 => 143 | n => n, fun | n => n⟩
theorem laysSR : Go.Proofs.SlLaysF.n6 Try.prog laysSR_ren := {
  mixed := by kernel_rfl
  f6 := ⟨"slices.SortFunc[[][]int,[]int]", by kernel_rfl, Try.func61.trans (congrArg some (by kernel_rfl))⟩
  f14 := ⟨"slices.pdqsortCmpFunc[[]int]", by kernel_rfl, Try.func90.trans (congrArg some (by kernel_rfl))⟩
  f15 := Try.func67.trans (congrArg some (by kernel_rfl))
  f20 := ⟨"slices.insertionSortCmpFunc[[]int]", by kernel_rfl, Try.func113.trans (congrArg some (by kernel_rfl))⟩
  f21 := ⟨"slices.heapSortCmpFunc[[]int]", by kernel_rfl, Try.func114.trans (congrArg some (by kernel_rfl))⟩
  f22 := ⟨"slices.breakPatternsCmpFunc[[]int]", by kernel_rfl, Try.func115.trans (congrArg some (by kernel_rfl))⟩
  f23 := ⟨"slices.choosePivotCmpFunc[[]int]", by kernel_rfl, Try.func116.trans (congrArg some (by kernel_rfl))⟩
  f24 := ⟨"slices.reverseRangeCmpFunc[[]int]", by kernel_rfl, Try.func117.trans (congrArg some (by kernel_rfl))⟩
  f25 := ⟨"slices.partialInsertionSortCmpFunc[[]int]", by kernel_rfl, Try.func118.trans (congrArg some (by kernel_rfl))⟩
  f26 := ⟨"slices.partitionEqualCmpFunc[[]int]", by kernel_rfl, Try.func119.trans (congrArg some (by kernel_rfl))⟩
  f27 := ⟨"slices.partitionCmpFunc[[]int]", by kernel_rfl, Try.func120.trans (congrArg some (by kernel_rfl))⟩
  f28 := Try.func99.trans (congrArg some (by kernel_rfl))
  f29 := Try.func100.trans (congrArg some (by kernel_rfl))
  f46 := ⟨"slices.siftDownCmpFunc[[]int]", by kernel_rfl, Try.func127.trans (congrArg some (by kernel_rfl))⟩
  f47 := Try.func122.trans (congrArg some (by kernel_rfl))
  f48 := Try.func123.trans (congrArg some (by kernel_rfl))
  f49 := ⟨"slices.medianAdjacentCmpFunc[[]int]", by kernel_rfl, Try.func128.trans (congrArg some (by kernel_rfl))⟩
  f50 := ⟨"slices.medianCmpFunc[[]int]", by kernel_rfl, Try.func129.trans (congrArg some (by kernel_rfl))⟩
  f57 := ⟨"slices.order2CmpFunc[[]int]", by kernel_rfl, Try.func132.trans (congrArg some (by kernel_rfl))⟩
  t0 := Try.underlying0
  a0 := Try.isAgg0
  z0 := Try.sizeOf0
  v0 := Try.zeroValue0
  t3 := Try.underlying3
  a3 := Try.isAgg3
  z3 := Try.sizeOf3
  v3 := Try.zeroValue3
  t4 := Try.underlying4
  a4 := Try.isAgg4
  z4 := Try.sizeOf4
  v4 := Try.zeroValue4
  t5 := Try.underlying5
  a5 := Try.isAgg5
  z5 := Try.sizeOf5
  v5 := Try.zeroValue5
  t9 := Try.underlying9
  a9 := Try.isAgg9
  z9 := Try.sizeOf9
  v9 := Try.zeroValue9
  t22 := Try.underlying35
  a22 := Try.isAgg35
  z22 := Try.sizeOf35
  v22 := Try.zeroValue35
  a24 := Try.isAgg36
  z24 := Try.sizeOf36
  t25 := Try.underlying89
  a25 := Try.isAgg89
  z25 := Try.sizeOf89
  v25 := Try.zeroValue89
  t39 := Try.underlying96
  a39 := Try.isAgg96
  z39 := Try.sizeOf96
  v39 := Try.zeroValue96
  t45 := Try.underlying112
  a45 := Try.isAgg112
  z45 := Try.sizeOf112
  v45 := Try.zeroValue112
  t46 := Try.underlying113
  a46 := Try.isAgg113
  z46 := Try.sizeOf113
  v46 := Try.zeroValue113
  t50 := Try.underlying85
  a50 := Try.isAgg85
  z50 := Try.sizeOf85
  v50 := Try.zeroValue85
  t53 := Try.underlying119
  a53 := Try.isAgg119
  z53 := Try.sizeOf119
  v53 := Try.zeroValue119
  t55 := Try.underlying22
  a55 := Try.isAgg22
  z55 := Try.sizeOf22
  v55 := Try.zeroValue22
  t66 := Try.underlying135
  a66 := Try.isAgg135
  z66 := Try.sizeOf135
  v66 := Try.zeroValue135
  t70 := Try.underlying138
  a70 := Try.isAgg138
  z70 := Try.sizeOf138
  v70 := Try.zeroValue138
  t76 := Try.underlying142
  a76 := Try.isAgg142
  z76 := Try.sizeOf142
  v76 := Try.zeroValue142
  t77 := Try.underlying143
  a77 := Try.isAgg143
  z77 := Try.sizeOf143
  v77 := Try.zeroValue143 }

/-- A row of numbers: its address, its numbers, its capacity. -/
abbrev Rc : Type := Option Addr × List Int × Nat
abbrev rcV (x : Rc) : Value := .slice x.1 x.2.1.length x.2.2
/-- By first numbers. -/
def rcf (x y : Rc) : Int := pat x.2.1 0 - pat y.2.1 0
theorem rcf_lt (x y : Rc) : ltOf rcf x y = decide (pat x.2.1 0 < pat y.2.1 0) := by
  unfold ltOf rcf
  by_cases h : pat x.2.1 0 < pat y.2.1 0
  · rw [decide_eq_true h]; exact decide_eq_true (by omega)
  · rw [decide_eq_false h]; exact decide_eq_false (by omega)
theorem rcf_swo : SWO (ltOf rcf) where
  irrefl x := by rw [rcf_lt]; simp
  trans x y z h1 h2 := by rw [rcf_lt] at *; simp at *; omega
  ntrans x y z h1 h2 := by rw [rcf_lt] at *; simp at *; omega
def pm (l : List Nat) (i : Nat) : Nat := (l.take i).foldl max 0
theorem pm_step {l : List Nat} {i : Nat} (hi : i < l.length) : pm l (i + 1) = max (pm l i) l[i] := by
  unfold pm
  rw [List.take_succ_eq_append_getElem hi, List.foldl_append]
  rfl
theorem pm_all (l : List Nat) : pm l l.length = mx l := by unfold pm mx; rw [List.take_length]
theorem ni_cell {w : World} {B : Nat} {A : Option Addr} {l : List Nat} (h : Seg w B A ((NI l).map (.int .i64))) {i : Nat} (hi : i < l.length) : ∃ ad, A = some ad ∧ ad.block < B ∧ w.cell? (ad.add i) = some (.int .i64 (l[i] : Nat)) := by
  refine h.get ?_
  rw [List.getElem?_map, List.getElem?_map, List.getElem?_eq_getElem hi]
  rfl
set_option maxRecDepth 20000 in
set_option maxHeartbeats 4000000 in
theorem max_any (l : List Nat) (A : Option Addr) (c B : Nat) (w : World) (hs : Seg w B A ((NI l).map (.int .i64))) (h0 : 0 < l.length) (hm : l.length ≤ 1000) :
    Calls Try.prog 59 #[.slice A l.length c] w fun e w' => e = .returned (.int .i64 (mx l : Nat)) ∧ w = w' := by
  obtain ⟨R, hR⟩ : ∃ R, R = mx l := ⟨_, rfl⟩
  rw [← hR]
  rw [← pm_all] at hR
  have HR := Lib.hid hR
  have HS := Lib.hid hs
  obtain ⟨ad, rfl, _, hc0⟩ := ni_cell hs h0
  rw [show ad.add 0 = ad by simp [Addr.add]] at hc0
  have HP1 : Hid (pm l 1 = l[0]) := by unfold Hid; rw [pm_step h0]; simp [pm]
  obtain ⟨x0, hx0⟩ : ∃ x0, x0 = l[0] := ⟨_, rfl⟩
  rw [← hx0] at hc0 HP1
  obtain ⟨n, hn⟩ : ∃ n, n = l.length := ⟨_, rfl⟩
  have HN := Lib.hid hn
  have HNB : Hid (0 < n ∧ n ≤ 1000) := by unfold Hid; omega
  have i0 : ¬ (n : Int) < 1 := by omega
  have i00 : (0 : Nat) < n := by omega
  rw [← hn]
  clear hs hR hx0 hn h0 hm
  go_enter Try.func59, Try.ntmps59
  go_wp2_with fail
  clear i0 i00
  go_loopw [3, 4] (fun s3 s4 wx => ∃ i x : Nat, s4 = .int .i64 i ∧ s3 = .int .i64 x ∧ Hid (1 ≤ i ∧ i ≤ n) ∧ Hid (x = pm l i) ∧ wx = w) (fun _ s4 _ => n - (intOf s4).toNat)
  case atStart => exact ⟨1, x0, rfl, rfl, ⟨Nat.le_refl _, HNB.out.1⟩, HP1.out.symm, rfl⟩
  case round =>
    obtain ⟨i, x, rfl, rfl, HI, HX, rfl⟩ := hrel
    by_cases hlt : i < n
    · have i1 : (i : Int) < (n : Int) := by omega
      have hil : i < l.length := by rw [← HN.out]; exact hlt
      obtain ⟨ad2, e2, _, hc⟩ := ni_cell HS.out hil
      injection e2 with e2
      subst e2
      have hst := pm_step hil
      obtain ⟨y, hy⟩ : ∃ y, y = l[i] := ⟨_, rfl⟩
      rw [← hy] at hc hst
      rw [← HX.out] at hst
      have uk : Hid (wrap64 ((i : Int) + 1) = ((i + 1 : Nat) : Int)) := by have := HNB.out; unfold Hid wrap64; omega
      have HK := Lib.hid hlt
      by_cases hxy : x < y
      · have HST : Hid (y = pm l (i + 1)) := by unfold Hid; omega
        have i2 : (x : Int) < (y : Int) := by omega
        have d2 : decide ((x : Int) < (y : Int)) = true := decide_eq_true i2
        clear hst hy hil hlt hxy
        go_wp2_with fail
        go_roundw
        case rel => exact ⟨i + 1, y, by first | rfl | rw [uk.out], by first | rfl | (congr 1; omega), ⟨by omega, HK.out⟩, HST.out, by first | rfl | trivial⟩
        case measure => (try rw [uk.out]); have := HK.out; simp [intOf]; omega
      · have HST : Hid (x = pm l (i + 1)) := by unfold Hid; omega
        have i2 : ¬ (x : Int) < (y : Int) := by omega
        have d2 : decide ((x : Int) < (y : Int)) = false := decide_eq_false i2
        clear hst hy hil hlt hxy
        go_wp2_with fail
        go_roundw
        case rel => exact ⟨i + 1, x, by first | rfl | rw [uk.out], by first | rfl | (congr 1; omega), ⟨by omega, HK.out⟩, HST.out, by first | rfl | trivial⟩
        case measure => (try rw [uk.out]); have := HK.out; simp [intOf]; omega
    · have hie : i = n := by have := HI.out; omega
      have i1 : ¬ (i : Int) < (n : Int) := by omega
      have HE : Hid (x = R) := by unfold Hid; rw [HX.out, HR.out, hie, HN.out]
      clear hlt hie
      go_wp2_with fail
      go_ret
      exact ⟨by rw [← HE.out]; rfl, rfl⟩
set_option maxRecDepth 20000 in
set_option maxHeartbeats 4000000 in
theorem index_any (l : List Nat) (v : Nat) (A : Option Addr) (c B : Nat) (w : World) (hs : Seg w B A ((NI l).map (.int .i64))) (hv : v ∈ l) (hnd : l.Nodup) (hm : l.length ≤ 1000) :
    Calls Try.prog 58 #[.slice A l.length c, .int .i64 v] w fun e w' => e = .returned (.int .i64 (l.idxOf v : Nat)) ∧ w = w' := by
  have hI := List.idxOf_lt_length_of_mem hv
  have hg := List.getElem_idxOf hI
  obtain ⟨I, hII⟩ : ∃ I, I = l.idxOf v := ⟨_, rfl⟩
  have HNE : Hid (∀ i (h : i < l.length), i < I → l[i] ≠ v) := fun i h hi e => by
    have := (List.getElem_inj (h₀ := h) (h₁ := hI) hnd).1 (e.trans hg.symm)
    omega
  have HEQ : Hid (∀ h : I < l.length, l[I] = v) := fun h => by subst hII; exact hg
  rw [← hII] at hI ⊢
  have HS := Lib.hid hs
  obtain ⟨n, hn⟩ : ∃ n, n = l.length := ⟨_, rfl⟩
  have HN := Lib.hid hn
  have HIN : Hid (I < n ∧ n ≤ 1000) := by unfold Hid; omega
  rw [← hn]
  clear hs hv hnd hg hII hI hn hm
  go_enter Try.func58, Try.ntmps58
  go_wp2_with fail
  go_loopw [8] (fun s8 wx => ∃ i : Nat, s8 = .int .i64 i ∧ Hid (i ≤ I) ∧ wx = w) (fun s8 _ => n - (intOf s8).toNat)
  case atStart => exact ⟨0, rfl, Nat.zero_le _, rfl⟩
  case round =>
    obtain ⟨i, rfl, HI, rfl⟩ := hrel
    have hin : i < n := by have := HI.out; have := HIN.out; omega
    have i1 : (i : Int) < (n : Int) := by omega
    have hil : i < l.length := by rw [← HN.out]; exact hin
    obtain ⟨ad, rfl, _, hc⟩ := ni_cell HS.out hil
    have hne := HNE.out i hil
    have heq : i = I → l[i] = v := fun e => by subst e; exact HEQ.out hil
    obtain ⟨y, hy⟩ : ∃ y, y = l[i] := ⟨_, rfl⟩
    rw [← hy] at hc hne heq
    have uk : Hid (wrap64 ((i : Int) + 1) = ((i + 1 : Nat) : Int)) := by have := HIN.out; unfold Hid wrap64; omega
    have HK := Lib.hid hin
    by_cases hiI : i = I
    · have b1 : ((v : Int) == (y : Int)) = true := by rw [heq hiI]; simp
      have HE := Lib.hid hiI
      clear hne heq hy hil hin hiI
      go_wp2_with fail
      go_ret
      exact ⟨by rw [← HE.out]; rfl, rfl⟩
    · have hlt : i < I := by have := HI.out; omega
      have b1 : ((v : Int) == (y : Int)) = false := by
        have := hne hlt
        rw [beq_eq_false_iff_ne]; omega
      have HLT := Lib.hid hlt
      clear hne heq hy hil hin hiI hlt
      go_wp2_with fail
      go_roundw
      case rel => exact ⟨i + 1, by first | rfl | rw [uk.out], HLT.out, by first | rfl | trivial⟩
      case measure => (try rw [uk.out]); have := HK.out; simp [intOf]; omega
set_option maxRecDepth 20000 in
set_option maxHeartbeats 4000000 in
theorem rcmp_any (a b : Int) (ad bd : Addr) (la ca lb cb : Nat) (w : World) (ha : w.cell? ad = some (.int .i64 a)) (hb : w.cell? bd = some (.int .i64 b)) (hla : 0 < la) (hlb : 0 < lb) (h1 : 0 ≤ a ∧ a ≤ 1000) (h2 : 0 ≤ b ∧ b ≤ 1000) :
    Calls Try.prog 62 #[.slice (some ad) la ca, .slice (some bd) lb cb] w fun e w' => e = .returned (.int .i64 (a - b)) ∧ ∃ q, w' = w.drewN q := by
  have u1 : wrap64 (a - b) = a - b := by unfold wrap64; omega
  have u2 : IntKind.i64.wrap (a - b) = a - b := IntWalk.i64_in _ (by omega)
  have i1 : (0 : Int) < (la : Int) := by omega
  have i2 : (0 : Int) < (lb : Int) := by omega
  clear h1 h2
  go_enter Try.func62, Try.ntmps62
  go_wp2_with fail
  go_quiet (fail)
  go_wp2_with fail
  go_ret
  exact ⟨rfl, _, rfl⟩

/-! ### the rows, brought into order -/
def Good (w : World) (g : Nat) (x : Rc) : Prop := 0 < x.2.1.length ∧ (0 ≤ pat x.2.1 0 ∧ pat x.2.1 0 ≤ 1000) ∧ ∃ ad, x.1 = some ad ∧ ad.block < w.heap.size ∧ ad.block ≠ g ∧ w.cell? ad = some (.int .i64 (pat x.2.1 0))
abbrev Gd (w : World) (g : Nat) : Type := {x : Rc // Good w g x}
theorem gd_swo (w : World) (g : Nat) : SWO (ltOf fun x y : Gd w g => rcf x.1 y.1) where
  irrefl x := rcf_swo.irrefl x.1
  trans x y z h1 h2 := rcf_swo.trans x.1 y.1 z.1 h1 h2
  ntrans x y z h1 h2 := rcf_swo.ntrans x.1 y.1 z.1 h1 h2
theorem grown_sorted {α : Type} [Inhabited α] {enc : α → Value} {w : World} {g n : Nat} {os : Array Obj} (d : Array α) : w.grownBy (grow (putRow enc (Sort.ahead w n) g 0 d) os) (some g) := by
  refine ⟨rfl, rfl, rfl, by simp, fun k hk hne => ?_⟩
  rw [heap_grow_old _ _ (by simpa using hk)]
  have : g ≠ k := fun e => hne (by rw [e])
  simp [putRow, mapBlock, Sort.ahead, Array.getElem?_modify, this]
theorem own_grow2 {w : World} {base n : Nat} {e : TypeId} {v : Value} {xs : List Value} {os : Array Obj} (h : w.ownsRow base e 1 v n xs) : (grow w os).ownsRow base e 1 v n xs := by
  rcases h.2 with h0 | ⟨g, cap, cur, e0, hb, hg, hr⟩
  · exact ⟨h.1, .inl h0⟩
  · have hlt : g < w.heap.size := by
      rcases Nat.lt_or_ge g w.heap.size with h' | h'
      · exact h'
      · rw [Array.getElem?_eq_none h'] at hg; cases hg
    exact ⟨h.1, .inr ⟨g, cap, cur, e0, hb, by rw [heap_grow_old _ _ hlt]; exact hg, hr⟩⟩
set_option maxRecDepth 20000 in
set_option maxHeartbeats 2000000 in
theorem rsort_any (L : List Rc) (A : Option Addr) (c base : Nat) (w : World) (hown : Own w base 36 (.slice A L.length c) (L.map rcV)) (hb : base ≤ w.heap.size) (hG : ∀ g, A = some ⟨g, 0, none⟩ → ∀ x ∈ L, Good w g x) (hm : L.length ≤ 1000) :
    Calls Try.prog 61 #[.slice A L.length c, .func (.func 62) #[] #[]] w fun e w' => e = .returned (.tuple #[]) ∧
      ∃ Y : List Rc, Y.Perm L ∧ Y.Pairwise (fun a b => pat a.2.1 0 ≤ pat b.2.1 0) ∧ Own w' base 36 (.slice A L.length c) (Y.map rcV) ∧ Below base w w' ∧ (∀ g, A = some ⟨g, 0, none⟩ → w.grownBy w' (some g)) ∧ w.heap.size ≤ w'.heap.size := by
  by_cases h0 : L.length = 0
  · obtain rfl := List.eq_nil_of_length_eq_zero h0
    have h := AnyF.slices_SortFunc_none (P := Try.prog) (ρ := laysSR_ren) { laysSR with } A c (.func (.func 62) #[] #[]) w
    refine Calls.mono (show Calls Try.prog 61 _ _ _ from h) ?_
    rintro e w' ⟨rfl, rfl⟩
    exact ⟨rfl, [], List.Perm.refl _, List.Pairwise.nil, hown, Below.refl _ _, fun g _ => World.grownBy.refl _ _, Nat.le_refl _⟩
  · have hl : (L.map rcV).length = L.length := List.length_map ..
    obtain ⟨g, rfl, hg⟩ := hown.at_ (by omega)
    have hGg := hG g rfl
    have hrow : w.ownsRow base 36 1 (.slice (some ⟨g, 0, none⟩) L.length c) L.length (L.map rcV) := by have h := hown; unfold Own at h; rw [hl] at h; exact h
    obtain ⟨D, hD⟩ : ∃ D : List (Gd w g), D.map (·.1) = L := ⟨L.attach.map fun x => ⟨x.1, hGg x.1 x.2⟩, by rw [List.map_map]; exact List.attach_map_subtype_val L⟩
    have hDl : D.length = L.length := by rw [← hD, List.length_map]
    obtain ⟨x0, D0, hD0⟩ : ∃ x0 D0, D = x0 :: D0 := List.exists_cons_of_ne_nil (by intro e; rw [e] at hDl; simp at hDl; omega)
    letI : Inhabited (Gd w g) := ⟨x0⟩
    have hLe : L.map rcV = D.map fun x => rcV x.1 := by rw [← hD, List.map_map]; rfl
    rw [hLe] at hrow
    obtain ⟨g', cap, e0, hbg, hlt, hncap, hcapm, _, hH⟩ := Go.Lib.holds_of_ownsRow hrow (by simp)
    injection e0 with e1 _ e3
    injection e1 with e1
    injection e1 with e1
    subst e1; subst e3
    have eg : ∀ args w, (callFunc 62 args).run Try.prog w = .ok (.enter 62 args) w := enters_of Try.func62 (by kernel_rfl) rfl
    have hcmp : CmpLays1 Try.prog 62 #[] (fun x : Gd w g => rcV x.1) (fun x y => rcf x.1 y.1) g 0 D.toArray.size w := fun m os dk hdk x y => by
      obtain ⟨⟨ax, lx, cx⟩, hx1, hx2, ad, hx3, hx4, hx5, hx6⟩ := x
      obtain ⟨⟨ay, ly, cy⟩, hy1, hy2, bd, hy3, hy4, hy5, hy6⟩ := y
      simp only at hx1 hx2 hx3 hx6 hy1 hy2 hy3 hy6
      subst hx3
      subst hy3
      have hcell : ∀ (a : Addr) (v : Value), a.block ≠ g → a.block < w.heap.size → w.cell? a = some v → (sortWorld (fun x : Gd w g => rcV x.1) w g 0 m dk os).cell? a = some v := fun a v h1 h2 h3 => by
        have h4 : (putRow (fun x : Gd w g => rcV x.1) (Sort.ahead w m) g 0 dk).cell? a = some v := by
          rw [cell?_putRow_other (fun x : Gd w g => rcV x.1) (Sort.ahead w m) g 0 dk a (.inl h1)]
          exact h3
        exact cell_grown (show a.block < (putRow (fun x : Gd w g => rcV x.1) (Sort.ahead w m) g 0 dk).heap.size by rw [size_putRow]; exact h2) h4 0 os
      refine (rcmp_any (pat lx 0) (pat ly 0) ad bd lx.length cx ly.length cy _ (hcell ad _ hx5 hx4 hx6) (hcell bd _ hy5 hy4 hy6) hx1 hy1 hx2 hy2).mono ?_
      rintro e w' ⟨rfl, q, rfl⟩
      exact ⟨rfl, q, #[], by rw [grow_empty]⟩
    have h := Any.slices_SortFunc (P := Try.prog) (ρ := laysSR_ren) laysSR (fun x : Gd w g => rcV x.1) (fun _ => rfl) (fun x y => rcf x.1 y.1) (gd_swo w g) 62 #[] g 0 c D.toArray w eg hcmp hH hlt (by simp; omega)
    have hsz : D.toArray.size = L.length := by rw [List.size_toArray, hDl]
    rw [hsz] at h
    refine Calls.mono (show Calls Try.prog 61 #[.slice (some ⟨g, 0, none⟩) L.length c, .func (.func 62) #[] #[]] w _ from h) ?_
    rintro e w' ⟨rfl, d', n, os, hp, hso, rfl⟩
    have hd's : d'.size = L.length := by rw [hp.1, hsz]
    have hgr := grown_sorted (enc := fun x : Gd w g => rcV x.1) (w := w) (g := g) (n := n) (os := os) d'
    have hpm : d'.toList.Perm D := by
      have h3 := hp.2.2
      have e1 : d'.extract 0 L.length = d' := by rw [← hd's]; simp
      have e2 : D.toArray.extract 0 L.length = D.toArray := by rw [← hsz]; simp
      rw [e1, e2] at h3
      simpa using h3
    refine ⟨rfl, d'.toList.map (·.1), ?_, ?_, ?_, (Below.refl _ _).grown hgr hb (fun k hk => by injection hk with hk; omega), fun g2 e2 => ?_, hgr.size⟩
    · have h4 := hpm.map (·.1)
      rwa [hD] at h4
    · refine List.pairwise_map.2 (List.pairwise_iff_getElem.2 fun i j hi hj hij => ?_)
      have h4 := hso i j (Nat.zero_le _) hij (by rw [← hd's]; simpa using hj)
      have h5 : ltOf rcf (d'.toList[j]).1 (d'.toList[i]).1 = false := by
        have e1 : d'[j]! = d'.toList[j] := by simp [getElem!_pos, show j < d'.size by simpa using hj]
        have e2 : d'[i]! = d'.toList[i] := by simp [getElem!_pos, show i < d'.size by simpa using hi]
        rw [e1, e2] at h4
        exact h4
      rw [rcf_lt] at h5
      have := of_decide_eq_false h5
      omega
    · have h2 := Go.Lib.ownsRow_putRow (q := n) (k := L.length) (ys := d'.toList) hrow (by simpa using hd's) (Nat.le_refl _)
      rw [List.take_of_length_le (by simp [hd's])] at h2
      rw [List.map_map]
      exact Own.to (own_grow2 h2)
    · injection e2 with e2
      injection e2 with e2
      subst e2
      exact hgr
end Go.Proofs.Ytkffakekakhgdaa
