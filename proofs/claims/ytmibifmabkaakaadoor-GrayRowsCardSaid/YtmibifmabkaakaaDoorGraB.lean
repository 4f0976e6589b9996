/- Package gray: Bruijn, walked. No condition. -/
import Derived.Test.YtmibifmabkaakaaDoorGraP
import Derived.Deep.DeepCutAuto
namespace Go.Proofs.YtmibifmabkaakaaDoor
open Go.ChangeShapes Go.WideShapes Go.ChangeAt Go.RowKit
set_option linter.unusedVariables false

def slen (v : Value) : Nat := match v with | .slice _ n _ => n | _ => 0
theorem bap {b g : Nat} {v : Value} (h : ∀ k, v.ownBlock = some k → k < g) (hb : g ≤ b) : Apart (some ⟨b, 0, none⟩) v := by
  intro ad k hA hk
  injection hA with hA
  have := h k hk
  rw [← hA]
  show b ≠ k
  omega
/-- A call's answer: a slice of bools, and a number. -/
def BOut (w w' : World) (e : Ending) (l : List Bool) (err : Int) : Prop :=
  ∃ A c, e = .returned (.tuple #[.slice A l.length c, .int .i64 err]) ∧ l.length ≤ c ∧ Seg w' w'.heap.size A (l.map .bool) ∧ Below w.heap.size w w'
theorem bmod {a b : Nat} (h : 0 < b) : Int.tmod (a : Int) (b : Int) = ((a % b : Nat) : Int) := by
  rw [Int.tmod_eq_emod_of_nonneg (by omega)]; rfl
theorem bdiv {a b : Nat} : Int.tdiv (a : Int) (b : Int) = ((a / b : Nat) : Int) := by
  rw [Int.tdiv_eq_ediv_of_nonneg (by omega)]; rfl
theorem own_one (w : World) (e : TypeId) (u : Value) : Own (w.alloc (.cells #[u] e)) w.heap.size e (.slice (some ⟨w.heap.size, 0, none⟩) 1 1) [u] :=
  ⟨rfl, .inr ⟨w.heap.size, 1, #[u], rfl, Nat.le_refl _, Blk.new w e _, Nat.le_refl _, by decide, rfl, rfl⟩⟩
def bruijnL (m : Int) : List Bool × Int := if m < 0 ∨ 10 < m then ([], 2) else if m = 0 then ([false], 0) else (xrow m.toNat (2 ^ m.toNat), 0)
theorem bruijn_bad (m : Int) (w : World) (h : m < 0 ∨ 10 < m) :
    Calls Tryd.prog 43 #[.int .i64 m] w fun e w' => BOut w w' e [] 2 := by
  rcases (by omega : m < 0 ∨ (¬ m < 0 ∧ 10 < m)) with h1 | ⟨h1, h2⟩
  all_goals
    clear h
    go_enter Tryd.func43, Tryd.ntmps43
    go_wp2_with fail
    go_ret2
    exact ⟨none, 0, rfl, Nat.le_refl _, Seg.nil, Below.refl _ _⟩
theorem bruijn_zero (w : World) :
    Calls Tryd.prog 43 #[.int .i64 0] w fun e w' => BOut w w' e [false] 0 := by
  have HO := Lib.hid (own_one w 4 (.bool false)).seg
  have HB : Hid (Below w.heap.size w (w.alloc (.cells #[.bool false] 4))) := (Below.refl _ _).alloc (Nat.le_refl _) _
  go_enter Tryd.func43, Tryd.ntmps43
  go_wp2_with fail
  go_ret2
  exact ⟨some ⟨w.heap.size, 0, none⟩, 1, rfl, Nat.le_refl _, HO.out, HB.out⟩
set_option maxRecDepth 20000 in
set_option maxHeartbeats 8000000 in
theorem bruijn_ok (n : Nat) (w : World) (h1 : 1 ≤ n) (h2 : n ≤ 10) :
    Calls Tryd.prog 43 #[.int .i64 n] w fun e w' => BOut w w' e (xrow n (2 ^ n)) 0 := by
  obtain ⟨R, hR⟩ : ∃ R, R = xrow n (2 ^ n) := ⟨_, rfl⟩
  have HRUN : Hid (brun n 300 [false] [] = some R) := by unfold Hid; rw [hR]; exact bru_all h1 h2
  rw [← hR]
  clear hR
  have HN := Lib.hid (And.intro h1 h2)
  have i0 : ¬ (n : Int) < 0 := by omega
  have i1 : ¬ (10 : Int) < (n : Int) := by omega
  have i2 : ((n : Int) == 0) = false := by rw [beq_eq_false_iff_ne]; omega
  have hmk := run_make_row' (P := Tryd.prog) 40 4 (.bool false) 1 Tryd.underlying40 (by kernel_rfl) rfl .i64 .i64 n (by omega) (by omega)
  have HMK := Lib.hid hmk
  have HO := Lib.hid (own_one w 4 (.bool false)).seg
  have HB : Hid (Below w.heap.size w (w.alloc (.cells #[.bool false] 4))) := (Below.refl _ _).alloc (Nat.le_refl _) _
  clear h1 h2 hmk
  go_enter Tryd.func43, Tryd.ntmps43
  go_wp2_with fail
  clear i0 i1 i2
  --LOOK1
  go_loopg [4, 5] 300 (fun g s4 s5 wx => ∃ (W out : List Bool) (A : Option Addr) (c : Nat), s5 = .slice A W.length c ∧ Hid (g ≤ 300 ∧ out.length ≤ (300 - g) * 10 ∧ W.length ≤ n ∧ W.length ≤ c) ∧ Hid (brun n g W out = some R) ∧ Hid (Seg wx wx.heap.size A (W.map .bool)) ∧ Hid (Own wx w.heap.size tBl s4 (out.map .bool)) ∧ Hid (0 < W.length → Apart A s4) ∧ Hid (Below w.heap.size w wx))
  case atStart => exact ⟨[false], [], some ⟨w.heap.size, 0, none⟩, 1, rfl, ⟨Nat.le_refl _, by simp, by have := HN.out.1; simpa using this, by simp⟩, HRUN.out, HO.out, Own.none_, fun _ _ g _ hg => by simp [Value.ownBlock] at hg, HB.out⟩
  case round =>
    clear HRUN HO HB
    obtain ⟨W, out, A, c, rfl, hsz, hrun, hsg, hown, hap, hb⟩ := hrel
    obtain ⟨A4, c4, rfl, hc4, hown4⟩ := hown.out.res2
    rw [List.length_map] at hown4 hc4
    rw [List.length_map] at hap ⊢
    have HO4 := Lib.hid hown4
    have HC4 := Lib.hid hc4
    clear hown hown4 hc4
    by_cases hW0 : W.length = 0
    · have hfin : Hid (out = R) := by
        have h := hrun.out
        cases gk with
        | zero => exact absurd h (by simp [brun])
        | succ g => rw [brun, if_pos hW0] at h; exact Option.some.inj h
      have j0 : ¬ (0 : Int) < ((0 : Nat) : Int) := by omega
      rw [hW0]
      have HSO := Lib.hid (Own.seg HO4.out)
      clear hW0 hrun
      go_wp2_with fail
      go_ret2
      rw [← hfin.out]
      exact ⟨A4, c4, rfl, HC4.out, HSO.out, hb.out⟩
    · have hpos : 0 < W.length := by omega
      obtain ⟨g, rfl⟩ : ∃ g, gk = g + 1 := by
        have h := hrun.out
        cases gk with
        | zero => exact absurd h (by simp [brun])
        | succ g => exact ⟨g, rfl⟩
      have hnx : Hid (brun n g (nxt n W) (if n % W.length = 0 then out ++ W else out) = some R) := by
        have h := hrun.out
        rw [brun, if_neg hW0] at h
        exact h
      have HSZ := hsz
      obtain ⟨L, hL⟩ : ∃ L, L = W.length := ⟨_, rfl⟩
      have HLW := Lib.hid hL
      have hln : L ≤ n := by rw [hL]; exact hsz.out.2.2.1
      rw [← hL] at hpos hnx ⊢
      have j0 : (0 : Int) < (L : Int) := by omega
      have j1 : ¬ (L : Int) = 0 := by omega
      have jm : Int.tmod (n : Int) (L : Int) = ((n % L : Nat) : Int) := bmod hpos
      have hml : n % L ≤ n := Nat.mod_le _ _
      have hn10 := HN.out.2
      have jw : IntKind.i64.wrap ((n % L : Nat) : Int) = ((n % L : Nat) : Int) := IntWalk.i64_in _ (by omega)
      have jw2 : wrap64 ((n % L : Nat) : Int) = ((n % L : Nat) : Int) := by unfold wrap64; omega
      have HPOS := Lib.hid (And.intro hpos hln)
      -- the slice behind the append, if it is made
      obtain ⟨O2, hO2⟩ : ∃ O2, O2 = if n % L = 0 then out ++ W else out := ⟨_, rfl⟩
      rw [← hO2] at hnx
      have HO2 := Lib.hid hO2
      have HO2L : Hid (O2.length ≤ (300 - g) * 10) := by
        have h1 := hsz.out
        unfold Hid
        rw [hO2]
        split
        · rw [List.length_append, ← hL]; omega
        · omega
      clear hO2 hW0 hrun hL hpos hln hml hn10
      obtain ⟨r, hr⟩ : ∃ r, r = n % L := ⟨_, rfl⟩
      rw [← hr] at jm jw jw2 HO2
      clear hr
      have HAPP : Hid ((out.map Value.bool).length + L ≤ maxLen ∧ ((out.map Value.bool).length + L) * 1 ≤ 140737488355328) := by
        have h1 := HSZ.out; have h2 := HPOS.out; have h3 := HN.out
        unfold Hid maxLen; rw [List.length_map]; omega
      go_upto_if 25 with (fail)
      go_cut [4] (fun s4 wx => Hid (Own wx w.heap.size tBl s4 (O2.map .bool)) ∧ Hid (Seg wx wr.heap.size A (W.map .bool)) ∧ Hid (wr.heap.size ≤ wx.heap.size) ∧ Hid (Below w.heap.size w wx))
      case first =>
        by_cases hr0 : r = 0
        · subst hr0
          have hO : Hid (O2 = out ++ W) := by unfold Hid; rw [HO2.out, if_pos rfl]
          go_wp2_with (first
            | (at_builtin; go_must (refine wpList_append_seg _ rfl _ _ elem_bools rfl w.heap.size _ (out.map .bool) rfl HO4.out c rfl (by rw [List.length_map]; exact HLW.out.symm) hsg.out (bools_one W) HAPP.out.1 HAPP.out.2 hb.out.size ?_); intro v7 w7 hown7 hg7 hv7; have HO7 := Lib.hid hown7; have HG7 := Lib.hid hg7; clear hown7 hg7 hv7)
            | fail)
          have HB7 : Hid (Below w.heap.size wr w7) := (Below.refl _ _).grown HG7.out hb.out.size HO4.out.block
          go_meet
          case rel => exact ⟨by unfold Hid; rw [hO.out, List.map_append]; exact HO7.out, hsg.out.far HG7.out (hap.out (by have := HPOS.out.1; rw [← HLW.out]; exact this)) (Nat.le_refl _), HB7.out.size, hb.out.trans HB7.out⟩
        · have hO : Hid (O2 = out) := by unfold Hid; rw [HO2.out, if_neg hr0]
          have k0 : ((r : Int) == 0) = false := by rw [beq_eq_false_iff_ne]; omega
          have k1 : ¬ (r : Int) = 0 := by omega
          clear hr0
          go_wp2_with fail
          go_meet
          case rel => exact ⟨by unfold Hid; rw [hO.out]; exact HO4.out, hsg.out, Nat.le_refl _, hb.out⟩
      case rest =>
        obtain ⟨hown2, hsg2, hsz2, hb2⟩ := hcut
        obtain ⟨wz, hwz⟩ : ∃ wz : World, wz = wc := ⟨_, rfl⟩
        obtain ⟨A3, c3, rfl, hc3, hown3⟩ := hown2.out.res2
        rw [List.length_map] at hown3 ⊢
        have HO3 := Lib.hid hown3
        have hmk := HMK.out
        obtain ⟨g1, hg1⟩ : ∃ g1, g1 = wc.heap.size := ⟨_, rfl⟩
        have HSW : Hid (Seg wc g1 A (W.map .bool)) := by rw [hg1]; exact hsg2.out.more hsz2.out
        have HR0 : Hid ((wc.alloc (.cells (madeCells #[.bool false] n) tBl)).rowIs g1 tBl n (fun _ => .bool false)) := by rw [hg1]; exact World.rowIs_made wc (.bool false) n tBl
        have HB0 : Hid (Below g1 wc (wc.alloc (.cells (madeCells #[.bool false] n) tBl))) := by rw [hg1]; exact (Below.refl _ _).alloc (Nat.le_refl _) _
        have HG1 : Hid (wc.heap.size = g1) := hg1.symm
        have hg1' := hg1.symm
        clear hown2 hown3 hc3 hsg2 hsz2 hap hsg hwz j0 j1 jm jw jw2 hg1
        go_wp2_with fail
        clear hmk hg1'
        --LOOK2
        go_loopw [33] (fun s33 wx => ∃ k : Nat, k ≤ n ∧ s33 = .int .i64 k ∧ Hid (wx.rowIs g1 tBl n (fun i => .bool (if i < k then wrep W i else false))) ∧ Hid (Below g1 wc wx)) (fun s33 _ => n - (intOf s33).toNat)
        case atStart => exact ⟨0, Nat.zero_le _, rfl, HR0.out.congr (fun i _ => by simp), HB0.out⟩
        case round =>
          clear HR0 HB0
          obtain ⟨k, hk, rfl, hrow, hbk⟩ := hrel
          by_cases hkl : k < n
          · have i1 : (k : Int) < (n : Int) := by omega
            have hp := HPOS.out.1
            obtain ⟨q, hq⟩ : ∃ q, q = k % L := ⟨_, rfl⟩
            have hqL : q < L := by rw [hq]; exact Nat.mod_lt k hp
            have hqk : q ≤ k := by rw [hq]; exact Nat.mod_le k L
            have im : Int.tmod (k : Int) (L : Int) = (q : Int) := by rw [hq]; exact bmod hp
            have HQQ := Lib.hid hq
            clear hq
            have iw : IntKind.i64.wrap (q : Int) = (q : Int) := IntWalk.i64_in _ (by clear im; have := HN.out; omega)
            have iw2 : wrap64 (q : Int) = (q : Int) := by clear im; have := HN.out; unfold wrap64; omega
            have i2 : (q : Int) < (L : Int) := by omega
            have i3 : ¬ (L : Int) = 0 := by omega
            obtain ⟨ad, rfl, _, hcw0⟩ := HSW.out.bat (k := q) (by have := HLW.out; omega)
            have hcw := (hbk.out.cell (by
              obtain ⟨ad', e', hlt, _⟩ := HSW.out (by rw [List.length_map]; have := HLW.out; omega)
              injection e' with e'
              subst e'
              rw [addr_block]; exact hlt)).trans hcw0
            have hcg := hrow.out.cell (i := k) hkl
            have hfg := hrow.out.frozen k
            have hwr : Hid (wrep W k = bat W q) := by unfold Hid wrep; rw [HQQ.out, HLW.out]
            have uk : Hid (wrap64 ((k : Int) + 1) = ((k + 1 : Nat) : Int)) := gw64 (by have := HN.out; omega)
            have HK := Lib.hid (And.intro hk hkl)
            obtain ⟨b, hbb⟩ : ∃ b, b = bat W q := ⟨_, rfl⟩
            rw [← hbb] at hcw hwr
            clear hbb hcw0 hqL hqk hp hk hkl
            go_wp2_with fail
            go_roundw
            case rel =>
              refine ⟨k + 1, by have := HK.out; omega, by first | rfl | rw [uk.out], (hrow.out.set k (.bool b)).congr (fun i hi => ?_), hbk.out.setCell (Nat.le_refl _) _⟩
              by_cases e : i = k
              · subst e; rw [if_pos rfl, if_pos (by omega), hwr.out]
              · rw [if_neg e]
                by_cases e2 : i < k
                · rw [if_pos e2, if_pos (by omega)]
                · rw [if_neg e2, if_neg (by omega)]
            case measure => (try rw [uk.out]); have := HK.out; simp [intOf]; omega
          · obtain rfl : k = n := by omega
            have HROW : Hid (wr.rowIs g1 tBl k (fun i => .bool (wrep W i))) := hrow.out.congr (fun i hi => by rw [if_pos hi])
            have HBW : Hid (Below g1 wc wr) := hbk.out
            clear hrow hbk hk hkl
            obtain ⟨wy, hwy⟩ : ∃ wy : World, wy = wr := ⟨_, rfl⟩
            rw [← hwy] at HROW HBW ⊢
            clear hwy
            go_wp2_with fail
            --LOOK3
            go_loopw [6] (fun s6 wx => ∃ T : Nat, s6 = .slice (some ⟨g1, 0, none⟩) T k ∧ Hid (T ≤ k ∧ tcut (wrep W) T = tcut (wrep W) k) ∧ wx = wy) (fun s6 _ => slen s6)
            case atStart => exact ⟨k, rfl, ⟨Nat.le_refl _, rfl⟩, by first | rfl | trivial⟩
            case round =>
              obtain ⟨T, rfl, hT, hw9⟩ := hrel
              have hw9' := hw9.symm
              subst hw9'
              clear hw9
              by_cases hT0 : T = 0
              · have hcut0 : Hid (tcut (wrep W) k = 0) := by unfold Hid; rw [← hT.out.2, hT0]; rfl
                subst hT0
                have hNX : Hid (nxt k W = []) := List.eq_nil_of_length_eq_zero (by rw [nxt_len, hcut0.out])
                go_wp2_with fail
                go_roundg g
                case measure => omega
                case rel =>
                  refine ⟨nxt k W, O2, some ⟨g1, 0, none⟩, k, by rw [hNX.out]; rfl, ⟨by have := HSZ.out.1; omega, HO2L.out, by rw [hNX.out]; exact Nat.zero_le _, by rw [hNX.out]; exact Nat.zero_le _⟩, hnx.out, by rw [hNX.out]; exact Seg.nil, ?_, fun _ => bap HO3.out.lt (Nat.le_of_eq HG1.out), hb2.out.trans (HBW.out.mono (by rw [← HG1.out]; exact hb2.out.size))⟩
                  exact Own.below HO3.out HBW.out (Nat.le_of_eq HG1.out)
              · obtain ⟨t, rfl⟩ : ∃ t, T = t + 1 := ⟨T - 1, by omega⟩
                have htk : t < k := by have := hT.out.1; omega
                have i1 : (0 : Int) < ((t + 1 : Nat) : Int) := by omega
                have ut : wrap64 (((t + 1 : Nat) : Int) - 1) = (t : Int) := by have := HN.out; unfold wrap64; omega
                have ut2 : IntKind.i64.wrap (((t + 1 : Nat) : Int) - 1) = (t : Int) := by have := HN.out; rw [IntWalk.i64_in _ (by omega)]; omega
                have i2 : (t : Int) < ((t + 1 : Nat) : Int) := by omega
                have hct := HROW.out.cell (i := t) htk
                have hft := HROW.out.frozen t
                have hcs : Hid (tcut (wrep W) (t + 1) = if wrep W t then tcut (wrep W) t else t + 1) := rfl
                have hsl := fun u => bslice_to (A := some ⟨g1, 0, none⟩) (n := t + 1) (x := t) (c := k) (t : Int) rfl (by omega) u
                obtain ⟨b, hbb⟩ : ∃ b, b = wrep W t := ⟨_, rfl⟩
                rw [← hbb] at hct hcs
                have HBB := Lib.hid hbb
                have HTK := Lib.hid htk
                obtain ⟨T1, hT1⟩ : ∃ T1, T1 = t + 1 := ⟨_, rfl⟩
                have HT1 := Lib.hid hT1
                rw [← hT1] at i1 ut ut2 i2 hsl hT hcs ⊢
                clear hbb hT0 htk hT1
                cases b
                · have hcf : Hid (tcut (wrep W) k = T1) := by unfold Hid; rw [← hT.out.2, hcs.out]; rfl
                  have HRS : Hid ((wy.setCell ⟨g1, t, none⟩ (.bool true)).rowIs g1 tBl k (fun i => .bool (if i + 1 = T1 then true else wrep W i))) := (HROW.out.set t (.bool true)).congr (fun i hi => by
                    by_cases e : i = t
                    · subst e; rw [if_pos rfl, if_pos HT1.out.symm]
                    · rw [if_neg e, if_neg (by have := HT1.out; omega)])
                  have HBS : Hid (Below g1 wc (wy.setCell ⟨g1, t, none⟩ (.bool true))) := HBW.out.setCell (Nat.le_refl _) _
                  go_wp2_with fail
                  go_roundg g
                  case measure => omega
                  case rel =>
                    have hl : (nxt k W).length = T1 := by rw [nxt_len, hcf.out]
                    have hsz3 : wc.heap.size ≤ (wy.setCell ⟨g1, t, none⟩ (.bool true)).heap.size := HBS.out.size
                    refine ⟨nxt k W, O2, some ⟨g1, 0, none⟩, k, by rw [hl], ⟨by have := HSZ.out.1; omega, HO2L.out, by rw [hl]; exact hT.out.1, by rw [hl]; exact hT.out.1⟩, hnx.out, ?_, ?_, fun _ => bap HO3.out.lt (Nat.le_of_eq HG1.out), hb2.out.trans (HBS.out.mono (by rw [← HG1.out]; exact hb2.out.size))⟩
                    · unfold Hid nxt
                      rw [hcf.out]
                      exact rowIs_btab HRS.out hT.out.1
                    · exact Own.below HO3.out HBS.out (Nat.le_of_eq HG1.out)
                · have hcn : Hid (t ≤ k ∧ tcut (wrep W) t = tcut (wrep W) k) := ⟨Nat.le_of_lt HTK.out, by rw [← hT.out.2, hcs.out]; rfl⟩
                  go_wp2_with fail
                  go_roundw
                  case rel => exact ⟨t, rfl, hcn, by first | rfl | trivial⟩
                  case measure => show t < T1; rw [HT1.out]; exact Nat.lt_succ_self t
end Go.Proofs.YtmibifmabkaakaaDoor
