/- The reference of package bench: ZParse, walked. No condition but the text's own size. -/
import Derived.Test.YtmibifmabkaakaaDoorBenO
namespace Go.Proofs.YtmibifmabkaakaaDoor
open Go.ChangeShapes Go.WideShapes Go.ChangeAt Go.RowKit
set_option linter.unusedVariables false

theorem results_tmp4 {fn : Func} {t u v x : Tmp} (h : fn.results = #[.tmp t, .tmp u, .tmp v, .tmp x]) (tmps : Array Value) (P : Program) (w : World) :
    (results fn tmps).run P w = .ok (.tuple #[tmps.getD t undef, tmps.getD u undef, tmps.getD v undef, tmps.getD x undef]) w := by
  simp [results, h]
theorem below_of_drew {B : Nat} {w w' : World} (h : Below B w.drew w') : Below B w w' := ⟨h.os, h.tape, h.output, h.size, h.block⟩
def strLen : Value → Nat | .string s => s.size | _ => 0
def cp (l : List (Nat × Nat)) : List (Int × Int) := l.map fun p => ((p.1 : Int), (p.2 : Int))
theorem cp_len (l : List (Nat × Nat)) : (cp l).length = l.length := by simp [cp]
theorem cp_snoc (l : List (Nat × Nat)) (x d : Nat) : flat (cp (l ++ [(x, d)])) = flat (cp l) ++ [.int .i64 (x : Int), .int .i64 (d : Int)] := by
  unfold cp
  rw [List.map_append, flat_app]
  rfl
/-- What Parse and ZParse hand back. -/
def PaOut (w : World) (r : Nat × List (Nat × Nat) × Nat × Nat) (e : Ending) (w' : World) : Prop :=
  ∃ A c, e = .returned (.tuple #[.int .i64 (r.1 : Nat), .slice A r.2.1.length c, .int .i64 (r.2.2.1 : Nat), .int .i64 (r.2.2.2 : Nat)]) ∧ r.2.1.length ≤ c ∧ Seg w' w'.heap.size A (flat (cp r.2.1)) ∧ Below w.heap.size w w'
theorem eol_cases (b : Bs) : (b = [] ∧ eol b = none) ∨ (∃ c r, b = c :: r ∧ c ≠ 10 ∧ eol b = none) ∨ (∃ r, b = 10 :: r ∧ eol b = some r) := by
  cases b with
  | nil => exact Or.inl ⟨rfl, rfl⟩
  | cons c r =>
    by_cases h : c = 10
    · subst h; exact Or.inr (Or.inr ⟨r, rfl, rfl⟩)
    · exact Or.inr (Or.inl ⟨c, r, rfl, h, by unfold eol; simp only; rw [if_neg h]⟩)
theorem sv_empty (l : Bs) : (⟨l.toArray⟩ : ByteArray).toList.isEmpty = l.isEmpty := by rw [Lib.toList_data]
theorem sv_get (l : Bs) (k : Nat) (h : k < (⟨l.toArray⟩ : ByteArray).size) : ((⟨l.toArray⟩ : ByteArray)[k]'h).toNat = (l[k]'h).toNat := rfl
theorem sv_tail (c : UInt8) (r : Bs) : (⟨(c :: r).toArray⟩ : ByteArray).extract 1 (r.length + 1) = ⟨r.toArray⟩ := by
  rw [sv_ext]
  show (⟨(((c :: r).drop 1).take (r.length + 1 - 1)).toArray⟩ : ByteArray) = _
  rw [List.drop_one, List.tail_cons, Nat.add_sub_cancel, List.take_length]
/-- What stands behind a number: nothing, another byte, or the line's end. -/
theorem eol_facts (b : Bs) (Bb : ByteArray) (hb : Bb = ⟨b.toArray⟩) : (Bb.toList.isEmpty = true ∧ eol b = none) ∨ (∃ n c0 : Nat, Bb.toList.isEmpty = false ∧ Bb.size = n ∧ (0 : Int) < (n : Int) ∧ (∀ h : 0 < Bb.size, (Bb[0]'h).toNat = c0) ∧ ((c0 : Int) != 10) = true ∧ eol b = none) ∨ (∃ (n : Nat) (r : Bs), Bb.toList.isEmpty = false ∧ Bb.size = n ∧ n = r.length + 1 ∧ (∀ h : 0 < Bb.size, (Bb[0]'h).toNat = 10) ∧ Bb.extract 1 n = ⟨r.toArray⟩ ∧ eol b = some r) := by
  subst hb
  rcases eol_cases b with ⟨rfl, h⟩ | ⟨c, r, rfl, hc, h⟩ | ⟨r, rfl, h⟩
  · exact Or.inl ⟨sv_empty _, h⟩
  · refine Or.inr (Or.inl ⟨r.length + 1, c.toNat, sv_empty _, rfl, by omega, fun _ => rfl, ?_, h⟩)
    rw [bne_iff_ne]
    intro e
    exact hc (UInt8.toNat_inj.1 (by have : (10 : UInt8).toNat = 10 := rfl; omega))
  · exact Or.inr (Or.inr ⟨r.length + 1, r, sv_empty _, rfl, rfl, fun _ => rfl, sv_tail _ _, h⟩)
theorem zstep_len {s word : Bs} {n : Nat} {r : Bs} (h : zstepR s word = some (n, r)) : r.length < s.length := by
  obtain ⟨_, e, _⟩ := (zstep_iff _ _ _ _).1 h
  have : 0 < (Lib.decDigits n).length := List.length_pos_iff.2 (dec_ne n)
  rw [e, List.length_append, List.length_append]
  omega
set_option maxRecDepth 20000 in
set_option maxHeartbeats 4000000 in
theorem zparse_any (t : Bs) (ht : t.length ≤ 8000000000000) (w : World) : Calls Tryd.prog 40 #[SV t] w fun e w' => PaOut w (parseR t) e w' := by
  obtain ⟨res, hres⟩ : ∃ res, res = parseR t := ⟨_, rfl⟩
  rw [← hres]
  have HRES := Lib.hid hres
  obtain ⟨T, hT⟩ : ∃ T : ByteArray, T = ⟨t.toArray⟩ := ⟨_, rfl⟩
  obtain ⟨z, hz⟩ : ∃ z, z = zstepR t (wRoom ++ [32]) := ⟨_, rfl⟩
  have HZ1 : Hid (∀ u, Calls Tryd.prog 84 #[.string T, .string { data := #[114, 111, 111, 109, 32] }] u fun e w' => e = .returned (RZ z) ∧ ∃ m, w' = u.drewN m) := fun u => by rw [hT, hz]; exact zstep_any t (wRoom ++ [32]) (by omega) u
  rw [show SV t = Value.string T by rw [hT]]
  have HZ := Lib.hid hz
  have HTL := Lib.hid ht
  clear hres hT hz ht
  cases z with
  | none =>
    have hr : Hid (res = (0, [], 0, 1)) := by
      unfold Hid
      rw [HRES.out]
      unfold parseR roomZ
      rw [← HZ.out]
    go_enter Tryd.func40, Tryd.ntmps40
    go_wp2_with fail
    refine (HZ1.out _).mono ?_
    unfold RZ
    rintro e w2 ⟨rfl, m2, rfl⟩
    go_wp2_with fail
    (try simp only [Exit.inBlock, Exit.then])
    refine bodyPost_ret (results_tmp4 rfl _ _ _) rfl ?_
    exact ⟨none, 0, by rw [hr.out]; rfl, by rw [hr.out]; exact Nat.le_refl _, by rw [hr.out]; exact Seg.nil, below_drewN (Below.refl _ _) _⟩
  | some p =>
    obtain ⟨room, b⟩ := p
    obtain ⟨Bb, hBb⟩ : ∃ Bb : ByteArray, Bb = ⟨b.toArray⟩ := ⟨_, rfl⟩
    have HZ1b : Hid (∀ u, Calls Tryd.prog 84 #[.string T, .string { data := #[114, 111, 111, 109, 32] }] u fun e w' => e = .returned (.tuple #[.int .i64 (room : Nat), .string Bb, .bool true]) ∧ ∃ m, w' = u.drewN m) := by rw [hBb]; exact HZ1.out
    clear HZ1
    have HBL : Hid (b.length < t.length) := zstep_len HZ.out.symm
    rcases eol_facts b Bb hBb with ⟨f1, hb⟩ | ⟨n, c0, f1, f2, f3, f4, f5, hb⟩ | ⟨n, r, f1, f2, hn, f4, f5, hb⟩
    · have hr : Hid (res = (0, [], 0, 1)) := by
        unfold Hid
        rw [HRES.out]
        unfold parseR roomZ
        rw [← HZ.out]
        simp only [hb, Option.map_none]
      clear hBb hb
      go_enter Tryd.func40, Tryd.ntmps40
      go_wp2_with fail
      refine (HZ1b.out _).mono ?_
      rintro e w2 ⟨rfl, m2, rfl⟩
      go_wp2_with fail
      --LOOK1
      (try simp only [Exit.inBlock, Exit.then])
      refine bodyPost_ret (results_tmp4 rfl _ _ _) rfl ?_
      exact ⟨none, 0, by rw [hr.out]; rfl, by rw [hr.out]; exact Nat.le_refl _, by rw [hr.out]; exact Seg.nil, below_drewN (Below.refl _ _) _⟩
    · have hr : Hid (res = (0, [], 0, 1)) := by
        unfold Hid
        rw [HRES.out]
        unfold parseR roomZ
        rw [← HZ.out]
        simp only [hb, Option.map_none]
      clear hBb hb
      go_enter Tryd.func40, Tryd.ntmps40
      go_wp2_with fail
      refine (HZ1b.out _).mono ?_
      rintro e w2 ⟨rfl, m2, rfl⟩
      go_wp2_with fail
      (try simp only [Exit.inBlock, Exit.then])
      refine bodyPost_ret (results_tmp4 rfl _ _ _) rfl ?_
      exact ⟨none, 0, by rw [hr.out]; rfl, by rw [hr.out]; exact Nat.le_refl _, by rw [hr.out]; exact Seg.nil, below_drewN (Below.refl _ _) _⟩
    · have HR : Hid (res = finR room (restF [] r)) := by
        unfold Hid
        rw [HRES.out]
        unfold parseR roomZ
        rw [← HZ.out]
        simp only [hb, Option.map_some]
      have HN : Hid (n = r.length + 1 ∧ r.length < t.length) := ⟨hn, by
        have h1 := HBL.out
        have h2 : b = 10 :: r := (eol_iff _ _).1 hb
        rw [h2, List.length_cons] at h1
        omega⟩
      have f6 : (1 : Int) ≤ (n : Int) := by omega
      have f7 : (0 : Int) < (n : Int) := by omega
      clear hBb hb hn HBL
      obtain ⟨R, hR⟩ : ∃ R : ByteArray, R = ⟨r.toArray⟩ := ⟨_, rfl⟩
      rw [← hR] at f5
      have HRR := Lib.hid hR
      clear hR
      go_enter Tryd.func40, Tryd.ntmps40
      go_wp2_with fail
      refine (HZ1b.out _).mono ?_
      rintro e w2 ⟨rfl, m2, rfl⟩
      go_wp2_with fail
      clear f1 f2 f4 f5 f6 f7
      have HBW : Hid (Below w.heap.size w (w.drewN m2)) := below_drewN (Below.refl _ _) _
      go_loopw [7, 9] (fun s7 s9 wx => ∃ (acc : List (Nat × Nat)) (r : Bs) (R : ByteArray) (k : Nat), s7 = .string R ∧ Hid (R = ⟨r.toArray⟩) ∧ Hid (k = acc.length) ∧ Hid (wx.ownsRow w.heap.size 81 2 s9 k (flat (cp acc))) ∧ Hid (res = finR room (restF acc r)) ∧ Hid (k + r.length ≤ t.length) ∧ Hid (Below w.heap.size w wx)) (fun s7 _ _ => strLen s7)
      case atStart => exact ⟨[], r, R, 0, rfl, HRR.out, rfl, crow_none, HR.out, by have := HN.out.2; unfold Hid; omega, HBW.out⟩
      case round =>
        clear HR HRR HN HBW
        obtain ⟨acc, r, R, k, rfl, HRR, HK, HO, HR, HLN, HB⟩ := hrel
        obtain ⟨L, c9, rfl⟩ := crow_shape HO.out
        by_cases hne : r = []
        · have f1 : R.toList.isEmpty = true := by rw [HRR.out, sv_empty, hne]; rfl
          have hr : Hid (res = (room, acc, 0, 0)) := HR.out.trans (by rw [hne, restF_nil]; rfl)
          obtain ⟨A9, c10, e9, hc9, hs9⟩ := crow_pairs HO.out
          injection e9 with e1 e2 e3
          have HE := Lib.hid (And.intro e1 (And.intro e2 (And.intro e3 (And.intro hc9 hs9))))
          clear hne e1 e2 e3 hc9 hs9
          go_wp2_with fail
          (try simp only [Exit.inBlock, Exit.then])
          refine bodyPost_ret (results_tmp4 rfl _ _ _) rfl ?_
          obtain ⟨e1, e2, e3, hc9, hs9⟩ := HE.out
          refine ⟨A9, c10, ?_, ?_, ?_, HB.out⟩
          · rw [hr.out, ← e1, ← e3]
            show _ = Ending.returned (.tuple #[_, .slice L acc.length c9, _, _])
            rw [show acc.length = k from HK.out.symm]
            rfl
          · rw [hr.out]; rw [cp_len] at hc9; exact hc9
          · rw [hr.out]; exact hs9
        · have HNE : Hid (r ≠ []) := hne
          have f1 : R.toList.isEmpty = false := by
            rw [HRR.out, sv_empty]
            cases r with
            | nil => exact absurd rfl hne
            | cons c t => rfl
          clear hne
          obtain ⟨z, hz⟩ : ∃ z, z = zstepR r (wAdd ++ [32]) := ⟨_, rfl⟩
          have HZ1 : Hid (∀ u, Calls Tryd.prog 84 #[.string R, .string { data := #[97, 100, 100, 32] }] u fun e w' => e = .returned (RZ z) ∧ ∃ m, w' = u.drewN m) := fun u => by rw [HRR.out, hz]; exact zstep_any r (wAdd ++ [32]) (by have := HLN.out; have := HTL.out; omega) u
          have HZA := Lib.hid hz
          clear hz
          have hw1 : wrap64 ((k : Int) + 1) = ((k + 1 : Nat) : Int) := by rw [wr64 _ (by omega) (by have := HLN.out; have := HTL.out; omega)]; omega
          have HW1 := Lib.hid hw1
          clear hw1
          cases z with
          | none =>
            have hadd : addZ r = none := by unfold addZ; rw [← HZA.out]
            have hr : Hid (res = (0, [], k + 1, 1)) := HR.out.trans (by rw [restF_bad HNE.out hadd, ← HK.out]; rfl)
            clear hadd
            unfold RZ at HZ1
            go_wp2_with fail
            refine (HZ1.out _).mono ?_
            rintro e w3 ⟨rfl, m3, rfl⟩
            have HB4 : Hid (Below w.heap.size w (wr.drewN m3)) := below_drewN HB.out _
            go_wp2_with fail
            (try simp only [Exit.inBlock, Exit.then])
            refine bodyPost_ret (results_tmp4 rfl _ _ _) rfl ?_
            exact ⟨none, 0, by rw [hr.out, ← HW1.out]; rfl, by rw [hr.out]; exact Nat.le_refl _, by rw [hr.out]; exact Seg.nil, HB4.out⟩
          | some p =>
            obtain ⟨x, a⟩ := p
            obtain ⟨Aa, hAa⟩ : ∃ Aa : ByteArray, Aa = ⟨a.toArray⟩ := ⟨_, rfl⟩
            have HZ1b : Hid (∀ u, Calls Tryd.prog 84 #[.string R, .string { data := #[97, 100, 100, 32] }] u fun e w' => e = .returned (.tuple #[.int .i64 (x : Nat), .string Aa, .bool true]) ∧ ∃ m, w' = u.drewN m) := by rw [hAa]; exact HZ1.out
            clear HZ1
            have HAL : Hid (a.length < r.length) := zstep_len HZA.out.symm
            obtain ⟨z2, hz2⟩ : ∃ z2, z2 = zstepR a [32] := ⟨_, rfl⟩
            have HZ2 : Hid (∀ u, Calls Tryd.prog 84 #[.string Aa, .string { data := #[32] }] u fun e w' => e = .returned (RZ z2) ∧ ∃ m, w' = u.drewN m) := fun u => by rw [hAa, hz2]; exact zstep_any a [32] (by have := HAL.out; have := HLN.out; have := HTL.out; omega) u
            have HZB := Lib.hid hz2
            clear hz2 hAa
            cases z2 with
            | none =>
              have hadd : addZ r = none := by unfold addZ; rw [← HZA.out]; simp only; rw [← HZB.out]
              have hr : Hid (res = (0, [], k + 1, 1)) := HR.out.trans (by rw [restF_bad HNE.out hadd, ← HK.out]; rfl)
              clear hadd
              unfold RZ at HZ2
              go_wp2_with fail
              refine (HZ1b.out _).mono ?_
              rintro e w3 ⟨rfl, m3, rfl⟩
              have HB3 : Hid (Below w.heap.size w (wr.drewN m3)) := below_drewN HB.out _
              have HO3 : Hid ((wr.drewN m3).ownsRow w.heap.size 81 2 (.slice L k c9) k (flat (cp acc))) := HO.out
              clear HO
              generalize wr.drewN m3 = w3 at *
              go_wp2_with fail
              refine (HZ2.out _).mono ?_
              rintro e w4 ⟨rfl, m4, rfl⟩
              have HB4 : Hid (Below w.heap.size w (w3.drewN m4)) := below_drewN HB3.out _
              go_wp2_with fail
              (try simp only [Exit.inBlock, Exit.then])
              refine bodyPost_ret (results_tmp4 rfl _ _ _) rfl ?_
              exact ⟨none, 0, by rw [hr.out, ← HW1.out]; rfl, by rw [hr.out]; exact Nat.le_refl _, by rw [hr.out]; exact Seg.nil, HB4.out⟩
            | some p2 =>
              obtain ⟨d, b⟩ := p2
              obtain ⟨Bb, hBb⟩ : ∃ Bb : ByteArray, Bb = ⟨b.toArray⟩ := ⟨_, rfl⟩
              have HZ2b : Hid (∀ u, Calls Tryd.prog 84 #[.string Aa, .string { data := #[32] }] u fun e w' => e = .returned (.tuple #[.int .i64 (d : Nat), .string Bb, .bool true]) ∧ ∃ m, w' = u.drewN m) := by rw [hBb]; exact HZ2.out
              clear HZ2
              have HBL2 : Hid (b.length < a.length) := zstep_len HZB.out.symm
              rcases eol_facts b Bb hBb with ⟨g1, hb⟩ | ⟨n, c0, g1, g2, g3, g4, g5, hb⟩ | ⟨n, r2, g1, g2, hn, g4, g5, hb⟩
              · have hadd : addZ r = none := by unfold addZ; rw [← HZA.out]; simp only; rw [← HZB.out]; simp only [hb, Option.map_none]
                have hr : Hid (res = (0, [], k + 1, 1)) := HR.out.trans (by rw [restF_bad HNE.out hadd, ← HK.out]; rfl)
                clear hadd hb hBb
                go_wp2_with fail
                refine (HZ1b.out _).mono ?_
                rintro e w3 ⟨rfl, m3, rfl⟩
                have HB3 : Hid (Below w.heap.size w (wr.drewN m3)) := below_drewN HB.out _
                have HO3 : Hid ((wr.drewN m3).ownsRow w.heap.size 81 2 (.slice L k c9) k (flat (cp acc))) := HO.out
                clear HO
                generalize wr.drewN m3 = w3 at *
                go_wp2_with fail
                refine (HZ2b.out _).mono ?_
                rintro e w4 ⟨rfl, m4, rfl⟩
                have HB4 : Hid (Below w.heap.size w (w3.drewN m4)) := below_drewN HB3.out _
                go_wp2_with fail
                (try simp only [Exit.inBlock, Exit.then])
                refine bodyPost_ret (results_tmp4 rfl _ _ _) rfl ?_
                exact ⟨none, 0, by rw [hr.out, ← HW1.out]; rfl, by rw [hr.out]; exact Nat.le_refl _, by rw [hr.out]; exact Seg.nil, HB4.out⟩
              · have hadd : addZ r = none := by unfold addZ; rw [← HZA.out]; simp only; rw [← HZB.out]; simp only [hb, Option.map_none]
                have hr : Hid (res = (0, [], k + 1, 1)) := HR.out.trans (by rw [restF_bad HNE.out hadd, ← HK.out]; rfl)
                clear hadd hb hBb
                go_wp2_with fail
                refine (HZ1b.out _).mono ?_
                rintro e w3 ⟨rfl, m3, rfl⟩
                have HB3 : Hid (Below w.heap.size w (wr.drewN m3)) := below_drewN HB.out _
                have HO3 : Hid ((wr.drewN m3).ownsRow w.heap.size 81 2 (.slice L k c9) k (flat (cp acc))) := HO.out
                clear HO
                generalize wr.drewN m3 = w3 at *
                go_wp2_with fail
                refine (HZ2b.out _).mono ?_
                rintro e w4 ⟨rfl, m4, rfl⟩
                have HB4 : Hid (Below w.heap.size w (w3.drewN m4)) := below_drewN HB3.out _
                go_wp2_with fail
                (try simp only [Exit.inBlock, Exit.then])
                refine bodyPost_ret (results_tmp4 rfl _ _ _) rfl ?_
                exact ⟨none, 0, by rw [hr.out, ← HW1.out]; rfl, by rw [hr.out]; exact Nat.le_refl _, by rw [hr.out]; exact Seg.nil, HB4.out⟩
              · have hadd : addZ r = some (x, d, r2) := by unfold addZ; rw [← HZA.out]; simp only; rw [← HZB.out]; simp only [hb, Option.map_some]
                have hr : Hid (res = finR room (restF (acc ++ [(x, d)]) r2)) := HR.out.trans (by rw [restF_step hadd])
                have HN2 : Hid (r2.length < r.length) := addZ_less hadd
                have g6 : (1 : Int) ≤ (n : Int) := by omega
                have g7 : (0 : Int) < (n : Int) := by omega
                obtain ⟨R2, hR2⟩ : ∃ R2 : ByteArray, R2 = ⟨r2.toArray⟩ := ⟨_, rfl⟩
                rw [← hR2] at g5
                have HR2 := Lib.hid hR2
                have HK4 : Hid (k ≤ 8000000000000) := by have := HLN.out; have := HTL.out; unfold Hid; omega
                clear hadd hb hBb hn hR2
                go_wp2_with fail
                refine (HZ1b.out _).mono ?_
                rintro e w3 ⟨rfl, m3, rfl⟩
                have HB3 : Hid (Below w.heap.size w (wr.drewN m3)) := below_drewN HB.out _
                have HO3 : Hid ((wr.drewN m3).ownsRow w.heap.size 81 2 (.slice L k c9) k (flat (cp acc))) := HO.out
                clear HO
                generalize wr.drewN m3 = w3 at *
                go_wp2_with fail
                refine (HZ2b.out _).mono ?_
                rintro e w4 ⟨rfl, m4, rfl⟩
                have HB4 : Hid (Below w.heap.size w (w3.drewN m4)) := below_drewN HB3.out _
                have HO4 : Hid ((w3.drewN m4).ownsRow w.heap.size 81 2 (.slice L k c9) k (flat (cp acc))) := HO3.out
                clear HO3
                generalize w3.drewN m4 = w4 at *
                go_wp2_with fail
                --LOOK3
                have HOA : Hid ((w4.alloc (.cells #[.int .i64 (x : Int), .int .i64 (d : Int)] 81)).ownsRow w.heap.size 81 2 (.slice L k c9) k (flat (cp acc))) := World.ownsRow.alloc HO4.out _
                have HCA : Hid (∀ j u, [Value.int .i64 (x : Int), .int .i64 (d : Int)][j]? = some u → (w4.alloc (.cells #[.int .i64 (x : Int), .int .i64 (d : Int)] 81)).cell? ((⟨w4.heap.size, 0, none⟩ : Addr).add j) = some u) := crow_new2 _ _ _ _
                have HSA : Hid (w.heap.size ≤ (w4.alloc (.cells #[.int .i64 (x : Int), .int .i64 (d : Int)] 81)).heap.size) := by have := HB4.out.size; unfold Hid; simp; omega
                have HBA : Hid (Below w.heap.size w (w4.alloc (.cells #[.int .i64 (x : Int), .int .i64 (d : Int)] 81))) := HB4.out.alloc HB4.out.size _
                go_region_law (refine step_pushC _ rfl _ _ rfl w.heap.size (.slice L k c9) k (flat (cp acc)) (by simp [Act.eval]) HOA.out x d ⟨w4.heap.size, 0, none⟩ 1 (by simp [Act.eval]) HCA.out HK4.out HSA.out ?_; intro v6 w6 hown6 hbel6 hgr6; have HO6 := Lib.hid hown6; have HB6 : Hid (Below w.heap.size w w6) := (by first | exact HBA.out.trans hbel6 | exact HBA.out.trans (below_of_drew hbel6)); clear hown6 hbel6 hgr6)
                all_goals go_wp2_with fail
                all_goals
                  have HO7 : Hid (w6.ownsRow w.heap.size 81 2 v6 (k + 1) (flat (cp (acc ++ [(x, d)])))) := by rw [cp_snoc]; exact HO6.out
                  have HK7 : Hid (k + 1 = (acc ++ [(x, d)]).length) := by rw [List.length_append, ← HK.out]; rfl
                  have HL7 : Hid (k + 1 + r2.length ≤ t.length) := by have := HLN.out; have := HN2.out; unfold Hid; omega
                  refine ⟨?_, ?_⟩
                  · (repeat apply Exists.intro)
                    exact ⟨⟨acc ++ [(x, d)], r2, R2, k + 1, rfl, HR2.out, HK7, HO7, hr.out, HL7, HB6.out⟩, rfl⟩
                  · show R2.size < R.size
                    rw [HR2.out, HRR.out]
                    exact HN2.out
end Go.Proofs.YtmibifmabkaakaaDoor
