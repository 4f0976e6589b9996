/- Package bench: numbers, walked. No condition but the text's own size and the library's tables. -/
import Derived.Test.YtmibifmabkaakaaDoorBenY
import Derived.Test.YtmibifmabkaakaaDoorBase2
namespace Go.Proofs.YtmibifmabkaakaaDoor
open Go.ChangeShapes Go.WideShapes Go.ChangeAt Go.RowKit
set_option linter.unusedVariables false

theorem piece_len (c : UInt8) : ∀ (n : Nat) (l : Bs), l.length ≤ n → ∀ s ∈ Lib.split l [c], s.length ≤ l.length := by
  intro n
  induction n with
  | zero =>
    intro l hl s hs
    have : l = [] := List.length_eq_zero_iff.1 (by omega)
    subst this
    rw [split_none (by simp)] at hs
    rw [List.mem_singleton.1 hs]
    exact Nat.le_refl _
  | succ n ih =>
    intro l hl s hs
    rcases first_occ c l with h | ⟨a, r, h, rfl⟩
    · rw [split_none h] at hs
      rw [List.mem_singleton.1 hs]
      exact Nat.le_refl _
    · rw [split_at r h] at hs
      rw [List.length_append, List.length_cons] at hl ⊢
      rcases List.mem_cons.1 hs with e | e
      · rw [e]; omega
      · have := ih r (by omega) s e
        omega
def ivs (l : List Nat) : List Value := l.map fun (n : Nat) => Value.int .i64 (n : Int)
/-- What numbers hands back. -/
def NuOut (w : World) (r : Option (List Nat)) (e : Ending) (w' : World) : Prop :=
  match r with
  | none => e = .returned (.tuple #[.slice none 0 0, .bool false]) ∧ Below w.heap.size w w'
  | some l => ∃ A c, e = .returned (.tuple #[.slice A l.length c, .bool true]) ∧ Seg w' w'.heap.size A (ivs l) ∧ Below w.heap.size w w'
theorem allOk_step {s : Bs} {r : List Bs} {n : Nat} (h : numOkR s = some n) : allOk (s :: r) = (allOk r).map (n :: ·) := by
  conv => lhs; unfold allOk
  rw [h]
theorem allOk_stop {s : Bs} {r : List Bs} (h : numOkR s = none) : allOk (s :: r) = none := by
  unfold allOk
  rw [h]
theorem numOk_le {s : Bs} {n : Nat} (h : numOkR s = some n) : (n : Int) ≤ 1099511627776 := by
  have h1 : n ≤ 1099511627776 := ((numOk_iff s n).1 h).1
  omega
theorem addr_zero (ad : Addr) : ad.add 0 = ad := by unfold Addr.add; rw [if_pos rfl]
theorem badd' {ad : Addr} {k B : Nat} (h : ad.block < B) : (ad.add k).block < B := by rw [addr_block]; exact h
theorem seg_head {w : World} {B : Nat} {A : Option Addr} {xs : List Value} (h : Seg w B A xs) (h0 : 0 < xs.length) : ∃ ad, A = some ad ∧ Seg w B (some (ad.add 1)) (xs.drop 1) := by
  obtain ⟨ad, rfl, _⟩ := h h0
  exact ⟨ad, rfl, h.cut 1⟩
set_option maxRecDepth 20000 in
set_option maxHeartbeats 4000000 in
theorem numbers_any (line word : Bs) (many : Nat) (hl : line.length ≤ 4000000000) (hm1 : 1 ≤ many) (hm : many ≤ 2) (w : World) (hL : LibW w) :
    Calls Tryd.prog 83 #[SV line, SV word, .int .i64 (many : Nat)] w fun e w' => NuOut w (numsP line word many) e w' := by
  obtain ⟨res, hres⟩ : ∃ res, res = numsP line word many := ⟨_, rfl⟩
  rw [← hres]
  obtain ⟨ps, hps⟩ : ∃ ps, ps = Lib.split line [32] := ⟨_, rfl⟩
  have HPL : Hid (∀ s ∈ ps, s.length ≤ 4000000000) := fun s hs => by
    rw [hps] at hs
    have := piece_len 32 _ line (Nat.le_refl _) s hs
    omega
  have HRES : Hid (res = if ps.length = many + 1 ∧ ps.head? = some word then allOk ps.tail else none) := by unfold Hid; rw [hres, hps]; rfl
  have hne : ps ≠ [] := by rw [hps]; exact split_ne _ _
  obtain ⟨LB, hLB⟩ : ∃ LB : ByteArray, LB = ⟨line.toArray⟩ := ⟨_, rfl⟩
  obtain ⟨WB, hWB⟩ : ∃ WB : ByteArray, WB = ⟨word.toArray⟩ := ⟨_, rfl⟩
  rw [show SV line = Value.string LB by rw [hLB], show SV word = Value.string WB by rw [hWB]]
  obtain ⟨p, hp⟩ : ∃ p, p = ps.length := ⟨_, rfl⟩
  have HSP : Hid (∀ u, LibW u → Calls Tryd.prog 99 #[.string LB, .string { data := #[32] }] u fun e w' => ∃ A, e = .returned (.slice A p p) ∧ Seg w' w'.heap.size A (ps.map SV) ∧ Below u.heap.size u w') := fun u hu => by
    rw [hp, hps, hLB]; exact split_any line 32 (by omega) u hu
  have HLW := Lib.hid hL
  have HWB := Lib.hid hWB
  clear hres hps hLB hWB hl hL
  obtain ⟨w0, tl, rfl⟩ : ∃ w0 tl, ps = w0 :: tl := by cases ps with | nil => exact absurd rfl hne | cons a b => exact ⟨a, b, rfl⟩
  obtain ⟨W0, hW0⟩ : ∃ W0 : ByteArray, W0 = ⟨w0.toArray⟩ := ⟨_, rfl⟩
  have heqw : (W0.toList == WB.toList) = decide (w0 = word) := by
    rw [hW0, HWB.out, Lib.toList_data, Lib.toList_data]
    by_cases h : w0 = word
    · rw [h]; simp
    · rw [decide_eq_false h, beq_eq_false_iff_ne]; exact h
  have HP := Lib.hid hp
  have HW0 := Lib.hid hW0
  have hpos : 0 < p := by rw [hp]; simp
  clear hne hW0
  by_cases hc : p = many + 1
  · have um : wrap64 ((many : Int) + 1) = (p : Int) := by rw [wr64 _ (by omega) (by omega)]; omega
    by_cases hw0 : w0 = word
    · rw [decide_eq_true hw0] at heqw
      have HR : Hid (res = allOk tl) := HRES.out.trans (if_pos ⟨by rw [← HP.out]; exact hc, by rw [hw0]; rfl⟩)
      have i1 : (1 : Int) ≤ (p : Int) := by omega
      have i2 : (1 : Int) < (p : Int) := by omega
      have i3 : 1 < p := by omega
      have i4 : ¬ p = 1 := by omega
      have HP3 : Hid (p ≤ 3) := by unfold Hid; omega
      clear hp hc hw0 hm hm1
      go_enter Tryd.func83, Tryd.ntmps83
      go_wp2_with fail
      refine (HSP.out _ HLW.out).mono ?_
      rintro e w2 ⟨A2, rfl, hs2, hb2⟩
      have HS2 := Lib.hid hs2
      have HB2 := Lib.hid hb2
      obtain ⟨ad, rfl, _, hc0⟩ := hs2.get (k := 0) (u := .string W0) (by rw [HW0.out]; rfl)
      rw [addr_zero] at hc0
      clear hs2 hb2 HSP
      go_wp2_with fail
      have hadd1 : (⟨ad.block, ad.off + 1, none⟩ : Addr) = ad.add 1 := by unfold Addr.add; rw [if_neg (by decide)]
      have HT : Hid (Seg w2 w2.heap.size (some (ad.add 1)) (tl.map SV)) := HS2.out.cut 1
      rw [hadd1]
      obtain ⟨ae, hae⟩ : ∃ ae, ae = ad.add 1 := ⟨_, rfl⟩
      rw [← hae] at HT ⊢
      obtain ⟨m, hm⟩ : ∃ m, m = p - 1 := ⟨_, rfl⟩
      rw [← hm]
      have HM : Hid (m = tl.length ∧ m ≤ 2) := ⟨by rw [hm, HP.out]; rfl, by have := HP3.out; omega⟩
      clear hm hae hadd1 hc0 i1 i2 i3 i4 heqw um hpos HS2
      go_loopw [9, 31] (fun s9 s31 wx => ∃ (k : Nat) (ns : List Nat), k ≤ m ∧ s31 = .int .i64 k ∧ Hid (Own wx w2.heap.size 3 s9 (ivs ns)) ∧ Hid (ns.length = k) ∧ Hid (res = (allOk (tl.drop k)).map (ns ++ ·)) ∧ Hid (Below w2.heap.size w2 wx)) (fun _ s31 _ => m - (intOf s31).toNat)
      case atStart => exact ⟨0, [], Nat.zero_le _, rfl, Own.none_, rfl, by unfold Hid; rw [HR.out, List.drop_zero]; cases allOk tl <;> rfl, Below.refl _ _⟩
      case round =>
        obtain ⟨k, ns, hkm, rfl, HO, HNS, HRR, HBX⟩ := hrel
        by_cases hlt : k < m
        · have hk2 : k < tl.length := by rw [← HM.out.1]; exact hlt
          have i1 : (k : Int) < (m : Int) := by omega
          obtain ⟨_, e1, hbl, hc1⟩ := HT.out.get (k := k) (u := SV tl[k]) (by rw [List.getElem?_map, List.getElem?_eq_getElem hk2]; rfl)
          injection e1 with e1
          subst e1
          have hc2 : wr.cell? (ae.add k) = some (SV tl[k]) := by rw [HBX.out.cell (p := ae.add k) (badd' hbl)]; exact hc1
          have hsl := HPL.out tl[k] (List.mem_cons_of_mem _ (List.getElem_mem hk2))
          have hdrop : tl.drop k = tl[k] :: tl.drop (k + 1) := List.drop_eq_getElem_cons hk2
          have HDR : Hid (tl.drop k = tl[k] :: tl.drop (k + 1)) := hdrop
          have ui : Hid (wrap64 ((k : Int) + 1) = ((k + 1 : Nat) : Int)) := by have := HM.out.2; unfold Hid; rw [wr64 _ (by omega) (by omega)]; omega
          have HK := Lib.hid hlt
          have HLX : Hid (LibW wr) := HLW.out.below (HB2.out.trans (HBX.out.mono HB2.out.size))
          obtain ⟨s, hs⟩ : ∃ s, s = tl[k] := ⟨_, rfl⟩
          rw [← hs] at hc2 hsl HDR
          obtain ⟨SB, hSB⟩ : ∃ SB : ByteArray, SB = ⟨s.toArray⟩ := ⟨_, rfl⟩
          rw [show SV s = Value.string SB by rw [hSB]] at hc2
          clear hs hdrop hc1 hbl hlt hkm hk2
          rcases numOk_atoi s with ⟨v, a1, a2, a3, a4, a5⟩ | ⟨a1, a2⟩
          · obtain ⟨n, rfl⟩ : ∃ n : Nat, v = (n : Int) := ⟨v.toNat, by omega⟩
            rw [Int.toNat_natCast] at a5
            have HA : Hid (Calls Tryd.prog 100 #[.string SB] wr fun e w' => e = .returned (.tuple #[.int .i64 (n : Nat), .nilIface]) ∧ Below wr.heap.size wr w') := by rw [hSB]; exact atoi_ok s (by omega) _ a1 wr
            have HF : Hid (∀ u, Calls Tryd.prog 79 #[.int .i64 (n : Nat)] u fun e w' => e = .returned (.bool true) ∧ u = w') := fun u => by
              have h := fits_any (n : Int) u
              rw [decide_eq_true ⟨a2, a3⟩] at h
              exact h
            have HI : Hid (∀ u, LibW u → Calls Tryd.prog 76 #[.int .i64 (n : Nat)] u fun e w' => e = .returned (.string SB) ∧ Below u.heap.size u w') := fun u hu => by
              have h := itoa_any (n : Int) (by omega) (by omega) u hu
              rw [a4] at h
              rw [hSB]
              exact h
            have HR2 : Hid (res = (allOk (tl.drop (k + 1))).map ((ns ++ [n]) ++ ·)) := by
              unfold Hid
              rw [HRR.out, HDR.out, allOk_step a5, Option.map_map]
              congr 1
              funext l
              simp
            clear a1 a2 a3 a4 a5 hsl hSB
            go_wp2_with fail
            refine (HA.out).mono ?_
            rintro e w3 ⟨rfl, hb3⟩
            have HB3 : Hid (Below w2.heap.size w2 w3) := HBX.out.trans (hb3.mono HBX.out.size)
            have HX3 := Lib.hid hb3
            clear hb3
            go_wp2_with fail
            refine (HF.out _).mono ?_
            rintro e w4 ⟨rfl, rfl⟩
            go_wp2_with fail
            refine (HI.out _ (HLW.out.below (HB2.out.trans (HB3.out.mono HB2.out.size)))).mono ?_
            rintro e w4 ⟨rfl, hb4⟩
            have HB4 : Hid (Below w2.heap.size w2 w4) := HB3.out.trans (hb4.mono HB3.out.size)
            have HX4 : Hid (Below wr.heap.size wr w4) := HX3.out.trans (hb4.mono HX3.out.size)
            clear hb4 HX3 HB3
            have HO4 := Lib.hid (HO.out.below HX4.out (Nat.le_refl _))
            have HNB : Hid (((ivs ns).length + 1) * 8 ≤ 140737488355328 ∧ (ivs ns).length + 1 ≤ maxLen) := by
              have h1 := HNS.out
              have h2 := HM.out
              have h3 := HK.out
              unfold Hid ivs maxLen
              rw [List.length_map]
              omega
            have HSZ : Hid (w2.heap.size ≤ (w4.alloc (.cells #[.int .i64 (n : Int)] 3)).heap.size) := by have := HB4.out.size; unfold Hid; simp; omega
            go_wp2_with (first | (at_builtin; go_must (refine wpList_push _ rfl _ _ 23 3 8 elem_ints rfl w2.heap.size _ _ rfl (Own.alloc' HO4.out _) (.int .i64 (n : Int)) ⟨w4.heap.size, 0, none⟩ 1 rfl (cell_new1 _ _ _) rfl HNB.out.1 HNB.out.2 HSZ.out ?_); intro v6 w6 hown6 hb6; have HO6 := Lib.hid hown6; have HB6 := Lib.hid hb6; clear hown6 hb6) | fail)
            have HO7 : Hid (Own w6 w2.heap.size 3 v6 (ivs (ns ++ [n]))) := by have h := HO6.out; unfold ivs at h ⊢; rw [List.map_append]; exact h
            have HB7 : Hid (Below w2.heap.size w2 w6) := (HB4.out.alloc HB4.out.size _).trans HB6.out
            have HN7 : Hid ((ns ++ [n]).length = k + 1) := by unfold Hid; rw [List.length_append, HNS.out]; rfl
            go_roundw
            case rel => exact ⟨k + 1, ns ++ [n], HK.out, by first | rfl | rw [ui.out], HO7, HN7, HR2.out, HB7.out⟩
            case measure => (try rw [ui.out]); have := HK.out; simp [intOf]; omega
          · have HR2 : Hid (res = none) := HRR.out.trans (by rw [HDR.out, allOk_stop a1]; rfl)
            by_cases hok : ∃ v, Lib.atoiAll s = .ok v
            · obtain ⟨v, hv⟩ := hok
              have hnot := a2 v hv
              have HA : Hid (Calls Tryd.prog 100 #[.string SB] wr fun e w' => e = .returned (.tuple #[.int .i64 v, .nilIface]) ∧ Below wr.heap.size wr w') := by rw [hSB]; exact atoi_ok s (by omega) _ hv wr
              by_cases hfit : 0 ≤ v ∧ v ≤ 1099511627776
              · have HF : Hid (∀ u, Calls Tryd.prog 79 #[.int .i64 v] u fun e w' => e = .returned (.bool true) ∧ u = w') := fun u => by
                  have h := fits_any v u
                  rw [decide_eq_true hfit] at h
                  exact h
                obtain ⟨IB, hIB⟩ : ∃ IB : ByteArray, IB = ⟨(Lib.itoa v).toArray⟩ := ⟨_, rfl⟩
                have HI : Hid (∀ u, LibW u → Calls Tryd.prog 76 #[.int .i64 v] u fun e w' => e = .returned (.string IB) ∧ Below u.heap.size u w') := fun u hu => by
                  rw [hIB]
                  exact itoa_any v (by omega) (by omega) u hu
                have hcmp : (IB.toList == SB.toList) = false := by
                  rw [hIB, hSB, Lib.toList_data, Lib.toList_data, beq_eq_false_iff_ne]
                  exact fun h => hnot ⟨hfit.1, hfit.2, h⟩
                clear a1 a2 hsl hSB hnot hfit hIB hv
                go_wp2_with fail
                refine (HA.out).mono ?_
                rintro e w3 ⟨rfl, hb3⟩
                have HB3 : Hid (Below w2.heap.size w2 w3) := HBX.out.trans (hb3.mono HBX.out.size)
                clear hb3
                go_wp2_with fail
                refine (HF.out _).mono ?_
                rintro e w4 ⟨rfl, rfl⟩
                go_wp2_with fail
                refine (HI.out _ (HLW.out.below (HB2.out.trans (HB3.out.mono HB2.out.size)))).mono ?_
                rintro e w4 ⟨rfl, hb4⟩
                have HB4 : Hid (Below w2.heap.size w2 w4) := HB3.out.trans (hb4.mono HB3.out.size)
                go_wp2_with fail
                go_ret2
                rw [HR2.out]
                exact ⟨rfl, HB2.out.trans (HB4.out.mono HB2.out.size)⟩
              · have HF : Hid (∀ u, Calls Tryd.prog 79 #[.int .i64 v] u fun e w' => e = .returned (.bool false) ∧ u = w') := fun u => by
                  have h := fits_any v u
                  rw [decide_eq_false hfit] at h
                  exact h
                clear a1 a2 hsl hSB hnot hfit hv
                go_wp2_with fail
                refine (HA.out).mono ?_
                rintro e w3 ⟨rfl, hb3⟩
                have HB3 : Hid (Below w2.heap.size w2 w3) := HBX.out.trans (hb3.mono HBX.out.size)
                clear hb3
                go_wp2_with fail
                refine (HF.out _).mono ?_
                rintro e w4 ⟨rfl, rfl⟩
                go_wp2_with fail
                go_ret2
                rw [HR2.out]
                exact ⟨rfl, HB2.out.trans (HB3.out.mono HB2.out.size)⟩
            · have HA : Hid (Calls Tryd.prog 100 #[.string SB] wr fun e w' => (∃ n t p, e = .returned (.tuple #[.int .i64 n, .iface t p])) ∧ Below wr.heap.size wr w') := by
                rw [hSB]
                exact atoi_bad s (by omega) (fun v hv => hok ⟨v, hv⟩) wr HLX.out
              clear a1 a2 hsl hSB hok
              go_wp2_with fail
              refine (HA.out).mono ?_
              rintro e w3 ⟨⟨an, at_, ap, rfl⟩, hb3⟩
              have HB3 : Hid (Below w2.heap.size w2 w3) := HBX.out.trans (hb3.mono HBX.out.size)
              clear hb3
              go_wp2_with fail
              go_ret2
              rw [HR2.out]
              exact ⟨rfl, HB2.out.trans (HB3.out.mono HB2.out.size)⟩
        · obtain rfl : k = m := by omega
          have HF : Hid (res = some ns) := by
            unfold Hid
            rw [HRR.out, List.drop_of_length_le (by rw [← HM.out.1]; exact Nat.le_refl _)]
            show some (ns ++ []) = some ns
            rw [List.append_nil]
          obtain ⟨A9, c9, rfl, hc9, h9⟩ := HO.out.res2
          have HS9 := Lib.hid h9.seg
          have hlen : (ivs ns).length = ns.length := by unfold ivs; rw [List.length_map]
          rw [hlen]
          have i1 : ¬ (k : Int) < (k : Int) := Int.lt_irrefl _
          clear h9 hc9 hlt hkm hlen
          go_wp2_with fail
          go_ret2
          rw [HF.out]
          exact ⟨A9, c9, rfl, HS9.out, HB2.out.trans (HBX.out.mono HB2.out.size)⟩
    · rw [decide_eq_false hw0] at heqw
      have HR : Hid (res = none) := HRES.out.trans (if_neg fun h => hw0 (by have := h.2; injection this))
      clear hp hc hw0 hm hm1
      go_enter Tryd.func83, Tryd.ntmps83
      go_wp2_with fail
      refine (HSP.out _ HLW.out).mono ?_
      rintro e w2 ⟨A2, rfl, hs2, hb2⟩
      have HB2 := Lib.hid hb2
      obtain ⟨ad, rfl, _, hc0⟩ := hs2.get (k := 0) (u := .string W0) (by rw [HW0.out]; rfl)
      rw [addr_zero] at hc0
      clear hs2 hb2 HSP
      go_wp2_with fail
      go_ret2
      rw [HR.out]
      exact ⟨rfl, HB2.out⟩
  · obtain ⟨q, hq⟩ : ∃ q, q = many + 1 := ⟨_, rfl⟩
    have um : wrap64 ((many : Int) + 1) = (q : Int) := by rw [wr64 _ (by omega) (by omega)]; omega
    have b1 : ((p : Int) != (q : Int)) = true := by rw [bne_iff_ne]; omega
    have HR : Hid (res = none) := HRES.out.trans (if_neg fun h => hc (HP.out.trans h.1))
    clear hp hc hq hm hm1
    go_enter Tryd.func83, Tryd.ntmps83
    go_wp2_with fail
    refine (HSP.out _ HLW.out).mono ?_
    rintro e w2 ⟨A2, rfl, hs2, hb2⟩
    have HB2 := Lib.hid hb2
    clear hs2 hb2 HSP
    go_wp2_with fail
    go_ret2
    rw [HR.out]
    exact ⟨rfl, HB2.out⟩
end Go.Proofs.YtmibifmabkaakaaDoor
