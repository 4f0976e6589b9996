/- Drawing one number behind the other, walked twice. No condition. -/
import Derived.Test.YtmibifmabkaakaaDoorTapC
import Derived.Test.YtmibifmabkaakaaDoorHeld
namespace Go.Proofs.YtmibifmabkaakaaDoor
open Go.ChangeShapes Go.WideShapes Go.ChangeAt Go.RowKit
set_option linter.unusedVariables false

theorem wp_push {P : Program} (w : World) {o : Oper} {a : Act} {K : Act → World → Prop} {Q : Exit → Act → World → Prop} (s x : Operand) (t e : TypeId) (b : Nat)
    (E1 : Elem1 P t e b) (ho : o.op = .call { callee := .builtin .append, args := #[s, x], argTypes := #[t, t] })
    (base : Nat) (v : Value) (xs : List Value) (hs : a.eval s = v) (hown : Own w base e v xs) (u : Value) (ad : Addr) (c : Nat) (hx : a.eval x = .slice (some ad) 1 c)
    (hc : w.cell? ad = some u) (hu : u.oneCell' = true) (hb : (xs.length + 1) * b ≤ 140737488355328) (hm : xs.length + 1 ≤ maxLen) (hbase : base ≤ w.heap.size)
    (h : ∀ v' w', Own w' base e v' (xs ++ [u]) → Below base w w' → K (a.put o.dst v') w') : o.wp P a w K Q := by
  obtain ⟨ht, i, z, hi, hz, hsz, hby, hzs⟩ := E1
  refine wp_append_own w s x t ho base e i z 1 b ht hi hz hsz hby hzs (by decide) v xs.length xs hs hown ad 1 c [u] hx rfl (fun j y hy => ?_) (by simpa using hu) hm hb hbase ?_
  · have hj : j = 0 := by
      have := (List.getElem?_eq_some_iff.1 hy).1
      simp at this
      exact this
    subst hj
    simp at hy
    subst hy
    rw [show ad.add 0 = ad by simp [Addr.add]]
    exact hc
  · intro v' w' h1 h2 _
    exact h v' w' (Own.to h1) ((Below.refl _ _).grown h2 hbase hown.block)
theorem seg_drop {w : World} {B c u : Nat} {ad : Addr} {t : List Bool} (h : Seg w B (some ad) (t.map .bool)) (hc : t.length ≤ c) : Seg w B (if c = u then some ad else some (ad.add u)) ((t.drop u).map .bool) := by
  by_cases e : c = u
  · have : t.drop u = [] := List.drop_eq_nil_of_le (by omega)
    rw [this]; exact Seg.nil
  · rw [if_neg e, List.map_drop]; exact h.cut u
theorem pmany_cons (t : List Bool) (l : List Int) (j u : Nat) (out : List Int) (h : j < l.length) : pmany t (l.drop j) u out = if (pbelow (t.drop u) l[j]).2.2 ≠ 0 then ([], 0, (pbelow (t.drop u) l[j]).2.2) else pmany t (l.drop (j + 1)) (u + (pbelow (t.drop u) l[j]).2.1.toNat) (out ++ [(pbelow (t.drop u) l[j]).1]) := by
  rw [List.drop_eq_getElem_cons h]; rfl
/-- The answer of Many: R. -/
def ManyOut (w w' : World) (e : Ending) (R : List Int × Int × Int) : Prop :=
  ∃ A c, e = .returned (.tuple #[.slice A R.1.length c, .int .i64 R.2.1, .int .i64 R.2.2]) ∧ Seg w' w'.heap.size A (R.1.map (.int .i64)) ∧ Below w.heap.size w w'
set_option maxRecDepth 20000 in
set_option maxHeartbeats 4000000 in
theorem many_any (t : List Bool) (l : List Int) (A C : Option Addr) (c d : Nat) (w : World) (hs : Seg w w.heap.size A (t.map .bool)) (hl : Seg w w.heap.size C (l.map (.int .i64))) (hc : t.length ≤ c) (hm : (t.length : Int) ≤ 9223372036854775000) (hml : l.length < 17592186044416) (R : List Int × Int × Int) (hR : Hid (pmany t l 0 [] = R)) :
    Calls Tryd.prog 29 #[.slice A t.length c, .slice C l.length d] w fun e w' => ManyOut w w' e R := by
  have HS := Lib.hid hs
  have HL := Lib.hid hl
  clear hs hl
  go_enter Tryd.func29, Tryd.ntmps29
  go_wp2_with fail
  go_loopw [7, 8, 16] (fun s7 s8 s16 wr => ∃ (j U : Nat) (out : List Int), j ≤ l.length ∧ s16 = .int .i64 j ∧ U ≤ t.length ∧ s8 = .int .i64 U ∧ out.length ≤ j ∧ Own wr w.heap.size 3 s7 (out.map (.int .i64)) ∧ Hid (pmany t (l.drop j) U out = R) ∧ Below w.heap.size w wr) (fun _ _ s16 _ => l.length - (intOf s16).toNat)
  case atStart => exact ⟨0, 0, [], Nat.zero_le _, rfl, Nat.zero_le _, rfl, Nat.zero_le _, Own.none_, hR, Below.refl _ _⟩
  case round =>
    obtain ⟨j, U, out, hj, rfl, hU, rfl, hol, hown, hp, hbel⟩ := hrel
    have HOW := Lib.hid hown
    have HB := Lib.hid hbel
    have HSZ := Lib.hid hbel.size
    clear hown hbel
    by_cases hlt : j < l.length
    · have i1 : (j : Int) < (l.length : Int) := by omega
      obtain ⟨ad2, rfl, _, hcell⟩ := (HL.out.below HB.out).int hlt
      have hq := pmany_cons t l j U out hlt
      have hub := pbelow_used (t.drop U) l[j]
      have HBW : Hid (∀ A' c', Seg wr w.heap.size A' ((t.drop U).map .bool) → (t.drop U).length ≤ c' → Calls Tryd.prog 73 #[.slice A' (t.drop U).length c', .int .i64 l[j]] wr fun e w' => e = V3 (pbelow (t.drop U) l[j]) ∧ wr = w') := fun A' c' h1 h2 => below_any (t.drop U) A' c' _ l[j] wr h1 h2 (by rw [List.length_drop]; omega)
      have HQ : Hid (R = _) := hp.out.symm.trans hq
      clear hq hp
      rw [List.length_drop] at hub HBW
      have HSU := Lib.hid (HS.out.below HB.out)
      obtain ⟨⟨x, u, e⟩, hr⟩ : ∃ r, r = pbelow (t.drop U) l[j] := ⟨_, rfl⟩
      rw [← hr] at HQ HBW hub
      clear hr
      generalize l[j] = m at *
      obtain ⟨V, rfl⟩ : ∃ V : Nat, u = V := ⟨u.toNat, by have := hub.1; simp at this; omega⟩
      have hVU : V ≤ t.length - U := by have := hub.2; simp at this; omega
      clear hub
      have i2 : (U : Int) ≤ (t.length : Int) := by omega
      have HQE : Hid (e ≠ 0 → R = ([], 0, e)) := fun h => by rw [HQ.out, if_pos h]
      have HQO : Hid (e = 0 → pmany t (l.drop (j + 1)) (U + V) (out ++ [x]) = R) := fun h => by rw [HQ.out, if_neg (fun h2 => h2 h)]; rfl
      clear HQ
      cases A with
      | none =>
        have ht0 : t.length = 0 := by
          rcases Nat.eq_zero_or_pos t.length with h | h
          · exact h
          · obtain ⟨_, h2, _⟩ := HSU.out.bool h
            cases h2
        have hu0 : U = 0 := by omega
        have hsd : Seg wr w.heap.size none ((t.drop U).map .bool) := by
          have : t.drop U = [] := List.drop_eq_nil_of_le (by omega)
          rw [this]; exact Seg.nil
        have HSD := Lib.hid hsd
        clear hsd
        have HT0 := Lib.hid ht0
        have HU0 := Lib.hid hu0
        clear ht0 hu0
        go_wp2_with fail
        refine (HBW.out _ _ HSD.out ?_).mono ?_
        · have := HT0.out; omega
        rintro r w' ⟨rfl, rfl⟩
        by_cases he : e = 0
        · subst he
          have HR := Lib.hid (HQO.out rfl)
          go_wp2_with (first
            | (at_builtin; go_must (refine wpList_push _ rfl _ _ 23 3 8 elem_ints rfl w.heap.size _ _ rfl (Own.alloc' HOW.out _) (.int .i64 x) ⟨wr.heap.size, 0, none⟩ 1 rfl (cell_new1 _ _ _) rfl (by rw [List.length_map]; omega) (by rw [List.length_map]; unfold maxLen; omega) (by simp; exact Nat.le_succ_of_le HSZ.out) ?_); intro v3 w3 hown3 hbel3; have HO3 := Lib.hid hown3; have HB3 := Lib.hid hbel3; clear hown3 hbel3)
            | fail)
          go_roundw
          case rel =>
            refine ⟨j + 1, U + V, out ++ [x], by omega, by go_num, by omega, by go_num, by simp; omega, ?_, HR, (HB.out.alloc HSZ.out _).trans HB3.out⟩
            rw [List.map_append]; exact HO3.out
          case measure => simp [intOf]; omega
        · have HR := Lib.hid (HQE.out he)
          have d1 : (e != 0) = true := by simpa using he
          clear he
          go_wp2_with fail
          refine bodyPost_ret (v := .tuple #[.slice none 0 0, .int .i64 0, .int .i64 e]) (by simp [results, Tryd.results29, go_sem]) rfl ⟨none, 0, by rw [HR.out]; rfl, by rw [HR.out]; exact Seg.nil, HB.out⟩
      | some ad =>
        by_cases hcu : U = c
        · subst hcu
          have hsd := seg_drop (u := U) HSU.out hc
          rw [if_pos rfl] at hsd
          rw [show t.length - U = 0 by omega] at HBW
          have HSD := Lib.hid hsd
          clear hsd
          go_wp2_with fail
          refine (HBW.out _ _ HSD.out ?_).mono ?_
          · omega
          rintro r w' ⟨rfl, rfl⟩
          by_cases he : e = 0
          · subst he
            have HR := Lib.hid (HQO.out rfl)
            go_wp2_with (first
              | (at_builtin; go_must (refine wpList_push _ rfl _ _ 23 3 8 elem_ints rfl w.heap.size _ _ rfl (Own.alloc' HOW.out _) (.int .i64 x) ⟨wr.heap.size, 0, none⟩ 1 rfl (cell_new1 _ _ _) rfl (by rw [List.length_map]; omega) (by rw [List.length_map]; unfold maxLen; omega) (by simp; exact Nat.le_succ_of_le HSZ.out) ?_); intro v3 w3 hown3 hbel3; have HO3 := Lib.hid hown3; have HB3 := Lib.hid hbel3; clear hown3 hbel3)
              | fail)
            go_roundw
            case rel =>
              refine ⟨j + 1, U + V, out ++ [x], by omega, by go_num, by omega, by go_num, by simp; omega, ?_, HR, (HB.out.alloc HSZ.out _).trans HB3.out⟩
              rw [List.map_append]; exact HO3.out
            case measure => simp [intOf]; omega
          · have HR := Lib.hid (HQE.out he)
            have d1 : (e != 0) = true := by simpa using he
            clear he
            go_wp2_with fail
            refine bodyPost_ret (v := .tuple #[.slice none 0 0, .int .i64 0, .int .i64 e]) (by simp [results, Tryd.results29, go_sem]) rfl ⟨none, 0, by rw [HR.out]; rfl, by rw [HR.out]; exact Seg.nil, HB.out⟩
        · have hsd := seg_drop (u := U) HSU.out hc
          rw [if_neg (fun h => hcu h.symm)] at hsd
          have hcu2 : ¬ c = U := fun h => hcu h.symm
          have HSD := Lib.hid hsd
          clear hsd
          go_wp2_with fail
          refine (HBW.out _ _ HSD.out ?_).mono ?_
          · omega
          rintro r w' ⟨rfl, rfl⟩
          by_cases he : e = 0
          · subst he
            have HR := Lib.hid (HQO.out rfl)
            go_wp2_with (first
              | (at_builtin; go_must (refine wpList_push _ rfl _ _ 23 3 8 elem_ints rfl w.heap.size _ _ rfl (Own.alloc' HOW.out _) (.int .i64 x) ⟨wr.heap.size, 0, none⟩ 1 rfl (cell_new1 _ _ _) rfl (by rw [List.length_map]; omega) (by rw [List.length_map]; unfold maxLen; omega) (by simp; exact Nat.le_succ_of_le HSZ.out) ?_); intro v3 w3 hown3 hbel3; have HO3 := Lib.hid hown3; have HB3 := Lib.hid hbel3; clear hown3 hbel3)
              | fail)
            go_roundw
            case rel =>
              refine ⟨j + 1, U + V, out ++ [x], by omega, by go_num, by omega, by go_num, by simp; omega, ?_, HR, (HB.out.alloc HSZ.out _).trans HB3.out⟩
              rw [List.map_append]; exact HO3.out
            case measure => simp [intOf]; omega
          · have HR := Lib.hid (HQE.out he)
            have d1 : (e != 0) = true := by simpa using he
            clear he
            go_wp2_with fail
            refine bodyPost_ret (v := .tuple #[.slice none 0 0, .int .i64 0, .int .i64 e]) (by simp [results, Tryd.results29, go_sem]) rfl ⟨none, 0, by rw [HR.out]; rfl, by rw [HR.out]; exact Seg.nil, HB.out⟩
    · have i1 : ¬ (j : Int) < (l.length : Int) := by omega
      have HE : Hid (R = (out, (U : Int), 0)) := by
        unfold Hid
        rw [← hp.out, List.drop_eq_nil_of_le (by omega)]; rfl
      obtain ⟨A3, c3, rfl, hc3, hsg⟩ := HOW.out.res
      have HSG := Lib.hid hsg
      clear hsg hc3
      rw [List.length_map]
      go_wp2_with fail
      refine bodyPost_ret (v := .tuple #[.slice A3 out.length c3, .int .i64 U, .int .i64 0]) (by simp [results, Tryd.results29, go_sem]) rfl ⟨A3, c3, by rw [HE.out], by rw [HE.out]; exact HSG.out, HB.out⟩
end Go.Proofs.YtmibifmabkaakaaDoor
