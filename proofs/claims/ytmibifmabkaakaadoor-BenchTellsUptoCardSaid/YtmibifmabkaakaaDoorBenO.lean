/- Slices of pairs that come to a pool: appended onto, read, held one against the other. No condition but the slice's own size. -/
import Derived.Test.YtmibifmabkaakaaDoorBenX
import Derived.Test.YtmibifmabkaakaaDoorAliT
import Derived.Deep.MidRow
namespace Go.Proofs.YtmibifmabkaakaaDoor
open Go.ChangeShapes Go.WideShapes Go.ChangeAt Go.RowKit
set_option linter.unusedVariables false

section
variable {w w' : World} {base size : Nat} {e : TypeId} {v : Value} {n : Nat} {xs : List Value}
theorem crow_shape (h : w.ownsRow base e size v n xs) : ∃ A c, v = .slice A n c := by
  rcases h.2 with ⟨rfl, rfl⟩ | ⟨g, cap, cur, rfl, _⟩
  · exact ⟨_, _, rfl⟩
  · exact ⟨_, _, rfl⟩
theorem crow_block (h : w.ownsRow base e size v n xs) : ∀ k, v.ownBlock = some k → base ≤ k := by
  intro k hk
  rcases h.2 with ⟨rfl, _⟩ | ⟨g, cap, cur, rfl, hg, _⟩
  · simp [Value.ownBlock] at hk
  · simp [Value.ownBlock] at hk; omega
theorem crow_none : w.ownsRow base e size (.slice none 0 0) 0 [] := ⟨by simp, .inl ⟨rfl, rfl⟩⟩
theorem crow_below {B : Nat} (h : w.ownsRow base e size v n xs) (hb : Below B w w') (hB : w.heap.size ≤ B) : w'.ownsRow base e size v n xs := by
  obtain ⟨h1, h2⟩ := h
  refine ⟨h1, ?_⟩
  rcases h2 with h2 | ⟨g, cap, cur, hv, hg, hh, r⟩
  · exact Or.inl h2
  · have hlt : g < w.heap.size := by
      rcases Nat.lt_or_ge g w.heap.size with hlt | hge
      · exact hlt
      · rw [Array.getElem?_eq_none hge] at hh; cases hh
    exact Or.inr ⟨g, cap, cur, hv, hg, by rw [hb.block g (by omega)]; exact hh, r⟩
theorem crow_new2 (w : World) (t : TypeId) (a b : Value) : ∀ j u, [a, b][j]? = some u → (w.alloc (.cells #[a, b] t)).cell? ((⟨w.heap.size, 0, none⟩ : Addr).add j) = some u := by
  intro j u h
  rw [Addr.add_mid, Nat.zero_add]
  exact (Blk.new w t #[a, b]).cell j (by simpa using h)
end
theorem wpList_pushC (w : World) {ops : Array Oper} {rest : List Oper} {o : Oper} {a : Act} {Q : Exit → Act → World → Prop} (hgd : o.guard = none) (s x : Operand)
    (ho : o.op = .call { callee := .builtin .append, args := #[s, x], argTypes := #[74, 74] })
    (base : Nat) (v : Value) (n : Nat) (xs : List Value) (hs : a.eval s = v) (hown : w.ownsRow base 81 2 v n xs) (p q : Int) (ad : Addr) (c : Nat) (hx : a.eval x = .slice (some ad) 1 c)
    (hc : ∀ j u, [Value.int .i64 p, .int .i64 q][j]? = some u → w.cell? (ad.add j) = some u) (hn : n ≤ 8000000000000) (hbase : base ≤ w.heap.size)
    (h : ∀ v' w', w'.ownsRow base 81 2 v' (n + 1) (xs ++ [.int .i64 p, .int .i64 q]) → w.grownBy w' v.ownBlock → wpList Tryd.prog ops Q rest (a.put o.dst v') w') : wpList Tryd.prog ops Q (o :: rest) a w := by
  have hinfo : (Tryd.prog.info? 81).map (fun i => (i.zero, i.size, i.bytes)) = some (some (.agg #[.int .i64 0, .int .i64 0]), 2, 16) := by kernel_rfl
  obtain ⟨i, hi, hzz⟩ := Option.map_eq_some_iff.1 hinfo
  simp only [Prod.mk.injEq] at hzz
  obtain ⟨hz, hsz, hby⟩ := hzz
  exact wpList_append_own w hgd s x _ ho base _ i _ 2 16 Tryd.underlying74 hi hz hsz hby rfl (by decide) v n xs hs hown ad 1 c _ hx rfl hc (by simp [Value.oneCell']) (by unfold maxLen; omega) (by omega) hbase fun v' w' h1 h2 _ => h v' w' h1 h2
theorem step_pushC (w : World) {ops : Array Oper} {o : Oper} {a : Act} {K : Act → World → Prop} {Q : Exit → Act → World → Prop} {E : Prop} (hgd : o.guard = none) (s x : Operand)
    (ho : o.op = .call { callee := .builtin .append, args := #[s, x], argTypes := #[74, 74] })
    (base : Nat) (v : Value) (n : Nat) (xs : List Value) (hs : a.eval s = v) (hown : w.ownsRow base 81 2 v n xs) (p q : Int) (ad : Addr) (c : Nat) (hx : a.eval x = .slice (some ad) 1 c)
    (hc : ∀ j u, [Value.int .i64 p, .int .i64 q][j]? = some u → w.cell? (ad.add j) = some u) (hn : n ≤ 8000000000000) (hbase : base ≤ w.heap.size)
    (h : ∀ v' w', w'.ownsRow base 81 2 v' (n + 1) (xs ++ [.int .i64 p, .int .i64 q]) → Below base w w' → w.grownBy w' v.ownBlock → K (a.put o.dst v') w') :
    if Region.wanted o (yielded ops a.tmps) = true then Oper.wp Tryd.prog o a w K Q else E := by
  have hinfo : (Tryd.prog.info? 81).map (fun i => (i.zero, i.size, i.bytes)) = some (some (.agg #[.int .i64 0, .int .i64 0]), 2, 16) := by kernel_rfl
  obtain ⟨i, hi, hzz⟩ := Option.map_eq_some_iff.1 hinfo
  simp only [Prod.mk.injEq] at hzz
  obtain ⟨hz, hsz, hby⟩ := hzz
  have hw : Region.wanted o (yielded ops a.tmps) = true := by simp [Region.wanted, hgd]
  rw [if_pos hw]
  exact wp_append_own w s x _ ho base _ i _ 2 16 Tryd.underlying74 hi hz hsz hby rfl (by decide) v n xs hs hown ad 1 c _ hx rfl hc (by simp [Value.oneCell']) (by unfold maxLen; omega) (by omega) hbase fun v' w' h1 h2 _ => h v' w' h1 ((Below.refl _ _).grown h2 hbase fun k hk => crow_block hown k hk) h2
theorem crow_pairs {w : World} {base n : Nat} {v : Value} {ps : List (Int × Int)} (h : w.ownsRow base 81 2 v n (flat ps)) : ∃ A c, v = .slice A ps.length c ∧ ps.length ≤ c ∧ Seg w w.heap.size A (flat ps) := by
  have hn : n = ps.length := by have := h.1; rw [flat_len] at this; omega
  subst hn
  rcases h.2 with ⟨rfl, h0⟩ | ⟨g, cap, cur, rfl, _, hh, hn, _⟩
  · have : ps = [] := List.eq_nil_of_length_eq_zero h0
    subst this
    exact ⟨none, 0, rfl, Nat.le_refl _, Seg.nil⟩
  · refine ⟨_, _, rfl, hn, fun hl => ⟨_, rfl, ?_, h.cells (g := g) rfl⟩⟩
    rcases Nat.lt_or_ge g w.heap.size with hlt | hge
    · exact hlt
    · rw [Array.getElem?_eq_none hge] at hh; cases hh
theorem take_step_crs (zs ys : List (Int × Int)) (j : Nat) (h1 : j < zs.length) (h2 : j < ys.length) (h : zs.take j = ys.take j) (e : prat zs j = prat ys j) : zs.take (j + 1) = ys.take (j + 1) := by
  have e1 : prat zs j = zs[j] := by simp [prat, h1]
  have e2 : prat ys j = ys[j] := by simp [prat, h2]
  rw [List.take_succ_eq_append_getElem h1, List.take_succ_eq_append_getElem h2, h, ← e1, ← e2, e]

set_option maxRecDepth 20000 in
set_option maxHeartbeats 2000000 in
theorem eq_crs (zs ys : List (Int × Int)) (A C : Option Addr) (c d B : Nat) (w : World) (hs : Seg w B A (flat zs)) (ht : Seg w B C (flat ys)) (hm : zs.length ≤ 9223372036854775807) :
    Calls Tryd.prog 41 #[.slice A zs.length c, .slice C ys.length d] w fun e w' => e = .returned (.bool (decide (zs = ys))) ∧ ∃ n, w' = w.drewN n := by
  by_cases hl : zs.length = ys.length
  · have b0 : ((zs.length : Int) != (ys.length : Int)) = false := by rw [hl]; simp
    have HL := Lib.hid hl
    have hle : zs.length ≤ ys.length := by omega
    clear hl
    go_enter Tryd.func41, Tryd.ntmps41
    go_wp2
    go_loopw [13] (fun i wr => ∃ j : Nat, j ≤ zs.length ∧ i = .int .i64 j ∧ Hid (zs.take j = ys.take j) ∧ ∃ n, wr = w.drewN n) (fun i _ => zs.length - (intOf i).toNat)
    case atStart => exact ⟨0, Nat.zero_le _, rfl, rfl, 0, rfl⟩
    case round =>
      obtain ⟨j, hj, rfl, hp, n, rfl⟩ := hrel
      by_cases hlt : j < zs.length
      · have hlt2 : j < ys.length := by omega
        have hi1 : (j : Int) < (zs.length : Int) := by omega
        have hi2 : (j : Int) < (ys.length : Int) := by omega
        obtain ⟨ad, rfl, _, hc, hd⟩ := hs.pair hlt
        obtain ⟨ae, rfl, _, hc2, hd2⟩ := ht.pair hlt2
        have hstep := Lib.hid (take_step_crs zs ys j hlt hlt2 hp.out)
        have hnot : Hid (prat zs j ≠ prat ys j → decide (zs = ys) = false) := fun h => decide_eq_false (fun h1 => h (by rw [h1]))
        have HX : Hid ((prat zs j).1 = (prat ys j).1 → (prat zs j).2 = (prat ys j).2 → prat zs j = prat ys j) := fun a b => Prod.ext a b
        have HY : Hid (prat zs j = prat ys j → (prat zs j).1 = (prat ys j).1 ∧ (prat zs j).2 = (prat ys j).2) := fun a => by rw [a]; exact ⟨rfl, rfl⟩
        generalize prat zs j = P at *
        generalize prat ys j = Q at *
        generalize P.1 = x at *
        generalize P.2 = x2 at *
        generalize Q.1 = y at *
        generalize Q.2 = y2 at *
        by_cases he : x = y ∧ x2 = y2
        · obtain ⟨rfl, rfl⟩ := he
          go_wp2
          go_quiet (fail)
          go_wp2
          go_roundw
          case rel => exact ⟨j + 1, by omega, by go_num, hstep.out (HX.out (by trivial) (by trivial)), _, rfl⟩
          case measure => simp [intOf]; omega
        · have hne : Hid (decide (zs = ys) = false) := hnot.out fun h => he (HY.out h)
          rcases (by omega : x ≠ y ∨ (x = y ∧ x2 ≠ y2)) with h1 | ⟨rfl, h1⟩
          · have b1 : (x == y) = false := by simpa using h1
            have b2 : (x = y) = False := eq_false h1
            clear he hstep h1 hnot HX HY
            go_wp2
            go_quiet (fail)
            go_wp2
            go_ret
            exact ⟨by rw [hne.out]; rfl, n + nq, by rw [World.drewN_drewN]⟩
          · have b1 : (x2 == y2) = false := by simpa using h1
            have b2 : (x2 = y2) = False := eq_false h1
            clear he hstep h1 hnot HX HY
            go_wp2
            go_quiet (fail)
            go_wp2
            go_ret
            exact ⟨by rw [hne.out]; rfl, n + nq, by rw [World.drewN_drewN]⟩
      · have heq : Hid (decide (zs = ys) = true) := by
          refine decide_eq_true ?_
          have h1 := hp.out
          rw [List.take_of_length_le (by omega), List.take_of_length_le (by have := HL.out; omega)] at h1
          exact h1
        go_wp2
        go_ret
        exact ⟨by rw [heq.out]; rfl, _, rfl⟩
  · have b0 : ((zs.length : Int) != (ys.length : Int)) = true := by simp; omega
    have hne : Hid (decide (zs = ys) = false) := decide_eq_false (fun h => hl (by rw [h]))
    clear hl
    go_enter Tryd.func41, Tryd.ntmps41
    go_wp2
    go_ret
    exact ⟨by rw [hne.out]; rfl, 0, rfl⟩
end Go.Proofs.YtmibifmabkaakaaDoor
