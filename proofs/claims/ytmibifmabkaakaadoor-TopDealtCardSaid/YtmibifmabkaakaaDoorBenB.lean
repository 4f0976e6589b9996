/- Slices of pairs that come to a pool: appended onto, read, held one against the other. No condition but the slice's own size. The reference of package bench: ZParse, walked. No condition but the text's own size. Package bench: numbers, walked. No condition but the text's own size and the library's tables. Package bench: Parse, walked. No condition but the text's own size and the library's tables. -/
import Derived.Test.YtmibifmabkaakaaDoorBenA
import Derived.Test.YtmibifmabkaakaaDoorAliT
import Derived.Deep.MidRow
import Derived.Test.YtmibifmabkaakaaDoorBase2
namespace Go.Proofs.YtmibifmabkaakaaDoor
open Go.ChangeShapes Go.WideShapes Go.ChangeAt Go.RowKit
set_option linter.unusedVariables false

section
variable {w w' : World} {base size : Nat} {e : TypeId} {v : Value} {n : Nat} {xs : List Value}
theorem crow_shape (h : w.ownsRow base e size v n xs) : ∃ A c, v = .slice A n c := by
  rcases h.2 with ⟨rfl, rfl⟩ | ⟨g, cap, cur, rfl, _⟩
  · exact ⟨_, _, rfl⟩
  · exact ⟨_, _, rfl⟩
theorem crow_block (h : w.ownsRow base e size v n xs) : ∀ k, v.ownBlock = some k → base ≤ k := by
  intro k hk
  rcases h.2 with ⟨rfl, _⟩ | ⟨g, cap, cur, rfl, hg, _⟩
  · simp [Value.ownBlock] at hk
  · simp [Value.ownBlock] at hk; omega
theorem crow_none : w.ownsRow base e size (.slice none 0 0) 0 [] := ⟨by simp, .inl ⟨rfl, rfl⟩⟩
theorem crow_below {B : Nat} (h : w.ownsRow base e size v n xs) (hb : Below B w w') (hB : w.heap.size ≤ B) : w'.ownsRow base e size v n xs := by
  obtain ⟨h1, h2⟩ := h
  refine ⟨h1, ?_⟩
  rcases h2 with h2 | ⟨g, cap, cur, hv, hg, hh, r⟩
  · exact Or.inl h2
  · have hlt : g < w.heap.size := by
      rcases Nat.lt_or_ge g w.heap.size with hlt | hge
      · exact hlt
      · rw [Array.getElem?_eq_none hge] at hh; cases hh
    exact Or.inr ⟨g, cap, cur, hv, hg, by rw [hb.block g (by omega)]; exact hh, r⟩
theorem crow_new2 (w : World) (t : TypeId) (a b : Value) : ∀ j u, [a, b][j]? = some u → (w.alloc (.cells #[a, b] t)).cell? ((⟨w.heap.size, 0, none⟩ : Addr).add j) = some u := by
  intro j u h
  rw [Addr.add_mid, Nat.zero_add]
  exact (Blk.new w t #[a, b]).cell j (by simpa using h)
end
theorem wpList_pushC (w : World) {ops : Array Oper} {rest : List Oper} {o : Oper} {a : Act} {Q : Exit → Act → World → Prop} (hgd : o.guard = none) (s x : Operand)
    (ho : o.op = .call { callee := .builtin .append, args := #[s, x], argTypes := #[74, 74] })
    (base : Nat) (v : Value) (n : Nat) (xs : List Value) (hs : a.eval s = v) (hown : w.ownsRow base 81 2 v n xs) (p q : Int) (ad : Addr) (c : Nat) (hx : a.eval x = .slice (some ad) 1 c)
    (hc : ∀ j u, [Value.int .i64 p, .int .i64 q][j]? = some u → w.cell? (ad.add j) = some u) (hn : n ≤ 8000000000000) (hbase : base ≤ w.heap.size)
    (h : ∀ v' w', w'.ownsRow base 81 2 v' (n + 1) (xs ++ [.int .i64 p, .int .i64 q]) → w.grownBy w' v.ownBlock → wpList Tryd.prog ops Q rest (a.put o.dst v') w') : wpList Tryd.prog ops Q (o :: rest) a w := by
  have hinfo : (Tryd.prog.info? 81).map (fun i => (i.zero, i.size, i.bytes)) = some (some (.agg #[.int .i64 0, .int .i64 0]), 2, 16) := by kernel_rfl
  obtain ⟨i, hi, hzz⟩ := Option.map_eq_some_iff.1 hinfo
  simp only [Prod.mk.injEq] at hzz
  obtain ⟨hz, hsz, hby⟩ := hzz
  exact wpList_append_own w hgd s x _ ho base _ i _ 2 16 Tryd.underlying74 hi hz hsz hby rfl (by decide) v n xs hs hown ad 1 c _ hx rfl hc (by simp [Value.oneCell']) (by unfold maxLen; omega) (by omega) hbase fun v' w' h1 h2 _ => h v' w' h1 h2
theorem step_pushC (w : World) {ops : Array Oper} {o : Oper} {a : Act} {K : Act → World → Prop} {Q : Exit → Act → World → Prop} {E : Prop} (hgd : o.guard = none) (s x : Operand)
    (ho : o.op = .call { callee := .builtin .append, args := #[s, x], argTypes := #[74, 74] })
    (base : Nat) (v : Value) (n : Nat) (xs : List Value) (hs : a.eval s = v) (hown : w.ownsRow base 81 2 v n xs) (p q : Int) (ad : Addr) (c : Nat) (hx : a.eval x = .slice (some ad) 1 c)
    (hc : ∀ j u, [Value.int .i64 p, .int .i64 q][j]? = some u → w.cell? (ad.add j) = some u) (hn : n ≤ 8000000000000) (hbase : base ≤ w.heap.size)
    (h : ∀ v' w', w'.ownsRow base 81 2 v' (n + 1) (xs ++ [.int .i64 p, .int .i64 q]) → Below base w w' → w.grownBy w' v.ownBlock → K (a.put o.dst v') w') :
    if Region.wanted o (yielded ops a.tmps) = true then Oper.wp Tryd.prog o a w K Q else E := by
  have hinfo : (Tryd.prog.info? 81).map (fun i => (i.zero, i.size, i.bytes)) = some (some (.agg #[.int .i64 0, .int .i64 0]), 2, 16) := by kernel_rfl
  obtain ⟨i, hi, hzz⟩ := Option.map_eq_some_iff.1 hinfo
  simp only [Prod.mk.injEq] at hzz
  obtain ⟨hz, hsz, hby⟩ := hzz
  have hw : Region.wanted o (yielded ops a.tmps) = true := by simp [Region.wanted, hgd]
  rw [if_pos hw]
  exact wp_append_own w s x _ ho base _ i _ 2 16 Tryd.underlying74 hi hz hsz hby rfl (by decide) v n xs hs hown ad 1 c _ hx rfl hc (by simp [Value.oneCell']) (by unfold maxLen; omega) (by omega) hbase fun v' w' h1 h2 _ => h v' w' h1 ((Below.refl _ _).grown h2 hbase fun k hk => crow_block hown k hk) h2
theorem crow_pairs {w : World} {base n : Nat} {v : Value} {ps : List (Int × Int)} (h : w.ownsRow base 81 2 v n (flat ps)) : ∃ A c, v = .slice A ps.length c ∧ ps.length ≤ c ∧ Seg w w.heap.size A (flat ps) := by
  have hn : n = ps.length := by have := h.1; rw [flat_len] at this; omega
  subst hn
  rcases h.2 with ⟨rfl, h0⟩ | ⟨g, cap, cur, rfl, _, hh, hn, _⟩
  · have : ps = [] := List.eq_nil_of_length_eq_zero h0
    subst this
    exact ⟨none, 0, rfl, Nat.le_refl _, Seg.nil⟩
  · refine ⟨_, _, rfl, hn, fun hl => ⟨_, rfl, ?_, h.cells (g := g) rfl⟩⟩
    rcases Nat.lt_or_ge g w.heap.size with hlt | hge
    · exact hlt
    · rw [Array.getElem?_eq_none hge] at hh; cases hh
theorem take_step_crs (zs ys : List (Int × Int)) (j : Nat) (h1 : j < zs.length) (h2 : j < ys.length) (h : zs.take j = ys.take j) (e : prat zs j = prat ys j) : zs.take (j + 1) = ys.take (j + 1) := by
  have e1 : prat zs j = zs[j] := by simp [prat, h1]
  have e2 : prat ys j = ys[j] := by simp [prat, h2]
  rw [List.take_succ_eq_append_getElem h1, List.take_succ_eq_append_getElem h2, h, ← e1, ← e2, e]

set_option maxRecDepth 20000 in
set_option maxHeartbeats 2000000 in
theorem eq_crs (zs ys : List (Int × Int)) (A C : Option Addr) (c d B : Nat) (w : World) (hs : Seg w B A (flat zs)) (ht : Seg w B C (flat ys)) (hm : zs.length ≤ 9223372036854775807) :
    Calls Tryd.prog 41 #[.slice A zs.length c, .slice C ys.length d] w fun e w' => e = .returned (.bool (decide (zs = ys))) ∧ ∃ n, w' = w.drewN n := by
  by_cases hl : zs.length = ys.length
  · have b0 : ((zs.length : Int) != (ys.length : Int)) = false := by rw [hl]; simp
    have HL := Lib.hid hl
    have hle : zs.length ≤ ys.length := by omega
    clear hl
    go_enter Tryd.func41, Tryd.ntmps41
    go_wp2
    go_loopw [13] (fun i wr => ∃ j : Nat, j ≤ zs.length ∧ i = .int .i64 j ∧ Hid (zs.take j = ys.take j) ∧ ∃ n, wr = w.drewN n) (fun i _ => zs.length - (intOf i).toNat)
    case atStart => exact ⟨0, Nat.zero_le _, rfl, rfl, 0, rfl⟩
    case round =>
      obtain ⟨j, hj, rfl, hp, n, rfl⟩ := hrel
      by_cases hlt : j < zs.length
      · have hlt2 : j < ys.length := by omega
        have hi1 : (j : Int) < (zs.length : Int) := by omega
        have hi2 : (j : Int) < (ys.length : Int) := by omega
        obtain ⟨ad, rfl, _, hc, hd⟩ := hs.pair hlt
        obtain ⟨ae, rfl, _, hc2, hd2⟩ := ht.pair hlt2
        have hstep := Lib.hid (take_step_crs zs ys j hlt hlt2 hp.out)
        have hnot : Hid (prat zs j ≠ prat ys j → decide (zs = ys) = false) := fun h => decide_eq_false (fun h1 => h (by rw [h1]))
        have HX : Hid ((prat zs j).1 = (prat ys j).1 → (prat zs j).2 = (prat ys j).2 → prat zs j = prat ys j) := fun a b => Prod.ext a b
        have HY : Hid (prat zs j = prat ys j → (prat zs j).1 = (prat ys j).1 ∧ (prat zs j).2 = (prat ys j).2) := fun a => by rw [a]; exact ⟨rfl, rfl⟩
        generalize prat zs j = P at *
        generalize prat ys j = Q at *
        generalize P.1 = x at *
        generalize P.2 = x2 at *
        generalize Q.1 = y at *
        generalize Q.2 = y2 at *
        by_cases he : x = y ∧ x2 = y2
        · obtain ⟨rfl, rfl⟩ := he
          go_wp2
          go_quiet (fail)
          go_wp2
          go_roundw
          case rel => exact ⟨j + 1, by omega, by go_num, hstep.out (HX.out (by trivial) (by trivial)), _, rfl⟩
          case measure => simp [intOf]; omega
        · have hne : Hid (decide (zs = ys) = false) := hnot.out fun h => he (HY.out h)
          rcases (by omega : x ≠ y ∨ (x = y ∧ x2 ≠ y2)) with h1 | ⟨rfl, h1⟩
          · have b1 : (x == y) = false := by simpa using h1
            have b2 : (x = y) = False := eq_false h1
            clear he hstep h1 hnot HX HY
            go_wp2
            go_quiet (fail)
            go_wp2
            go_ret
            exact ⟨by rw [hne.out]; rfl, n + nq, by rw [World.drewN_drewN]⟩
          · have b1 : (x2 == y2) = false := by simpa using h1
            have b2 : (x2 = y2) = False := eq_false h1
            clear he hstep h1 hnot HX HY
            go_wp2
            go_quiet (fail)
            go_wp2
            go_ret
            exact ⟨by rw [hne.out]; rfl, n + nq, by rw [World.drewN_drewN]⟩
      · have heq : Hid (decide (zs = ys) = true) := by
          refine decide_eq_true ?_
          have h1 := hp.out
          rw [List.take_of_length_le (by omega), List.take_of_length_le (by have := HL.out; omega)] at h1
          exact h1
        go_wp2
        go_ret
        exact ⟨by rw [heq.out]; rfl, _, rfl⟩
  · have b0 : ((zs.length : Int) != (ys.length : Int)) = true := by simp; omega
    have hne : Hid (decide (zs = ys) = false) := decide_eq_false (fun h => hl (by rw [h]))
    clear hl
    go_enter Tryd.func41, Tryd.ntmps41
    go_wp2
    go_ret
    exact ⟨by rw [hne.out]; rfl, 0, rfl⟩

set_option linter.unusedVariables false

theorem results_tmp4 {fn : Func} {t u v x : Tmp} (h : fn.results = #[.tmp t, .tmp u, .tmp v, .tmp x]) (tmps : Array Value) (P : Program) (w : World) :
    (results fn tmps).run P w = .ok (.tuple #[tmps.getD t undef, tmps.getD u undef, tmps.getD v undef, tmps.getD x undef]) w := by
  simp [results, h]
theorem below_of_drew {B : Nat} {w w' : World} (h : Below B w.drew w') : Below B w w' := ⟨h.os, h.tape, h.output, h.size, h.block⟩
def strLen : Value → Nat | .string s => s.size | _ => 0
def cp (l : List (Nat × Nat)) : List (Int × Int) := l.map fun p => ((p.1 : Int), (p.2 : Int))
theorem cp_len (l : List (Nat × Nat)) : (cp l).length = l.length := by simp [cp]
theorem cp_snoc (l : List (Nat × Nat)) (x d : Nat) : flat (cp (l ++ [(x, d)])) = flat (cp l) ++ [.int .i64 (x : Int), .int .i64 (d : Int)] := by
  unfold cp
  rw [List.map_append, flat_app]
  rfl
/-- What Parse and ZParse hand back. -/
def PaOut (w : World) (r : Nat × List (Nat × Nat) × Nat × Nat) (e : Ending) (w' : World) : Prop :=
  ∃ A c, e = .returned (.tuple #[.int .i64 (r.1 : Nat), .slice A r.2.1.length c, .int .i64 (r.2.2.1 : Nat), .int .i64 (r.2.2.2 : Nat)]) ∧ r.2.1.length ≤ c ∧ Seg w' w'.heap.size A (flat (cp r.2.1)) ∧ Below w.heap.size w w'
theorem eol_cases (b : Bs) : (b = [] ∧ eol b = none) ∨ (∃ c r, b = c :: r ∧ c ≠ 10 ∧ eol b = none) ∨ (∃ r, b = 10 :: r ∧ eol b = some r) := by
  cases b with
  | nil => exact Or.inl ⟨rfl, rfl⟩
  | cons c r =>
    by_cases h : c = 10
    · subst h; exact Or.inr (Or.inr ⟨r, rfl, rfl⟩)
    · exact Or.inr (Or.inl ⟨c, r, rfl, h, by unfold eol; simp only; rw [if_neg h]⟩)
theorem sv_empty (l : Bs) : (⟨l.toArray⟩ : ByteArray).toList.isEmpty = l.isEmpty := by rw [Lib.toList_data]
theorem sv_get (l : Bs) (k : Nat) (h : k < (⟨l.toArray⟩ : ByteArray).size) : ((⟨l.toArray⟩ : ByteArray)[k]'h).toNat = (l[k]'h).toNat := rfl
theorem sv_tail (c : UInt8) (r : Bs) : (⟨(c :: r).toArray⟩ : ByteArray).extract 1 (r.length + 1) = ⟨r.toArray⟩ := by
  rw [sv_ext]
  show (⟨(((c :: r).drop 1).take (r.length + 1 - 1)).toArray⟩ : ByteArray) = _
  rw [List.drop_one, List.tail_cons, Nat.add_sub_cancel, List.take_length]
/-- What stands behind a number: nothing, another byte, or the line's end. -/
theorem eol_facts (b : Bs) (Bb : ByteArray) (hb : Bb = ⟨b.toArray⟩) : (Bb.toList.isEmpty = true ∧ eol b = none) ∨ (∃ n c0 : Nat, Bb.toList.isEmpty = false ∧ Bb.size = n ∧ (0 : Int) < (n : Int) ∧ (∀ h : 0 < Bb.size, (Bb[0]'h).toNat = c0) ∧ ((c0 : Int) != 10) = true ∧ eol b = none) ∨ (∃ (n : Nat) (r : Bs), Bb.toList.isEmpty = false ∧ Bb.size = n ∧ n = r.length + 1 ∧ (∀ h : 0 < Bb.size, (Bb[0]'h).toNat = 10) ∧ Bb.extract 1 n = ⟨r.toArray⟩ ∧ eol b = some r) := by
  subst hb
  rcases eol_cases b with ⟨rfl, h⟩ | ⟨c, r, rfl, hc, h⟩ | ⟨r, rfl, h⟩
  · exact Or.inl ⟨sv_empty _, h⟩
  · refine Or.inr (Or.inl ⟨r.length + 1, c.toNat, sv_empty _, rfl, by omega, fun _ => rfl, ?_, h⟩)
    rw [bne_iff_ne]
    intro e
    exact hc (UInt8.toNat_inj.1 (by have : (10 : UInt8).toNat = 10 := rfl; omega))
  · exact Or.inr (Or.inr ⟨r.length + 1, r, sv_empty _, rfl, rfl, fun _ => rfl, sv_tail _ _, h⟩)
theorem zstep_len {s word : Bs} {n : Nat} {r : Bs} (h : zstepR s word = some (n, r)) : r.length < s.length := by
  obtain ⟨_, e, _⟩ := (zstep_iff _ _ _ _).1 h
  have : 0 < (Lib.decDigits n).length := List.length_pos_iff.2 (dec_ne n)
  rw [e, List.length_append, List.length_append]
  omega
set_option maxRecDepth 20000 in
set_option maxHeartbeats 4000000 in
theorem zparse_any (t : Bs) (ht : t.length ≤ 8000000000000) (w : World) : Calls Tryd.prog 40 #[SV t] w fun e w' => PaOut w (parseR t) e w' := by
  obtain ⟨res, hres⟩ : ∃ res, res = parseR t := ⟨_, rfl⟩
  rw [← hres]
  have HRES := Lib.hid hres
  obtain ⟨T, hT⟩ : ∃ T : ByteArray, T = ⟨t.toArray⟩ := ⟨_, rfl⟩
  obtain ⟨z, hz⟩ : ∃ z, z = zstepR t (wRoom ++ [32]) := ⟨_, rfl⟩
  have HZ1 : Hid (∀ u, Calls Tryd.prog 84 #[.string T, .string { data := #[114, 111, 111, 109, 32] }] u fun e w' => e = .returned (RZ z) ∧ ∃ m, w' = u.drewN m) := fun u => by rw [hT, hz]; exact zstep_any t (wRoom ++ [32]) (by omega) u
  rw [show SV t = Value.string T by rw [hT]]
  have HZ := Lib.hid hz
  have HTL := Lib.hid ht
  clear hres hT hz ht
  cases z with
  | none =>
    have hr : Hid (res = (0, [], 0, 1)) := by
      unfold Hid
      rw [HRES.out]
      unfold parseR roomZ
      rw [← HZ.out]
    go_enter Tryd.func40, Tryd.ntmps40
    go_wp2_with fail
    refine (HZ1.out _).mono ?_
    unfold RZ
    rintro e w2 ⟨rfl, m2, rfl⟩
    go_wp2_with fail
    (try simp only [Exit.inBlock, Exit.then])
    refine bodyPost_ret (results_tmp4 rfl _ _ _) rfl ?_
    exact ⟨none, 0, by rw [hr.out]; rfl, by rw [hr.out]; exact Nat.le_refl _, by rw [hr.out]; exact Seg.nil, below_drewN (Below.refl _ _) _⟩
  | some p =>
    obtain ⟨room, b⟩ := p
    obtain ⟨Bb, hBb⟩ : ∃ Bb : ByteArray, Bb = ⟨b.toArray⟩ := ⟨_, rfl⟩
    have HZ1b : Hid (∀ u, Calls Tryd.prog 84 #[.string T, .string { data := #[114, 111, 111, 109, 32] }] u fun e w' => e = .returned (.tuple #[.int .i64 (room : Nat), .string Bb, .bool true]) ∧ ∃ m, w' = u.drewN m) := by rw [hBb]; exact HZ1.out
    clear HZ1
    have HBL : Hid (b.length < t.length) := zstep_len HZ.out.symm
    rcases eol_facts b Bb hBb with ⟨f1, hb⟩ | ⟨n, c0, f1, f2, f3, f4, f5, hb⟩ | ⟨n, r, f1, f2, hn, f4, f5, hb⟩
    · have hr : Hid (res = (0, [], 0, 1)) := by
        unfold Hid
        rw [HRES.out]
        unfold parseR roomZ
        rw [← HZ.out]
        simp only [hb, Option.map_none]
      clear hBb hb
      go_enter Tryd.func40, Tryd.ntmps40
      go_wp2_with fail
      refine (HZ1b.out _).mono ?_
      rintro e w2 ⟨rfl, m2, rfl⟩
      go_wp2_with fail
      --LOOK1
      (try simp only [Exit.inBlock, Exit.then])
      refine bodyPost_ret (results_tmp4 rfl _ _ _) rfl ?_
      exact ⟨none, 0, by rw [hr.out]; rfl, by rw [hr.out]; exact Nat.le_refl _, by rw [hr.out]; exact Seg.nil, below_drewN (Below.refl _ _) _⟩
    · have hr : Hid (res = (0, [], 0, 1)) := by
        unfold Hid
        rw [HRES.out]
        unfold parseR roomZ
        rw [← HZ.out]
        simp only [hb, Option.map_none]
      clear hBb hb
      go_enter Tryd.func40, Tryd.ntmps40
      go_wp2_with fail
      refine (HZ1b.out _).mono ?_
      rintro e w2 ⟨rfl, m2, rfl⟩
      go_wp2_with fail
      (try simp only [Exit.inBlock, Exit.then])
      refine bodyPost_ret (results_tmp4 rfl _ _ _) rfl ?_
      exact ⟨none, 0, by rw [hr.out]; rfl, by rw [hr.out]; exact Nat.le_refl _, by rw [hr.out]; exact Seg.nil, below_drewN (Below.refl _ _) _⟩
    · have HR : Hid (res = finR room (restF [] r)) := by
        unfold Hid
        rw [HRES.out]
        unfold parseR roomZ
        rw [← HZ.out]
        simp only [hb, Option.map_some]
      have HN : Hid (n = r.length + 1 ∧ r.length < t.length) := ⟨hn, by
        have h1 := HBL.out
        have h2 : b = 10 :: r := (eol_iff _ _).1 hb
        rw [h2, List.length_cons] at h1
        omega⟩
      have f6 : (1 : Int) ≤ (n : Int) := by omega
      have f7 : (0 : Int) < (n : Int) := by omega
      clear hBb hb hn HBL
      obtain ⟨R, hR⟩ : ∃ R : ByteArray, R = ⟨r.toArray⟩ := ⟨_, rfl⟩
      rw [← hR] at f5
      have HRR := Lib.hid hR
      clear hR
      go_enter Tryd.func40, Tryd.ntmps40
      go_wp2_with fail
      refine (HZ1b.out _).mono ?_
      rintro e w2 ⟨rfl, m2, rfl⟩
      go_wp2_with fail
      clear f1 f2 f4 f5 f6 f7
      have HBW : Hid (Below w.heap.size w (w.drewN m2)) := below_drewN (Below.refl _ _) _
      go_loopw [7, 9] (fun s7 s9 wx => ∃ (acc : List (Nat × Nat)) (r : Bs) (R : ByteArray) (k : Nat), s7 = .string R ∧ Hid (R = ⟨r.toArray⟩) ∧ Hid (k = acc.length) ∧ Hid (wx.ownsRow w.heap.size 81 2 s9 k (flat (cp acc))) ∧ Hid (res = finR room (restF acc r)) ∧ Hid (k + r.length ≤ t.length) ∧ Hid (Below w.heap.size w wx)) (fun s7 _ _ => strLen s7)
      case atStart => exact ⟨[], r, R, 0, rfl, HRR.out, rfl, crow_none, HR.out, by have := HN.out.2; unfold Hid; omega, HBW.out⟩
      case round =>
        clear HR HRR HN HBW
        obtain ⟨acc, r, R, k, rfl, HRR, HK, HO, HR, HLN, HB⟩ := hrel
        obtain ⟨L, c9, rfl⟩ := crow_shape HO.out
        by_cases hne : r = []
        · have f1 : R.toList.isEmpty = true := by rw [HRR.out, sv_empty, hne]; rfl
          have hr : Hid (res = (room, acc, 0, 0)) := HR.out.trans (by rw [hne, restF_nil]; rfl)
          obtain ⟨A9, c10, e9, hc9, hs9⟩ := crow_pairs HO.out
          injection e9 with e1 e2 e3
          have HE := Lib.hid (And.intro e1 (And.intro e2 (And.intro e3 (And.intro hc9 hs9))))
          clear hne e1 e2 e3 hc9 hs9
          go_wp2_with fail
          (try simp only [Exit.inBlock, Exit.then])
          refine bodyPost_ret (results_tmp4 rfl _ _ _) rfl ?_
          obtain ⟨e1, e2, e3, hc9, hs9⟩ := HE.out
          refine ⟨A9, c10, ?_, ?_, ?_, HB.out⟩
          · rw [hr.out, ← e1, ← e3]
            show _ = Ending.returned (.tuple #[_, .slice L acc.length c9, _, _])
            rw [show acc.length = k from HK.out.symm]
            rfl
          · rw [hr.out]; rw [cp_len] at hc9; exact hc9
          · rw [hr.out]; exact hs9
        · have HNE : Hid (r ≠ []) := hne
          have f1 : R.toList.isEmpty = false := by
            rw [HRR.out, sv_empty]
            cases r with
            | nil => exact absurd rfl hne
            | cons c t => rfl
          clear hne
          obtain ⟨z, hz⟩ : ∃ z, z = zstepR r (wAdd ++ [32]) := ⟨_, rfl⟩
          have HZ1 : Hid (∀ u, Calls Tryd.prog 84 #[.string R, .string { data := #[97, 100, 100, 32] }] u fun e w' => e = .returned (RZ z) ∧ ∃ m, w' = u.drewN m) := fun u => by rw [HRR.out, hz]; exact zstep_any r (wAdd ++ [32]) (by have := HLN.out; have := HTL.out; omega) u
          have HZA := Lib.hid hz
          clear hz
          have hw1 : wrap64 ((k : Int) + 1) = ((k + 1 : Nat) : Int) := by rw [wr64 _ (by omega) (by have := HLN.out; have := HTL.out; omega)]; omega
          have HW1 := Lib.hid hw1
          clear hw1
          cases z with
          | none =>
            have hadd : addZ r = none := by unfold addZ; rw [← HZA.out]
            have hr : Hid (res = (0, [], k + 1, 1)) := HR.out.trans (by rw [restF_bad HNE.out hadd, ← HK.out]; rfl)
            clear hadd
            unfold RZ at HZ1
            go_wp2_with fail
            refine (HZ1.out _).mono ?_
            rintro e w3 ⟨rfl, m3, rfl⟩
            have HB4 : Hid (Below w.heap.size w (wr.drewN m3)) := below_drewN HB.out _
            go_wp2_with fail
            (try simp only [Exit.inBlock, Exit.then])
            refine bodyPost_ret (results_tmp4 rfl _ _ _) rfl ?_
            exact ⟨none, 0, by rw [hr.out, ← HW1.out]; rfl, by rw [hr.out]; exact Nat.le_refl _, by rw [hr.out]; exact Seg.nil, HB4.out⟩
          | some p =>
            obtain ⟨x, a⟩ := p
            obtain ⟨Aa, hAa⟩ : ∃ Aa : ByteArray, Aa = ⟨a.toArray⟩ := ⟨_, rfl⟩
            have HZ1b : Hid (∀ u, Calls Tryd.prog 84 #[.string R, .string { data := #[97, 100, 100, 32] }] u fun e w' => e = .returned (.tuple #[.int .i64 (x : Nat), .string Aa, .bool true]) ∧ ∃ m, w' = u.drewN m) := by rw [hAa]; exact HZ1.out
            clear HZ1
            have HAL : Hid (a.length < r.length) := zstep_len HZA.out.symm
            obtain ⟨z2, hz2⟩ : ∃ z2, z2 = zstepR a [32] := ⟨_, rfl⟩
            have HZ2 : Hid (∀ u, Calls Tryd.prog 84 #[.string Aa, .string { data := #[32] }] u fun e w' => e = .returned (RZ z2) ∧ ∃ m, w' = u.drewN m) := fun u => by rw [hAa, hz2]; exact zstep_any a [32] (by have := HAL.out; have := HLN.out; have := HTL.out; omega) u
            have HZB := Lib.hid hz2
            clear hz2 hAa
            cases z2 with
            | none =>
              have hadd : addZ r = none := by unfold addZ; rw [← HZA.out]; simp only; rw [← HZB.out]
              have hr : Hid (res = (0, [], k + 1, 1)) := HR.out.trans (by rw [restF_bad HNE.out hadd, ← HK.out]; rfl)
              clear hadd
              unfold RZ at HZ2
              go_wp2_with fail
              refine (HZ1b.out _).mono ?_
              rintro e w3 ⟨rfl, m3, rfl⟩
              have HB3 : Hid (Below w.heap.size w (wr.drewN m3)) := below_drewN HB.out _
              have HO3 : Hid ((wr.drewN m3).ownsRow w.heap.size 81 2 (.slice L k c9) k (flat (cp acc))) := HO.out
              clear HO
              generalize wr.drewN m3 = w3 at *
              go_wp2_with fail
              refine (HZ2.out _).mono ?_
              rintro e w4 ⟨rfl, m4, rfl⟩
              have HB4 : Hid (Below w.heap.size w (w3.drewN m4)) := below_drewN HB3.out _
              go_wp2_with fail
              (try simp only [Exit.inBlock, Exit.then])
              refine bodyPost_ret (results_tmp4 rfl _ _ _) rfl ?_
              exact ⟨none, 0, by rw [hr.out, ← HW1.out]; rfl, by rw [hr.out]; exact Nat.le_refl _, by rw [hr.out]; exact Seg.nil, HB4.out⟩
            | some p2 =>
              obtain ⟨d, b⟩ := p2
              obtain ⟨Bb, hBb⟩ : ∃ Bb : ByteArray, Bb = ⟨b.toArray⟩ := ⟨_, rfl⟩
              have HZ2b : Hid (∀ u, Calls Tryd.prog 84 #[.string Aa, .string { data := #[32] }] u fun e w' => e = .returned (.tuple #[.int .i64 (d : Nat), .string Bb, .bool true]) ∧ ∃ m, w' = u.drewN m) := by rw [hBb]; exact HZ2.out
              clear HZ2
              have HBL2 : Hid (b.length < a.length) := zstep_len HZB.out.symm
              rcases eol_facts b Bb hBb with ⟨g1, hb⟩ | ⟨n, c0, g1, g2, g3, g4, g5, hb⟩ | ⟨n, r2, g1, g2, hn, g4, g5, hb⟩
              · have hadd : addZ r = none := by unfold addZ; rw [← HZA.out]; simp only; rw [← HZB.out]; simp only [hb, Option.map_none]
                have hr : Hid (res = (0, [], k + 1, 1)) := HR.out.trans (by rw [restF_bad HNE.out hadd, ← HK.out]; rfl)
                clear hadd hb hBb
                go_wp2_with fail
                refine (HZ1b.out _).mono ?_
                rintro e w3 ⟨rfl, m3, rfl⟩
                have HB3 : Hid (Below w.heap.size w (wr.drewN m3)) := below_drewN HB.out _
                have HO3 : Hid ((wr.drewN m3).ownsRow w.heap.size 81 2 (.slice L k c9) k (flat (cp acc))) := HO.out
                clear HO
                generalize wr.drewN m3 = w3 at *
                go_wp2_with fail
                refine (HZ2b.out _).mono ?_
                rintro e w4 ⟨rfl, m4, rfl⟩
                have HB4 : Hid (Below w.heap.size w (w3.drewN m4)) := below_drewN HB3.out _
                go_wp2_with fail
                (try simp only [Exit.inBlock, Exit.then])
                refine bodyPost_ret (results_tmp4 rfl _ _ _) rfl ?_
                exact ⟨none, 0, by rw [hr.out, ← HW1.out]; rfl, by rw [hr.out]; exact Nat.le_refl _, by rw [hr.out]; exact Seg.nil, HB4.out⟩
              · have hadd : addZ r = none := by unfold addZ; rw [← HZA.out]; simp only; rw [← HZB.out]; simp only [hb, Option.map_none]
                have hr : Hid (res = (0, [], k + 1, 1)) := HR.out.trans (by rw [restF_bad HNE.out hadd, ← HK.out]; rfl)
                clear hadd hb hBb
                go_wp2_with fail
                refine (HZ1b.out _).mono ?_
                rintro e w3 ⟨rfl, m3, rfl⟩
                have HB3 : Hid (Below w.heap.size w (wr.drewN m3)) := below_drewN HB.out _
                have HO3 : Hid ((wr.drewN m3).ownsRow w.heap.size 81 2 (.slice L k c9) k (flat (cp acc))) := HO.out
                clear HO
                generalize wr.drewN m3 = w3 at *
                go_wp2_with fail
                refine (HZ2b.out _).mono ?_
                rintro e w4 ⟨rfl, m4, rfl⟩
                have HB4 : Hid (Below w.heap.size w (w3.drewN m4)) := below_drewN HB3.out _
                go_wp2_with fail
                (try simp only [Exit.inBlock, Exit.then])
                refine bodyPost_ret (results_tmp4 rfl _ _ _) rfl ?_
                exact ⟨none, 0, by rw [hr.out, ← HW1.out]; rfl, by rw [hr.out]; exact Nat.le_refl _, by rw [hr.out]; exact Seg.nil, HB4.out⟩
              · have hadd : addZ r = some (x, d, r2) := by unfold addZ; rw [← HZA.out]; simp only; rw [← HZB.out]; simp only [hb, Option.map_some]
                have hr : Hid (res = finR room (restF (acc ++ [(x, d)]) r2)) := HR.out.trans (by rw [restF_step hadd])
                have HN2 : Hid (r2.length < r.length) := addZ_less hadd
                have g6 : (1 : Int) ≤ (n : Int) := by omega
                have g7 : (0 : Int) < (n : Int) := by omega
                obtain ⟨R2, hR2⟩ : ∃ R2 : ByteArray, R2 = ⟨r2.toArray⟩ := ⟨_, rfl⟩
                rw [← hR2] at g5
                have HR2 := Lib.hid hR2
                have HK4 : Hid (k ≤ 8000000000000) := by have := HLN.out; have := HTL.out; unfold Hid; omega
                clear hadd hb hBb hn hR2
                go_wp2_with fail
                refine (HZ1b.out _).mono ?_
                rintro e w3 ⟨rfl, m3, rfl⟩
                have HB3 : Hid (Below w.heap.size w (wr.drewN m3)) := below_drewN HB.out _
                have HO3 : Hid ((wr.drewN m3).ownsRow w.heap.size 81 2 (.slice L k c9) k (flat (cp acc))) := HO.out
                clear HO
                generalize wr.drewN m3 = w3 at *
                go_wp2_with fail
                refine (HZ2b.out _).mono ?_
                rintro e w4 ⟨rfl, m4, rfl⟩
                have HB4 : Hid (Below w.heap.size w (w3.drewN m4)) := below_drewN HB3.out _
                have HO4 : Hid ((w3.drewN m4).ownsRow w.heap.size 81 2 (.slice L k c9) k (flat (cp acc))) := HO3.out
                clear HO3
                generalize w3.drewN m4 = w4 at *
                go_wp2_with fail
                --LOOK3
                have HOA : Hid ((w4.alloc (.cells #[.int .i64 (x : Int), .int .i64 (d : Int)] 81)).ownsRow w.heap.size 81 2 (.slice L k c9) k (flat (cp acc))) := World.ownsRow.alloc HO4.out _
                have HCA : Hid (∀ j u, [Value.int .i64 (x : Int), .int .i64 (d : Int)][j]? = some u → (w4.alloc (.cells #[.int .i64 (x : Int), .int .i64 (d : Int)] 81)).cell? ((⟨w4.heap.size, 0, none⟩ : Addr).add j) = some u) := crow_new2 _ _ _ _
                have HSA : Hid (w.heap.size ≤ (w4.alloc (.cells #[.int .i64 (x : Int), .int .i64 (d : Int)] 81)).heap.size) := by have := HB4.out.size; unfold Hid; simp; omega
                have HBA : Hid (Below w.heap.size w (w4.alloc (.cells #[.int .i64 (x : Int), .int .i64 (d : Int)] 81))) := HB4.out.alloc HB4.out.size _
                go_region_law (refine step_pushC _ rfl _ _ rfl w.heap.size (.slice L k c9) k (flat (cp acc)) (by simp [Act.eval]) HOA.out x d ⟨w4.heap.size, 0, none⟩ 1 (by simp [Act.eval]) HCA.out HK4.out HSA.out ?_; intro v6 w6 hown6 hbel6 hgr6; have HO6 := Lib.hid hown6; have HB6 : Hid (Below w.heap.size w w6) := (by first | exact HBA.out.trans hbel6 | exact HBA.out.trans (below_of_drew hbel6)); clear hown6 hbel6 hgr6)
                all_goals go_wp2_with fail
                all_goals
                  have HO7 : Hid (w6.ownsRow w.heap.size 81 2 v6 (k + 1) (flat (cp (acc ++ [(x, d)])))) := by rw [cp_snoc]; exact HO6.out
                  have HK7 : Hid (k + 1 = (acc ++ [(x, d)]).length) := by rw [List.length_append, ← HK.out]; rfl
                  have HL7 : Hid (k + 1 + r2.length ≤ t.length) := by have := HLN.out; have := HN2.out; unfold Hid; omega
                  refine ⟨?_, ?_⟩
                  · (repeat apply Exists.intro)
                    exact ⟨⟨acc ++ [(x, d)], r2, R2, k + 1, rfl, HR2.out, HK7, HO7, hr.out, HL7, HB6.out⟩, rfl⟩
                  · show R2.size < R.size
                    rw [HR2.out, HRR.out]
                    exact HN2.out

set_option linter.unusedVariables false

theorem piece_len (c : UInt8) : ∀ (n : Nat) (l : Bs), l.length ≤ n → ∀ s ∈ Lib.split l [c], s.length ≤ l.length := by
  intro n
  induction n with
  | zero =>
    intro l hl s hs
    have : l = [] := List.length_eq_zero_iff.1 (by omega)
    subst this
    rw [split_none (by simp)] at hs
    rw [List.mem_singleton.1 hs]
    exact Nat.le_refl _
  | succ n ih =>
    intro l hl s hs
    rcases first_occ c l with h | ⟨a, r, h, rfl⟩
    · rw [split_none h] at hs
      rw [List.mem_singleton.1 hs]
      exact Nat.le_refl _
    · rw [split_at r h] at hs
      rw [List.length_append, List.length_cons] at hl ⊢
      rcases List.mem_cons.1 hs with e | e
      · rw [e]; omega
      · have := ih r (by omega) s e
        omega
def ivs (l : List Nat) : List Value := l.map fun (n : Nat) => Value.int .i64 (n : Int)
/-- What numbers hands back. -/
def NuOut (w : World) (r : Option (List Nat)) (e : Ending) (w' : World) : Prop :=
  match r with
  | none => e = .returned (.tuple #[.slice none 0 0, .bool false]) ∧ Below w.heap.size w w'
  | some l => ∃ A c, e = .returned (.tuple #[.slice A l.length c, .bool true]) ∧ Seg w' w'.heap.size A (ivs l) ∧ Below w.heap.size w w'
theorem allOk_step {s : Bs} {r : List Bs} {n : Nat} (h : numOkR s = some n) : allOk (s :: r) = (allOk r).map (n :: ·) := by
  conv => lhs; unfold allOk
  rw [h]
theorem allOk_stop {s : Bs} {r : List Bs} (h : numOkR s = none) : allOk (s :: r) = none := by
  unfold allOk
  rw [h]
theorem numOk_le {s : Bs} {n : Nat} (h : numOkR s = some n) : (n : Int) ≤ 1099511627776 := by
  have h1 : n ≤ 1099511627776 := ((numOk_iff s n).1 h).1
  omega
theorem addr_zero (ad : Addr) : ad.add 0 = ad := by unfold Addr.add; rw [if_pos rfl]
theorem badd' {ad : Addr} {k B : Nat} (h : ad.block < B) : (ad.add k).block < B := by rw [addr_block]; exact h
theorem seg_head {w : World} {B : Nat} {A : Option Addr} {xs : List Value} (h : Seg w B A xs) (h0 : 0 < xs.length) : ∃ ad, A = some ad ∧ Seg w B (some (ad.add 1)) (xs.drop 1) := by
  obtain ⟨ad, rfl, _⟩ := h h0
  exact ⟨ad, rfl, h.cut 1⟩
set_option maxRecDepth 20000 in
set_option maxHeartbeats 4000000 in
theorem numbers_any (line word : Bs) (many : Nat) (hl : line.length ≤ 4000000000) (hm1 : 1 ≤ many) (hm : many ≤ 2) (w : World) (hL : LibW w) :
    Calls Tryd.prog 83 #[SV line, SV word, .int .i64 (many : Nat)] w fun e w' => NuOut w (numsP line word many) e w' := by
  obtain ⟨res, hres⟩ : ∃ res, res = numsP line word many := ⟨_, rfl⟩
  rw [← hres]
  obtain ⟨ps, hps⟩ : ∃ ps, ps = Lib.split line [32] := ⟨_, rfl⟩
  have HPL : Hid (∀ s ∈ ps, s.length ≤ 4000000000) := fun s hs => by
    rw [hps] at hs
    have := piece_len 32 _ line (Nat.le_refl _) s hs
    omega
  have HRES : Hid (res = if ps.length = many + 1 ∧ ps.head? = some word then allOk ps.tail else none) := by unfold Hid; rw [hres, hps]; rfl
  have hne : ps ≠ [] := by rw [hps]; exact split_ne _ _
  obtain ⟨LB, hLB⟩ : ∃ LB : ByteArray, LB = ⟨line.toArray⟩ := ⟨_, rfl⟩
  obtain ⟨WB, hWB⟩ : ∃ WB : ByteArray, WB = ⟨word.toArray⟩ := ⟨_, rfl⟩
  rw [show SV line = Value.string LB by rw [hLB], show SV word = Value.string WB by rw [hWB]]
  obtain ⟨p, hp⟩ : ∃ p, p = ps.length := ⟨_, rfl⟩
  have HSP : Hid (∀ u, LibW u → Calls Tryd.prog 99 #[.string LB, .string { data := #[32] }] u fun e w' => ∃ A, e = .returned (.slice A p p) ∧ Seg w' w'.heap.size A (ps.map SV) ∧ Below u.heap.size u w') := fun u hu => by
    rw [hp, hps, hLB]; exact split_any line 32 (by omega) u hu
  have HLW := Lib.hid hL
  have HWB := Lib.hid hWB
  clear hres hps hLB hWB hl hL
  obtain ⟨w0, tl, rfl⟩ : ∃ w0 tl, ps = w0 :: tl := by cases ps with | nil => exact absurd rfl hne | cons a b => exact ⟨a, b, rfl⟩
  obtain ⟨W0, hW0⟩ : ∃ W0 : ByteArray, W0 = ⟨w0.toArray⟩ := ⟨_, rfl⟩
  have heqw : (W0.toList == WB.toList) = decide (w0 = word) := by
    rw [hW0, HWB.out, Lib.toList_data, Lib.toList_data]
    by_cases h : w0 = word
    · rw [h]; simp
    · rw [decide_eq_false h, beq_eq_false_iff_ne]; exact h
  have HP := Lib.hid hp
  have HW0 := Lib.hid hW0
  have hpos : 0 < p := by rw [hp]; simp
  clear hne hW0
  by_cases hc : p = many + 1
  · have um : wrap64 ((many : Int) + 1) = (p : Int) := by rw [wr64 _ (by omega) (by omega)]; omega
    by_cases hw0 : w0 = word
    · rw [decide_eq_true hw0] at heqw
      have HR : Hid (res = allOk tl) := HRES.out.trans (if_pos ⟨by rw [← HP.out]; exact hc, by rw [hw0]; rfl⟩)
      have i1 : (1 : Int) ≤ (p : Int) := by omega
      have i2 : (1 : Int) < (p : Int) := by omega
      have i3 : 1 < p := by omega
      have i4 : ¬ p = 1 := by omega
      have HP3 : Hid (p ≤ 3) := by unfold Hid; omega
      clear hp hc hw0 hm hm1
      go_enter Tryd.func83, Tryd.ntmps83
      go_wp2_with fail
      refine (HSP.out _ HLW.out).mono ?_
      rintro e w2 ⟨A2, rfl, hs2, hb2⟩
      have HS2 := Lib.hid hs2
      have HB2 := Lib.hid hb2
      obtain ⟨ad, rfl, _, hc0⟩ := hs2.get (k := 0) (u := .string W0) (by rw [HW0.out]; rfl)
      rw [addr_zero] at hc0
      clear hs2 hb2 HSP
      go_wp2_with fail
      have hadd1 : (⟨ad.block, ad.off + 1, none⟩ : Addr) = ad.add 1 := by unfold Addr.add; rw [if_neg (by decide)]
      have HT : Hid (Seg w2 w2.heap.size (some (ad.add 1)) (tl.map SV)) := HS2.out.cut 1
      rw [hadd1]
      obtain ⟨ae, hae⟩ : ∃ ae, ae = ad.add 1 := ⟨_, rfl⟩
      rw [← hae] at HT ⊢
      obtain ⟨m, hm⟩ : ∃ m, m = p - 1 := ⟨_, rfl⟩
      rw [← hm]
      have HM : Hid (m = tl.length ∧ m ≤ 2) := ⟨by rw [hm, HP.out]; rfl, by have := HP3.out; omega⟩
      clear hm hae hadd1 hc0 i1 i2 i3 i4 heqw um hpos HS2
      go_loopw [9, 31] (fun s9 s31 wx => ∃ (k : Nat) (ns : List Nat), k ≤ m ∧ s31 = .int .i64 k ∧ Hid (Own wx w2.heap.size 3 s9 (ivs ns)) ∧ Hid (ns.length = k) ∧ Hid (res = (allOk (tl.drop k)).map (ns ++ ·)) ∧ Hid (Below w2.heap.size w2 wx)) (fun _ s31 _ => m - (intOf s31).toNat)
      case atStart => exact ⟨0, [], Nat.zero_le _, rfl, Own.none_, rfl, by unfold Hid; rw [HR.out, List.drop_zero]; cases allOk tl <;> rfl, Below.refl _ _⟩
      case round =>
        obtain ⟨k, ns, hkm, rfl, HO, HNS, HRR, HBX⟩ := hrel
        by_cases hlt : k < m
        · have hk2 : k < tl.length := by rw [← HM.out.1]; exact hlt
          have i1 : (k : Int) < (m : Int) := by omega
          obtain ⟨_, e1, hbl, hc1⟩ := HT.out.get (k := k) (u := SV tl[k]) (by rw [List.getElem?_map, List.getElem?_eq_getElem hk2]; rfl)
          injection e1 with e1
          subst e1
          have hc2 : wr.cell? (ae.add k) = some (SV tl[k]) := by rw [HBX.out.cell (p := ae.add k) (badd' hbl)]; exact hc1
          have hsl := HPL.out tl[k] (List.mem_cons_of_mem _ (List.getElem_mem hk2))
          have hdrop : tl.drop k = tl[k] :: tl.drop (k + 1) := List.drop_eq_getElem_cons hk2
          have HDR : Hid (tl.drop k = tl[k] :: tl.drop (k + 1)) := hdrop
          have ui : Hid (wrap64 ((k : Int) + 1) = ((k + 1 : Nat) : Int)) := by have := HM.out.2; unfold Hid; rw [wr64 _ (by omega) (by omega)]; omega
          have HK := Lib.hid hlt
          have HLX : Hid (LibW wr) := HLW.out.below (HB2.out.trans (HBX.out.mono HB2.out.size))
          obtain ⟨s, hs⟩ : ∃ s, s = tl[k] := ⟨_, rfl⟩
          rw [← hs] at hc2 hsl HDR
          obtain ⟨SB, hSB⟩ : ∃ SB : ByteArray, SB = ⟨s.toArray⟩ := ⟨_, rfl⟩
          rw [show SV s = Value.string SB by rw [hSB]] at hc2
          clear hs hdrop hc1 hbl hlt hkm hk2
          rcases numOk_atoi s with ⟨v, a1, a2, a3, a4, a5⟩ | ⟨a1, a2⟩
          · obtain ⟨n, rfl⟩ : ∃ n : Nat, v = (n : Int) := ⟨v.toNat, by omega⟩
            rw [Int.toNat_natCast] at a5
            have HA : Hid (Calls Tryd.prog 100 #[.string SB] wr fun e w' => e = .returned (.tuple #[.int .i64 (n : Nat), .nilIface]) ∧ Below wr.heap.size wr w') := by rw [hSB]; exact atoi_ok s (by omega) _ a1 wr
            have HF : Hid (∀ u, Calls Tryd.prog 79 #[.int .i64 (n : Nat)] u fun e w' => e = .returned (.bool true) ∧ u = w') := fun u => by
              have h := fits_any (n : Int) u
              rw [decide_eq_true ⟨a2, a3⟩] at h
              exact h
            have HI : Hid (∀ u, LibW u → Calls Tryd.prog 76 #[.int .i64 (n : Nat)] u fun e w' => e = .returned (.string SB) ∧ Below u.heap.size u w') := fun u hu => by
              have h := itoa_any (n : Int) (by omega) (by omega) u hu
              rw [a4] at h
              rw [hSB]
              exact h
            have HR2 : Hid (res = (allOk (tl.drop (k + 1))).map ((ns ++ [n]) ++ ·)) := by
              unfold Hid
              rw [HRR.out, HDR.out, allOk_step a5, Option.map_map]
              congr 1
              funext l
              simp
            clear a1 a2 a3 a4 a5 hsl hSB
            go_wp2_with fail
            refine (HA.out).mono ?_
            rintro e w3 ⟨rfl, hb3⟩
            have HB3 : Hid (Below w2.heap.size w2 w3) := HBX.out.trans (hb3.mono HBX.out.size)
            have HX3 := Lib.hid hb3
            clear hb3
            go_wp2_with fail
            refine (HF.out _).mono ?_
            rintro e w4 ⟨rfl, rfl⟩
            go_wp2_with fail
            refine (HI.out _ (HLW.out.below (HB2.out.trans (HB3.out.mono HB2.out.size)))).mono ?_
            rintro e w4 ⟨rfl, hb4⟩
            have HB4 : Hid (Below w2.heap.size w2 w4) := HB3.out.trans (hb4.mono HB3.out.size)
            have HX4 : Hid (Below wr.heap.size wr w4) := HX3.out.trans (hb4.mono HX3.out.size)
            clear hb4 HX3 HB3
            have HO4 := Lib.hid (HO.out.below HX4.out (Nat.le_refl _))
            have HNB : Hid (((ivs ns).length + 1) * 8 ≤ 140737488355328 ∧ (ivs ns).length + 1 ≤ maxLen) := by
              have h1 := HNS.out
              have h2 := HM.out
              have h3 := HK.out
              unfold Hid ivs maxLen
              rw [List.length_map]
              omega
            have HSZ : Hid (w2.heap.size ≤ (w4.alloc (.cells #[.int .i64 (n : Int)] 3)).heap.size) := by have := HB4.out.size; unfold Hid; simp; omega
            go_wp2_with (first | (at_builtin; go_must (refine wpList_push _ rfl _ _ 23 3 8 elem_ints rfl w2.heap.size _ _ rfl (Own.alloc' HO4.out _) (.int .i64 (n : Int)) ⟨w4.heap.size, 0, none⟩ 1 rfl (cell_new1 _ _ _) rfl HNB.out.1 HNB.out.2 HSZ.out ?_); intro v6 w6 hown6 hb6; have HO6 := Lib.hid hown6; have HB6 := Lib.hid hb6; clear hown6 hb6) | fail)
            have HO7 : Hid (Own w6 w2.heap.size 3 v6 (ivs (ns ++ [n]))) := by have h := HO6.out; unfold ivs at h ⊢; rw [List.map_append]; exact h
            have HB7 : Hid (Below w2.heap.size w2 w6) := (HB4.out.alloc HB4.out.size _).trans HB6.out
            have HN7 : Hid ((ns ++ [n]).length = k + 1) := by unfold Hid; rw [List.length_append, HNS.out]; rfl
            go_roundw
            case rel => exact ⟨k + 1, ns ++ [n], HK.out, by first | rfl | rw [ui.out], HO7, HN7, HR2.out, HB7.out⟩
            case measure => (try rw [ui.out]); have := HK.out; simp [intOf]; omega
          · have HR2 : Hid (res = none) := HRR.out.trans (by rw [HDR.out, allOk_stop a1]; rfl)
            by_cases hok : ∃ v, Lib.atoiAll s = .ok v
            · obtain ⟨v, hv⟩ := hok
              have hnot := a2 v hv
              have HA : Hid (Calls Tryd.prog 100 #[.string SB] wr fun e w' => e = .returned (.tuple #[.int .i64 v, .nilIface]) ∧ Below wr.heap.size wr w') := by rw [hSB]; exact atoi_ok s (by omega) _ hv wr
              by_cases hfit : 0 ≤ v ∧ v ≤ 1099511627776
              · have HF : Hid (∀ u, Calls Tryd.prog 79 #[.int .i64 v] u fun e w' => e = .returned (.bool true) ∧ u = w') := fun u => by
                  have h := fits_any v u
                  rw [decide_eq_true hfit] at h
                  exact h
                obtain ⟨IB, hIB⟩ : ∃ IB : ByteArray, IB = ⟨(Lib.itoa v).toArray⟩ := ⟨_, rfl⟩
                have HI : Hid (∀ u, LibW u → Calls Tryd.prog 76 #[.int .i64 v] u fun e w' => e = .returned (.string IB) ∧ Below u.heap.size u w') := fun u hu => by
                  rw [hIB]
                  exact itoa_any v (by omega) (by omega) u hu
                have hcmp : (IB.toList == SB.toList) = false := by
                  rw [hIB, hSB, Lib.toList_data, Lib.toList_data, beq_eq_false_iff_ne]
                  exact fun h => hnot ⟨hfit.1, hfit.2, h⟩
                clear a1 a2 hsl hSB hnot hfit hIB hv
                go_wp2_with fail
                refine (HA.out).mono ?_
                rintro e w3 ⟨rfl, hb3⟩
                have HB3 : Hid (Below w2.heap.size w2 w3) := HBX.out.trans (hb3.mono HBX.out.size)
                clear hb3
                go_wp2_with fail
                refine (HF.out _).mono ?_
                rintro e w4 ⟨rfl, rfl⟩
                go_wp2_with fail
                refine (HI.out _ (HLW.out.below (HB2.out.trans (HB3.out.mono HB2.out.size)))).mono ?_
                rintro e w4 ⟨rfl, hb4⟩
                have HB4 : Hid (Below w2.heap.size w2 w4) := HB3.out.trans (hb4.mono HB3.out.size)
                go_wp2_with fail
                go_ret2
                rw [HR2.out]
                exact ⟨rfl, HB2.out.trans (HB4.out.mono HB2.out.size)⟩
              · have HF : Hid (∀ u, Calls Tryd.prog 79 #[.int .i64 v] u fun e w' => e = .returned (.bool false) ∧ u = w') := fun u => by
                  have h := fits_any v u
                  rw [decide_eq_false hfit] at h
                  exact h
                clear a1 a2 hsl hSB hnot hfit hv
                go_wp2_with fail
                refine (HA.out).mono ?_
                rintro e w3 ⟨rfl, hb3⟩
                have HB3 : Hid (Below w2.heap.size w2 w3) := HBX.out.trans (hb3.mono HBX.out.size)
                clear hb3
                go_wp2_with fail
                refine (HF.out _).mono ?_
                rintro e w4 ⟨rfl, rfl⟩
                go_wp2_with fail
                go_ret2
                rw [HR2.out]
                exact ⟨rfl, HB2.out.trans (HB3.out.mono HB2.out.size)⟩
            · have HA : Hid (Calls Tryd.prog 100 #[.string SB] wr fun e w' => (∃ n t p, e = .returned (.tuple #[.int .i64 n, .iface t p])) ∧ Below wr.heap.size wr w') := by
                rw [hSB]
                exact atoi_bad s (by omega) (fun v hv => hok ⟨v, hv⟩) wr HLX.out
              clear a1 a2 hsl hSB hok
              go_wp2_with fail
              refine (HA.out).mono ?_
              rintro e w3 ⟨⟨an, at_, ap, rfl⟩, hb3⟩
              have HB3 : Hid (Below w2.heap.size w2 w3) := HBX.out.trans (hb3.mono HBX.out.size)
              clear hb3
              go_wp2_with fail
              go_ret2
              rw [HR2.out]
              exact ⟨rfl, HB2.out.trans (HB3.out.mono HB2.out.size)⟩
        · obtain rfl : k = m := by omega
          have HF : Hid (res = some ns) := by
            unfold Hid
            rw [HRR.out, List.drop_of_length_le (by rw [← HM.out.1]; exact Nat.le_refl _)]
            show some (ns ++ []) = some ns
            rw [List.append_nil]
          obtain ⟨A9, c9, rfl, hc9, h9⟩ := HO.out.res2
          have HS9 := Lib.hid h9.seg
          have hlen : (ivs ns).length = ns.length := by unfold ivs; rw [List.length_map]
          rw [hlen]
          have i1 : ¬ (k : Int) < (k : Int) := Int.lt_irrefl _
          clear h9 hc9 hlt hkm hlen
          go_wp2_with fail
          go_ret2
          rw [HF.out]
          exact ⟨A9, c9, rfl, HS9.out, HB2.out.trans (HBX.out.mono HB2.out.size)⟩
    · rw [decide_eq_false hw0] at heqw
      have HR : Hid (res = none) := HRES.out.trans (if_neg fun h => hw0 (by have := h.2; injection this))
      clear hp hc hw0 hm hm1
      go_enter Tryd.func83, Tryd.ntmps83
      go_wp2_with fail
      refine (HSP.out _ HLW.out).mono ?_
      rintro e w2 ⟨A2, rfl, hs2, hb2⟩
      have HB2 := Lib.hid hb2
      obtain ⟨ad, rfl, _, hc0⟩ := hs2.get (k := 0) (u := .string W0) (by rw [HW0.out]; rfl)
      rw [addr_zero] at hc0
      clear hs2 hb2 HSP
      go_wp2_with fail
      go_ret2
      rw [HR.out]
      exact ⟨rfl, HB2.out⟩
  · obtain ⟨q, hq⟩ : ∃ q, q = many + 1 := ⟨_, rfl⟩
    have um : wrap64 ((many : Int) + 1) = (q : Int) := by rw [wr64 _ (by omega) (by omega)]; omega
    have b1 : ((p : Int) != (q : Int)) = true := by rw [bne_iff_ne]; omega
    have HR : Hid (res = none) := HRES.out.trans (if_neg fun h => hc (HP.out.trans h.1))
    clear hp hc hq hm hm1
    go_enter Tryd.func83, Tryd.ntmps83
    go_wp2_with fail
    refine (HSP.out _ HLW.out).mono ?_
    rintro e w2 ⟨A2, rfl, hs2, hb2⟩
    have HB2 := Lib.hid hb2
    clear hs2 hb2 HSP
    go_wp2_with fail
    go_ret2
    rw [HR.out]
    exact ⟨rfl, HB2.out⟩

set_option linter.unusedVariables false

theorem cut_len {t l s : Bs} (h : Lib.cut t [10] = (l, s, true)) : s.length < t.length ∧ l.length ≤ t.length := by
  rcases first_occ 10 t with h1 | ⟨a, r, h1, rfl⟩
  · rw [cut_none h1] at h; simp at h
  · rw [cut_at r h1] at h
    injection h with e1 e2
    injection e2 with e2 _
    subst e1 e2
    simp
    omega
theorem cut_len1 (t : Bs) : (Lib.cut t [10]).1.length ≤ t.length := by
  rcases first_occ 10 t with h1 | ⟨a, r, h1, rfl⟩
  · rw [cut_none h1]; exact Nat.le_refl _
  · rw [cut_at r h1]; simp
set_option maxRecDepth 20000 in
set_option maxHeartbeats 4000000 in
theorem parse_any (t : Bs) (ht : t.length ≤ 4000000000) (w : World) (hL : LibW w) : Calls Tryd.prog 39 #[SV t] w fun e w' => PaOut w (parseR t) e w' := by
  obtain ⟨res, hres⟩ : ∃ res, res = parseR t := ⟨_, rfl⟩
  rw [← hres]
  have HRES := Lib.hid hres
  obtain ⟨T, hT⟩ : ∃ T : ByteArray, T = ⟨t.toArray⟩ := ⟨_, rfl⟩
  rw [show SV t = Value.string T by rw [hT]]
  have HT := Lib.hid hT
  have HTL := Lib.hid ht
  have HLW := Lib.hid hL
  clear hres hT ht hL
  go_enter Tryd.func39, Tryd.ntmps39
  go_wp2_with fail
  go_loopw [0, 6, 7, 8] (fun s0 s6 s7 s8 wx => ∃ (j room : Nat) (acc : List (Nat × Nat)) (r : Bs) (R : ByteArray), s0 = .string R ∧ Hid (R = ⟨r.toArray⟩) ∧ s6 = .int .i64 room ∧ Hid (wx.ownsRow w.heap.size 81 2 s7 j (flat (cp acc))) ∧ Hid (acc.length = j) ∧ ((s8 = .int .i64 0 ∧ j = 0 ∧ room = 0 ∧ Hid (res = parseR r)) ∨ ∃ k : Nat, k = j + 1 ∧ s8 = .int .i64 k ∧ Hid (res = finR room (restF acc r))) ∧ Hid (j + r.length ≤ t.length) ∧ Hid (Below w.heap.size w wx)) (fun s0 _ _ _ _ => strLen s0)
  case atStart => exact ⟨0, 0, [], t, T, rfl, HT.out, rfl, crow_none, rfl, Or.inl ⟨rfl, rfl, rfl, HRES.out⟩, by unfold Hid; omega, Below.refl _ _⟩
  case round =>
    obtain ⟨j, room, acc, r, R, rfl, HRR, rfl, HO, HJ, hph, HLN, HB⟩ := hrel
    clear HRES HT
    obtain ⟨Lo, co, rfl⟩ := crow_shape HO.out
    have HLX : Hid (LibW wr) := HLW.out.below HB.out
    obtain ⟨l, s, wh, hcut⟩ : ∃ l s wh, Lib.cut r [10] = (l, s, wh) := ⟨_, _, _, rfl⟩
    obtain ⟨Lb, hLb⟩ : ∃ Lb : ByteArray, Lb = ⟨l.toArray⟩ := ⟨_, rfl⟩
    obtain ⟨Rb, hRb⟩ : ∃ Rb : ByteArray, Rb = ⟨s.toArray⟩ := ⟨_, rfl⟩
    have HC : Hid (∀ u, LibW u → Calls Tryd.prog 82 #[.string R, .string { data := #[10] }] u fun e w' => e = .returned (.tuple #[.string Lb, .string Rb, .bool wh]) ∧ ∃ n, w' = u.drewN n) := fun u hu => by
      have h := cut_any r [10] (by have := HLN.out; have := HTL.out; omega) u hu
      rw [hcut] at h
      rw [HRR.out, hLb, hRb]
      exact h
    have HRb := Lib.hid hRb
    clear hRb
    rcases hph with ⟨rfl, rfl, rfl, HPH⟩ | ⟨k, hk, rfl, HPH⟩
    · obtain rfl : acc = [] := List.length_eq_zero_iff.1 HJ.out
      obtain ⟨nr, hnr⟩ : ∃ nr, nr = numsP l wRoom 1 := ⟨_, rfl⟩
      have HNU : Hid (∀ u, LibW u → Calls Tryd.prog 83 #[.string Lb, .string { data := #[114, 111, 111, 109] }, .int .i64 1] u fun e w' => NuOut u nr e w') := fun u hu => by
        rw [hnr, hLb]
        exact numbers_any l wRoom 1 (by have := cut_len1 r; rw [hcut] at this; have := HLN.out; have := HTL.out; simp only at *; omega) (by decide) (by decide) u hu
      have HNR := Lib.hid hnr
      have HCUT := Lib.hid hcut
      clear hnr hcut hLb
      cases nr with
      | none =>
        have hz : roomZ r = none := by rw [← roomP_eq]; unfold roomP; rw [HCUT.out]; simp only; rw [← HNR.out]; simp
        have hr : Hid (res = (0, [], 0, 1)) := HPH.out.trans (by unfold parseR; rw [hz])
        clear hz
        go_wp2_with fail
        refine (HC.out _ HLX.out).mono ?_
        rintro e w3 ⟨rfl, m3, rfl⟩
        have HB3 : Hid (Below w.heap.size w (wr.drewN m3)) := below_drewN HB.out _
        have HO3 : Hid ((wr.drewN m3).ownsRow w.heap.size 81 2 (.slice Lo 0 co) 0 (flat (cp []))) := HO.out
        clear HO
        generalize wr.drewN m3 = w3 at *
        go_wp2_with fail
        refine (HNU.out _ (HLW.out.below HB3.out)).mono ?_
        rintro e w4 ⟨rfl, hb4⟩
        have HB4 : Hid (Below w.heap.size w w4) := HB3.out.trans (hb4.mono HB3.out.size)
        clear hb4
        cases wh with
        | true =>
          go_wp2_with fail
          (try simp only [Exit.inBlock, Exit.then])
          refine bodyPost_ret (results_tmp4 rfl _ _ _) rfl ?_
          exact ⟨none, 0, by rw [hr.out]; rfl, by rw [hr.out]; exact Nat.le_refl _, by rw [hr.out]; exact Seg.nil, HB4.out⟩
        | false =>
          go_wp2_with fail
          (try simp only [Exit.inBlock, Exit.then])
          refine bodyPost_ret (results_tmp4 rfl _ _ _) rfl ?_
          exact ⟨none, 0, by rw [hr.out]; rfl, by rw [hr.out]; exact Nat.le_refl _, by rw [hr.out]; exact Seg.nil, HB4.out⟩
      | some ln =>
        cases wh with
        | false =>
          have hz : roomZ r = none := by rw [← roomP_eq]; unfold roomP; rw [HCUT.out]; rfl
          have hr : Hid (res = (0, [], 0, 1)) := HPH.out.trans (by unfold parseR; rw [hz])
          clear hz
          go_wp2_with fail
          refine (HC.out _ HLX.out).mono ?_
          rintro e w3 ⟨rfl, m3, rfl⟩
          have HB3 : Hid (Below w.heap.size w (wr.drewN m3)) := below_drewN HB.out _
          have HO3 : Hid ((wr.drewN m3).ownsRow w.heap.size 81 2 (.slice Lo 0 co) 0 (flat (cp []))) := HO.out
          clear HO
          generalize wr.drewN m3 = w3 at *
          go_wp2_with fail
          refine (HNU.out _ (HLW.out.below HB3.out)).mono ?_
          rintro e w4 ⟨An, cn, rfl, hsn, hb4⟩
          have HB4 : Hid (Below w.heap.size w w4) := HB3.out.trans (hb4.mono HB3.out.size)
          clear hb4 hsn
          go_wp2_with fail
          (try simp only [Exit.inBlock, Exit.then])
          refine bodyPost_ret (results_tmp4 rfl _ _ _) rfl ?_
          exact ⟨none, 0, by rw [hr.out]; rfl, by rw [hr.out]; exact Nat.le_refl _, by rw [hr.out]; exact Seg.nil, HB4.out⟩
        | true =>
          obtain ⟨x, rfl⟩ : ∃ x, ln = [x] := by
            have h := nums_len HNR.out.symm
            match ln, h with
            | [x], _ => exact ⟨x, rfl⟩
          have hz : roomZ r = some (x, s) := by rw [← roomP_eq]; unfold roomP; rw [HCUT.out]; simp only; rw [← HNR.out]; rfl
          have hr : Hid (res = finR x (restF [] s)) := HPH.out.trans (by unfold parseR; rw [hz])
          have HSL : Hid (s.length < r.length) := (cut_len HCUT.out).1
          clear hz
          go_wp2_with fail
          refine (HC.out _ HLX.out).mono ?_
          rintro e w3 ⟨rfl, m3, rfl⟩
          have HB3 : Hid (Below w.heap.size w (wr.drewN m3)) := below_drewN HB.out _
          have HO3 : Hid ((wr.drewN m3).ownsRow w.heap.size 81 2 (.slice Lo 0 co) 0 (flat (cp []))) := HO.out
          clear HO
          generalize wr.drewN m3 = w3 at *
          go_wp2_with fail
          refine (HNU.out _ (HLW.out.below HB3.out)).mono ?_
          rintro e w4 ⟨An, cn, rfl, hsn, hb4⟩
          have HB4 : Hid (Below w.heap.size w w4) := HB3.out.trans (hb4.mono HB3.out.size)
          have HO4 := Lib.hid (crow_below HO3.out hb4 (Nat.le_refl _))
          obtain ⟨an, rfl, _, hcn⟩ := hsn.get (k := 0) (u := .int .i64 (x : Int)) rfl
          rw [addr_zero] at hcn
          clear hb4 hsn HO3
          go_wp2_with fail
          go_roundw
          case rel => exact ⟨0, x, [], s, Rb, rfl, HRb.out, by first | rfl | trivial, HO4.out, rfl, Or.inr ⟨1, rfl, rfl, hr.out⟩, by have := HLN.out; have := HSL.out; unfold Hid; omega, HB4.out⟩
          case measure =>
            show Rb.size < R.size
            rw [HRb.out, HRR.out]
            exact HSL.out
    · by_cases hne : r = []
      · have f1 : R.toList.isEmpty = true := by rw [HRR.out, sv_empty, hne]; rfl
        have b0 : ((k : Int) == 0) = false := by rw [beq_eq_false_iff_ne]; omega
        have hr : Hid (res = (room, acc, 0, 0)) := HPH.out.trans (by rw [hne, restF_nil]; rfl)
        obtain ⟨A9, c10, e9, hc9, hs9⟩ := crow_pairs HO.out
        have HE := Lib.hid (And.intro e9 (And.intro hc9 hs9))
        clear hne e9 hc9 hs9 HC hLb hcut hk
        go_wp2_with fail
        (try simp only [Exit.inBlock, Exit.then])
        refine bodyPost_ret (results_tmp4 rfl _ _ _) rfl ?_
        obtain ⟨e9, hc9, hs9⟩ := HE.out
        rw [cp_len] at e9 hc9
        refine ⟨A9, c10, ?_, by rw [hr.out]; exact hc9, by rw [hr.out]; exact hs9, HB.out⟩
        rw [hr.out]
        show _ = Ending.returned (.tuple #[_, .slice A9 acc.length c10, _, _])
        rw [← e9]
        rfl
      · have HNE : Hid (r ≠ []) := hne
        have f1 : R.toList.isEmpty = false := by
          rw [HRR.out, sv_empty]
          cases r with
          | nil => exact absurd rfl hne
          | cons c t => rfl
        have b0 : ((k : Int) == 0) = false := by rw [beq_eq_false_iff_ne]; omega
        subst hk
        clear hne
        obtain ⟨nr, hnr⟩ : ∃ nr, nr = numsP l wAdd 2 := ⟨_, rfl⟩
        have HNU : Hid (∀ u, LibW u → Calls Tryd.prog 83 #[.string Lb, .string { data := #[97, 100, 100] }, .int .i64 2] u fun e w' => NuOut u nr e w') := fun u hu => by
          rw [hnr, hLb]
          exact numbers_any l wAdd 2 (by have := cut_len1 r; rw [hcut] at this; have := HLN.out; have := HTL.out; simp only at *; omega) (by decide) (by decide) u hu
        have HNR := Lib.hid hnr
        have HCUT := Lib.hid hcut
        clear hnr hcut hLb
        cases nr with
        | none =>
          have hz : addZ r = none := by rw [← addP_eq]; unfold addP; rw [HCUT.out]; simp only; rw [← HNR.out]; simp
          have hr : Hid (res = (0, [], j + 1, 1)) := HPH.out.trans (by rw [restF_bad HNE.out hz, HJ.out]; rfl)
          clear hz
          go_wp2_with fail
          refine (HC.out _ HLX.out).mono ?_
          rintro e w3 ⟨rfl, m3, rfl⟩
          have HB3 : Hid (Below w.heap.size w (wr.drewN m3)) := below_drewN HB.out _
          have HO3 : Hid ((wr.drewN m3).ownsRow w.heap.size 81 2 (.slice Lo j co) j (flat (cp acc))) := HO.out
          clear HO
          generalize wr.drewN m3 = w3 at *
          go_wp2_with fail
          refine (HNU.out _ (HLW.out.below HB3.out)).mono ?_
          rintro e w4 ⟨rfl, hb4⟩
          have HB4 : Hid (Below w.heap.size w w4) := HB3.out.trans (hb4.mono HB3.out.size)
          clear hb4
          cases wh with
          | true =>
            go_wp2_with fail
            (try simp only [Exit.inBlock, Exit.then])
            refine bodyPost_ret (results_tmp4 rfl _ _ _) rfl ?_
            exact ⟨none, 0, by rw [hr.out]; rfl, by rw [hr.out]; exact Nat.le_refl _, by rw [hr.out]; exact Seg.nil, HB4.out⟩
          | false =>
            go_wp2_with fail
            (try simp only [Exit.inBlock, Exit.then])
            refine bodyPost_ret (results_tmp4 rfl _ _ _) rfl ?_
            exact ⟨none, 0, by rw [hr.out]; rfl, by rw [hr.out]; exact Nat.le_refl _, by rw [hr.out]; exact Seg.nil, HB4.out⟩
        | some ln =>
          cases wh with
          | false =>
            have hz : addZ r = none := by rw [← addP_eq]; unfold addP; rw [HCUT.out]; rfl
            have hr : Hid (res = (0, [], j + 1, 1)) := HPH.out.trans (by rw [restF_bad HNE.out hz, HJ.out]; rfl)
            clear hz
            go_wp2_with fail
            refine (HC.out _ HLX.out).mono ?_
            rintro e w3 ⟨rfl, m3, rfl⟩
            have HB3 : Hid (Below w.heap.size w (wr.drewN m3)) := below_drewN HB.out _
            have HO3 : Hid ((wr.drewN m3).ownsRow w.heap.size 81 2 (.slice Lo j co) j (flat (cp acc))) := HO.out
            clear HO
            generalize wr.drewN m3 = w3 at *
            go_wp2_with fail
            refine (HNU.out _ (HLW.out.below HB3.out)).mono ?_
            rintro e w4 ⟨An, cn, rfl, hsn, hb4⟩
            have HB4 : Hid (Below w.heap.size w w4) := HB3.out.trans (hb4.mono HB3.out.size)
            clear hb4 hsn
            go_wp2_with fail
            (try simp only [Exit.inBlock, Exit.then])
            refine bodyPost_ret (results_tmp4 rfl _ _ _) rfl ?_
            exact ⟨none, 0, by rw [hr.out]; rfl, by rw [hr.out]; exact Nat.le_refl _, by rw [hr.out]; exact Seg.nil, HB4.out⟩
          | true =>
            obtain ⟨x, d, rfl⟩ : ∃ x d, ln = [x, d] := by
              have h := nums_len HNR.out.symm
              match ln, h with
              | [x, d], _ => exact ⟨x, d, rfl⟩
            have hz : addZ r = some (x, d, s) := by rw [← addP_eq]; unfold addP; rw [HCUT.out]; simp only; rw [← HNR.out]; rfl
            have hr : Hid (res = finR room (restF (acc ++ [(x, d)]) s)) := HPH.out.trans (by rw [restF_step hz])
            have HSL : Hid (s.length < r.length) := (cut_len HCUT.out).1
            have HK4 : Hid (j ≤ 8000000000000) := by have := HLN.out; have := HTL.out; unfold Hid; omega
            have ui : Hid (wrap64 (((j + 1 : Nat) : Int) + 1) = ((j + 1 + 1 : Nat) : Int)) := by have := HK4.out; unfold Hid; rw [wr64 _ (by omega) (by omega)]; omega
            clear hz
            go_wp2_with fail
            refine (HC.out _ HLX.out).mono ?_
            rintro e w3 ⟨rfl, m3, rfl⟩
            have HB3 : Hid (Below w.heap.size w (wr.drewN m3)) := below_drewN HB.out _
            have HO3 : Hid ((wr.drewN m3).ownsRow w.heap.size 81 2 (.slice Lo j co) j (flat (cp acc))) := HO.out
            clear HO
            generalize wr.drewN m3 = w3 at *
            go_wp2_with fail
            refine (HNU.out _ (HLW.out.below HB3.out)).mono ?_
            rintro e w4 ⟨An, cn, rfl, hsn, hb4⟩
            have HB4 : Hid (Below w.heap.size w w4) := HB3.out.trans (hb4.mono HB3.out.size)
            have HO4 := Lib.hid (crow_below HO3.out hb4 (Nat.le_refl _))
            obtain ⟨an, rfl, _, hcn⟩ := hsn.get (k := 0) (u := .int .i64 (x : Int)) rfl
            obtain ⟨_, e1, _, hcm⟩ := hsn.get (k := 1) (u := .int .i64 (d : Int)) rfl
            injection e1 with e1
            subst e1
            rw [addr_zero] at hcn
            have hadd1 : (⟨an.block, an.off + 1, none⟩ : Addr) = an.add 1 := by unfold Addr.add; rw [if_neg (by decide)]
            have hcm2 : w4.cell? ⟨an.block, an.off + 1, none⟩ = some (.int .i64 (d : Int)) := by rw [hadd1]; exact hcm
            clear hb4 hsn HO3 hadd1
            have HOA : Hid ((w4.alloc (.cells #[.int .i64 (x : Int), .int .i64 (d : Int)] 81)).ownsRow w.heap.size 81 2 (.slice Lo j co) j (flat (cp acc))) := World.ownsRow.alloc HO4.out _
            have HCA : Hid (∀ j u, [Value.int .i64 (x : Int), .int .i64 (d : Int)][j]? = some u → (w4.alloc (.cells #[.int .i64 (x : Int), .int .i64 (d : Int)] 81)).cell? ((⟨w4.heap.size, 0, none⟩ : Addr).add j) = some u) := crow_new2 _ _ _ _
            have HSA : Hid (w.heap.size ≤ (w4.alloc (.cells #[.int .i64 (x : Int), .int .i64 (d : Int)] 81)).heap.size) := by have := HB4.out.size; unfold Hid; simp; omega
            have HBA : Hid (Below w.heap.size w (w4.alloc (.cells #[.int .i64 (x : Int), .int .i64 (d : Int)] 81))) := HB4.out.alloc HB4.out.size _
            go_wp2_with fail
            go_region_law? (refine step_pushC _ rfl _ _ rfl w.heap.size (.slice Lo j co) j (flat (cp acc)) (by simp [Act.eval]) HOA.out x d ⟨w4.heap.size, 0, none⟩ 1 (by simp [Act.eval]) HCA.out HK4.out HSA.out ?_; intro v6 w6 hown6 hbel6 hgr6; have HO6 := Lib.hid hown6; have HB6 : Hid (Below w.heap.size w w6) := (by first | exact HBA.out.trans hbel6 | exact HBA.out.trans (below_of_drew hbel6)); clear hown6 hbel6 hgr6)
            all_goals go_wp2_with fail
            all_goals
              have HO7 : Hid (w6.ownsRow w.heap.size 81 2 v6 (j + 1) (flat (cp (acc ++ [(x, d)])))) := by rw [cp_snoc]; exact HO6.out
              have HK7 : Hid (j + 1 = (acc ++ [(x, d)]).length) := by rw [List.length_append, HJ.out]; rfl
              have HL7 : Hid (j + 1 + s.length ≤ t.length) := by have := HLN.out; have := HSL.out; unfold Hid; omega
              refine ⟨?_, ?_⟩
              · exact ⟨j + 1, room, acc ++ [(x, d)], s, Rb, rfl, HRb.out, rfl, HO7, HK7.out.symm, Or.inr ⟨j + 1 + 1, rfl, by first | rfl | exact congrArg (Value.int .i64) ui.out, hr.out⟩, HL7, HB6.out⟩
              · show Rb.size < R.size
                rw [HRb.out, HRR.out]
                exact HSL.out
end Go.Proofs.YtmibifmabkaakaaDoor
