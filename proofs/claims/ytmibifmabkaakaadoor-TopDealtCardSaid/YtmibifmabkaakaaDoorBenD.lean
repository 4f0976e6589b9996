/- What bench.Tell tells, plain; lists of strings; worlds that grow. No condition. bench.Tell; the reference's ZTell: walked. No condition but the text's own size and the library's tables. slices.Equal at []string, walked; bench.Tell on the text that alive asks; alive; the law BenchTells: walked. No condition but the text's own size and the library's tables. -/
import Derived.Test.YtmibifmabkaakaaDoorBenB
import Derived.Test.YtmibifmabkaakaaDoorPoolG
namespace Go.Proofs.YtmibifmabkaakaaDoor
open Go.ChangeShapes Go.WideShapes Go.ChangeAt Go.RowKit
set_option linter.unusedVariables false

section
variable {P : Program} (w : World)
/-- wpList_push, with what is left as it was. -/
theorem wpList_pushT {ops : Array Oper} {rest : List Oper} {o : Oper} {a : Act} {Q : Exit → Act → World → Prop} (hgd : o.guard = none) (s x : Operand) (t e : TypeId) (b : Nat)
    (E1 : Elem1 P t e b) (ho : o.op = .call { callee := .builtin .append, args := #[s, x], argTypes := #[t, t] })
    (base : Nat) (v : Value) (xs : List Value) (hs : a.eval s = v) (hown : Own w base e v xs) (u : Value) (ad : Addr) (c : Nat) (hx : a.eval x = .slice (some ad) 1 c)
    (hc : w.cell? ad = some u) (hu : u.oneCell' = true) (hb : (xs.length + 1) * b ≤ 140737488355328) (hm : xs.length + 1 ≤ maxLen) (hbase : base ≤ w.heap.size)
    (h : ∀ v' w', Own w' base e v' (xs ++ [u]) → w.grownBy w' v.ownBlock → wpList P ops Q rest (a.put o.dst v') w') : wpList P ops Q (o :: rest) a w := by
  obtain ⟨ht, i, z, hi, hz, hsz, hby, hzs⟩ := E1
  refine wpList_append_own w hgd s x t ho base e i z 1 b ht hi hz hsz hby hzs (by decide) v xs.length xs hs hown ad 1 c [u] hx rfl (fun j y hy => ?_) (by simpa using hu) hm hb hbase ?_
  · have hj : j = 0 := by
      have := (List.getElem?_eq_some_iff.1 hy).1
      simp at this
      exact this
    subst hj
    simp at hy
    subst hy
    exact hc
  · intro v' w' h1 h2 _
    exact h v' w' (Own.to h1) h2
end
theorem tseg_grown {w w' : World} {e t k : Nat} {A : Option Addr} {xs : List Value} {cs : Array Value} (h : TSeg w e A xs) (hb : w.grownBy w' (some k)) (hg : Blk w k t cs) (hne : t ≠ e) : TSeg w' e A xs := by
  by_cases h0 : 0 < xs.length
  · obtain ⟨ad, c, ha, hc⟩ := h.2 h0
    have hbl : ad.block ≠ k := by
      intro e1
      rw [e1] at hc
      unfold Blk at hg
      rw [hg] at hc
      injection hc with hc
      injection hc with _ h2 _
      exact hne h2
    obtain ⟨ad', ha', hlt, hcs⟩ := h.1 h0
    obtain rfl : ad = ad' := by rw [ha] at ha'; injection ha'
    have hbk : w'.heap[ad.block]? = w.heap[ad.block]? := hb.block _ hlt (by simpa using hbl)
    refine ⟨fun _ => ⟨ad, ha, by have := hb.size; omega, fun i v hk => ?_⟩, fun _ => ⟨ad, c, ha, hbk.trans hc⟩⟩
    exact (World.cell?_of_block (w := w) (a := ad.add i) (by rw [addr_block]; exact hbk)).trans (hcs i v hk)
  · have : xs = [] := List.eq_nil_of_length_eq_zero (by omega)
    subst this
    exact TSeg.nil
theorem tseg_push {w w' : World} {e t base : Nat} {A : Option Addr} {xs ys : List Value} {v : Value} (h : TSeg w e A xs) (ho : Own w base t v ys) (hne : t ≠ e) (hb : w.grownBy w' v.ownBlock) : TSeg w' e A xs := by
  rcases ho.2 with ⟨rfl, _⟩ | ⟨g, cap, cur, rfl, _, hh, _⟩
  · exact h.below ((Below.refl _ _).grown hb (Nat.le_refl _) (fun q hq => by cases hq))
  · exact tseg_grown (t := t) (k := g) (cs := cur) h hb hh hne
theorem blk_push {w w' : World} {g base : Nat} {t e : TypeId} {cs : Array Value} {v : Value} {xs : List Value} (h : Blk w g t cs) (ho : Own w base e v xs) (hg : g < base) (hb : w.grownBy w' v.ownBlock) : Blk w' g t cs :=
  h.row hb (fun k hk => by have := ho.block k hk; omega)
theorem own_put {w w' : World} {g base : Nat} {e : TypeId} {v : Value} {xs : List Value} (h : Own w base e v xs) (hb : w.grownBy w' (some g)) (hg : g < base) : Own w' base e v xs :=
  h.keepRow hb fun q hq e1 => by have := h.block q hq; omega
abbrev tSt : TypeId := 9
theorem elem_strs : Elem1 Tryd.prog 69 9 16 := elem_of (z := .string ByteArray.empty) Tryd.underlying69 (by kernel_rfl) rfl
abbrev Pl := Int × Int × List Int
def okS : Bs := [111, 107]
def errS (e : Int) : Bs := [101, 114, 114, 111, 114, 32] ++ Lib.itoa e
def tstep (st : Pl × List Bs) (xd : Nat × Nat) : Pl × List Bs :=
  if (padd st.1.1 st.1.2.1 st.1.2.2 xd.1 xd.2).2 = 0 then ((padd st.1.1 st.1.2.1 st.1.2.2 xd.1 xd.2).1, st.2 ++ [okS]) else (st.1, st.2 ++ [errS (padd st.1.1 st.1.2.1 st.1.2.2 xd.1 xd.2).2])
def tgo (st : Pl × List Bs) (l : List (Nat × Nat)) : Pl × List Bs := l.foldl tstep st
theorem tgo_step (st : Pl × List Bs) (l : List (Nat × Nat)) {k : Nat} (hk : k < l.length) : tgo st (l.take (k + 1)) = tstep (tgo st (l.take k)) l[k] := by
  unfold tgo
  rw [List.take_succ_eq_append_getElem hk, List.foldl_append]
  rfl
theorem tgo_len : ∀ (l : List (Nat × Nat)) (st : Pl × List Bs), (tgo st l).2.length = st.2.length + l.length
  | [], st => rfl
  | x :: l, st => by
    show (tgo (tstep st x) l).2.length = _
    rw [tgo_len l]
    unfold tstep
    split <;> simp <;> omega
theorem padd_err_lt {r k x d : Int} {zs : List Int} : 0 ≤ (padd r k zs x d).2 ∧ (padd r k zs x d).2 ≤ 4 := by
  unfold padd
  by_cases h0 : padde r k d zs.length = 0
  · rw [if_pos h0]; simp
  · rw [if_neg h0]
    show 0 ≤ padde r k d zs.length ∧ padde r k d zs.length ≤ 4
    unfold padde
    split
    · split
      · decide
      · split <;> decide
    · decide
/-- A pool as it may be. -/
def GoodP (p : Pl) : Prop := 0 ≤ p.2.1 ∧ p.2.1 ≤ 1099511627776 ∧ p.2.2.length ≤ 401 ∧ ∀ x ∈ p.2.2, 0 ≤ x ∧ x ≤ 1099511627776
def keptS (p : Pl) (k : Nat) : Bs := [107, 101, 112, 116, 32] ++ Lib.itoa p.2.1 ++ (p.2.2.take k).flatMap fun x => 32 :: Lib.itoa x
/-- What Tell hands back. -/
def tellR (t : Bs) : List Bs × Nat :=
  if (parseR t).2.2.2 ≠ 0 then ([], (parseR t).2.2.2)
  else if 1 ≤ (parseR t).1 ∧ (parseR t).1 ≤ 400 then ((tgo (((parseR t).1, 0, []), []) (parseR t).2.1).2 ++ [keptS (tgo (((parseR t).1, 0, []), []) (parseR t).2.1).1 (tgo (((parseR t).1, 0, []), []) (parseR t).2.1).1.2.2.length], 0)
  else ([], 2)
def TeOut (w : World) (r : List Bs × Nat) (e : Ending) (w' : World) : Prop :=
  ∃ A c, e = .returned (.tuple #[.slice A r.1.length c, .int .i64 (r.2 : Nat)]) ∧ r.1.length ≤ c ∧ Seg w' w'.heap.size A (r.1.map SV) ∧ Below w.heap.size w w'

set_option linter.unusedVariables false

abbrev tPl : TypeId := 113
abbrev tCo : TypeId := 81
theorem restR_ok : ∀ (f : Nat) (acc : List (Nat × Nat)) (t : Bs) (l : List (Nat × Nat)), restR f acc t = .inr l → (∀ p ∈ acc, p.1 ≤ MaxC ∧ p.2 ≤ MaxC) → (∀ p ∈ l, p.1 ≤ MaxC ∧ p.2 ≤ MaxC) ∧ l.length ≤ acc.length + f
  | 0, acc, t, l, h, ha => by injection h with h; subst h; exact ⟨ha, Nat.le_refl _⟩
  | f + 1, acc, t, l, h, ha => by
    unfold restR at h
    split at h
    · injection h with h; subst h; exact ⟨ha, by omega⟩
    · split at h
      · cases h
      · rename_i x d r hz
        obtain ⟨h1, h2, _⟩ := (addZ_iff _ _ _ _).1 hz
        obtain ⟨g1, g2⟩ := restR_ok f _ r l h fun p hp => by
          rcases List.mem_append.1 hp with hp | hp
          · exact ha p hp
          · rw [List.mem_singleton.1 hp]; exact ⟨h1, h2⟩
        refine ⟨g1, ?_⟩
        rw [List.length_append, List.length_singleton] at g2
        omega
theorem parse_ok {t : Bs} {room : Nat} {l : List (Nat × Nat)} {k c : Nat} (h : parseR t = (room, l, k, c)) : (∀ p ∈ l, p.1 ≤ MaxC ∧ p.2 ≤ MaxC) ∧ l.length ≤ t.length ∧ room ≤ MaxC ∧ c ≤ 1 := by
  unfold parseR at h
  split at h
  · injection h with h1 h; injection h with h2 h; injection h with h3 h4
    subst h1 h2 h4
    exact ⟨fun p hp => by simp at hp, Nat.zero_le _, Nat.zero_le _, Nat.le_refl _⟩
  · rename_i rm r hz
    have hlt : r.length ≤ t.length := by
      obtain ⟨_, e⟩ := (roomZ_iff _ _ _).1 hz
      rw [e]; simp; omega
    cases hr : restF [] r with
    | inl k2 =>
      rw [hr] at h
      injection h with h1 h; injection h with h2 h; injection h with h3 h4
      subst h1 h2 h4
      exact ⟨fun p hp => by simp at hp, Nat.zero_le _, Nat.zero_le _, Nat.le_refl _⟩
    | inr l2 =>
      rw [hr] at h
      injection h with h1 h; injection h with h2 h; injection h with h3 h4
      subst h1 h2 h4
      obtain ⟨g1, g2⟩ := restR_ok r.length [] r _ hr (fun p hp => by simp at hp)
      refine ⟨g1, ?_, ((roomZ_iff _ _ _).1 hz).1, Nat.zero_le _⟩
      simp at g2
      omega
theorem good_step {r kk : Int} {zs : List Int} {X D : Nat} (h : GoodP (r, kk, zs)) (hX : X ≤ MaxC) (h0 : (padd r kk zs X D).2 = 0) : GoodP (padd r kk zs X D).1 := by
  have hX : X ≤ 1099511627776 := hX
  have hl := padd_len r kk X D zs
  refine ⟨?_, ?_, hl, ?_⟩
  · unfold padd at h0 ⊢
    by_cases h1 : padde r kk D zs.length = 0
    · rw [if_pos h1]; have := h.1; show 0 ≤ kk + 1; simp only at this; omega
    · rw [if_neg h1] at h0; exact absurd h0 h1
  · unfold padd at h0 ⊢
    by_cases h1 : padde r kk D zs.length = 0
    · rw [if_pos h1]; have g := padde_zero h1; have := h.2.1; simp only at this; show kk + 1 ≤ _; omega
    · rw [if_neg h1] at h0; exact absurd h0 h1
  · intro y hy
    unfold padd at h0 hy
    by_cases h1 : padde r kk D zs.length = 0
    · rw [if_pos h1] at hy
      have hy : y ∈ paddl r X D zs := hy
      have ho := h.2.2.2
      unfold paddl at hy
      split at hy
      · rcases List.mem_append.1 hy with e | e
        · exact ho y e
        · rw [List.mem_singleton.1 e]; omega
      · split at hy
        · rcases List.mem_or_eq_of_mem_set hy with e | e
          · exact ho y e
          · rw [e]; omega
        · exact ho y hy
    · rw [if_neg h1] at h0; exact absurd h0 h1
theorem good_new (room : Int) : GoodP (room, 0, []) := ⟨Int.le_refl 0, show (0 : Int) ≤ 1099511627776 by decide, Nat.zero_le _, fun x hx => by simp at hx⟩
/-- Where Tell stands: the pool in block gp, what it has, what is told so far. -/
def TS (w2 w : World) (gp : Nat) (r kk : Int) (zs : List Int) (Ap : Option Addr) (L cc : Nat) (o : List Bs) (s9 : Value) : Prop :=
  Blk w gp tPl (pcells r kk (.slice Ap L cc)) ∧ TSeg w 3 Ap (zs.map (.int .i64)) ∧ Own w (gp + 1) tSt s9 (o.map SV) ∧ Below w2.heap.size w2 w ∧ gp + 1 ≤ w.heap.size ∧ w2.heap.size ≤ gp
section
variable {w2 w w' : World} {gp L cc L2 c6 : Nat} {r kk r2 k2 : Int} {zs zs2 : List Int} {Ap A6 : Option Addr} {o : List Bs} {s9 v : Value} {b : Bs}
theorem TS.below (h : TS w2 w gp r kk zs Ap L cc o s9) (hb : Below w.heap.size w w') : TS w2 w' gp r kk zs Ap L cc o s9 := by
  obtain ⟨h1, h2, h3, h4, h5, h6⟩ := h
  exact ⟨h1.below hb h1.lt, h2.below hb, h3.below hb (Nat.le_refl _), h4.trans (hb.mono h4.size), Nat.le_trans h5 hb.size, h6⟩
theorem TS.push (h : TS w2 w gp r kk zs Ap L cc o s9) (ho : Own w' (gp + 1) tSt v (o.map SV ++ [SV b])) (hg : w.grownBy w' s9.ownBlock) : TS w2 w' gp r kk zs Ap L cc (o ++ [b]) v := by
  obtain ⟨h1, h2, h3, h4, h5, h6⟩ := h
  exact ⟨blk_push h1 h3 (Nat.lt_succ_self _) hg, tseg_push h2 h3 (by decide) hg, by rw [List.map_append]; exact ho, Below.grown h4 hg h4.size (fun q hq => by have := h3.block q hq; omega), Nat.le_trans h5 hg.size, h6⟩
theorem TS.put (h : TS w2 w gp r kk zs Ap L cc o s9) (ht : TSeg w 3 A6 (zs2.map (.int .i64))) (hb : Blk w' gp tPl (pcells r2 k2 (.slice A6 L2 c6))) (hg : w.grownBy w' (some gp)) : TS w2 w' gp r2 k2 zs2 A6 L2 c6 o s9 := by
  obtain ⟨h1, h2, h3, h4, h5, h6⟩ := h
  exact ⟨hb, tseg_grown ht hg h1 (by decide), own_put h3 hg (Nat.lt_succ_self _), Below.grown h4 hg h4.size (fun q hq => by injection hq with hq; omega), Nat.le_trans h5 hg.size, h6⟩
end
theorem cat_sv (a b : Bs) (A B : ByteArray) (ha : A = ⟨a.toArray⟩) (hb : B = ⟨b.toArray⟩) : A ++ B = ⟨(a ++ b).toArray⟩ := by rw [ha, hb, sv_append]
theorem prat_cp {l : List (Nat × Nat)} {k : Nat} (hk : k < l.length) : prat (cp l) k = (((l[k]).1 : Int), ((l[k]).2 : Int)) := by
  unfold prat cp
  rw [List.getD_eq_getElem?_getD, List.getElem?_map, List.getElem?_eq_getElem hk]
  rfl
theorem kept_step (p : Pl) {j : Nat} (hj : j < p.2.2.length) : keptS p (j + 1) = keptS p j ++ 32 :: Lib.itoa p.2.2[j] := by
  unfold keptS
  rw [List.take_succ_eq_append_getElem hj, List.flatMap_append]
  simp
theorem kept_len {p : Pl} (h : GoodP p) (j : Nat) : (keptS p j).length ≤ 26 + 22 * j := by
  have hi : ∀ n : Int, 0 ≤ n → n ≤ 1099511627776 → (Lib.itoa n).length ≤ 21 := fun n h0 h1 => Lib.itoa_length_le n (by omega) (by omega)
  unfold keptS
  rw [List.length_append, List.length_append]
  have h1 := hi p.2.1 h.1 h.2.1
  have h2 : ∀ (l : List Int), (∀ x ∈ l, 0 ≤ x ∧ x ≤ 1099511627776) → (l.flatMap fun x => 32 :: Lib.itoa x).length ≤ 22 * l.length := by
    intro l hl
    induction l with
    | nil => simp
    | cons x l ih =>
      have hx := hl x (by simp)
      have h3 := hi x hx.1 hx.2
      have h4 := ih fun y hy => hl y (by simp [hy])
      rw [List.flatMap_cons, List.length_append, List.length_cons, List.length_cons]
      omega
  have h3 := h2 (p.2.2.take j) fun x hx => h.2.2.2 x (List.mem_of_mem_take hx)
  rw [List.length_take] at h3
  have : ([107, 101, 112, 116, 32] : Bs).length = 5 := rfl
  have : min j p.2.2.length ≤ j := Nat.min_le_left _ _
  omega
set_option maxRecDepth 20000 in
set_option maxHeartbeats 4000000 in
theorem tell_any (t : Bs) (ht : t.length ≤ 4000000000) (w : World) (hL : LibW w) : Calls Tryd.prog 34 #[SV t] w fun e w' => TeOut w (tellR t) e w' := by
  obtain ⟨res, hres⟩ : ∃ res, res = tellR t := ⟨_, rfl⟩
  rw [← hres]
  obtain ⟨room, l, ek, code, hpr⟩ : ∃ a b c d, parseR t = (a, b, c, d) := ⟨_, _, _, _, rfl⟩
  obtain ⟨hpl, hll, hrm, hcd⟩ := parse_ok hpr
  have HRES : Hid (res = if code ≠ 0 then ([], code) else if 1 ≤ room ∧ room ≤ 400 then ((tgo (((room : Int), 0, []), []) l).2 ++ [keptS (tgo (((room : Int), 0, []), []) l).1 (tgo (((room : Int), 0, []), []) l).1.2.2.length], 0) else ([], 2)) := by
    unfold Hid
    rw [hres]
    unfold tellR
    rw [hpr]
  obtain ⟨T, hT⟩ : ∃ T : ByteArray, T = ⟨t.toArray⟩ := ⟨_, rfl⟩
  rw [show SV t = Value.string T by rw [hT]]
  obtain ⟨N, hN⟩ : ∃ N, N = l.length := ⟨_, rfl⟩
  have HPA : Hid (∀ u, LibW u → Calls Tryd.prog 39 #[.string T] u fun e w' => ∃ A c, e = .returned (.tuple #[.int .i64 (room : Nat), .slice A N c, .int .i64 (ek : Nat), .int .i64 (code : Nat)]) ∧ Seg w' w'.heap.size A (flat (cp l)) ∧ Below u.heap.size u w') := fun u hu => by
    have h := parse_any t ht u hu
    rw [hpr] at h
    rw [hT, hN]
    exact h.mono fun e w' ⟨A, c, h1, h2, h3, h4⟩ => ⟨A, c, h1, h3, h4⟩
  have HPL := Lib.hid hpl
  have HN : Hid (N = l.length ∧ N ≤ 4000000000) := ⟨hN, by omega⟩
  have HLW := Lib.hid hL
  have hrm : room ≤ 1099511627776 := hrm
  clear hres hpr hT hN hpl hll ht hL
  by_cases hc : code = 0
  · subst hc
    have HR2 : Hid (res = if 1 ≤ room ∧ room ≤ 400 then ((tgo (((room : Int), 0, []), []) l).2 ++ [keptS (tgo (((room : Int), 0, []), []) l).1 (tgo (((room : Int), 0, []), []) l).1.2.2.length], 0) else ([], 2)) := HRES.out.trans (if_neg (by simp))
    clear HRES hcd
    by_cases h1 : 1 ≤ room ∧ room ≤ 400
    · have hr : Hid (res = ((tgo (((room : Int), 0, []), []) l).2 ++ [keptS (tgo (((room : Int), 0, []), []) l).1 (tgo (((room : Int), 0, []), []) l).1.2.2.length], 0)) := HR2.out.trans (if_pos h1)
      have HNW : Hid (∀ u, Calls Tryd.prog 74 #[.int .i64 (room : Nat)] u fun e w' => (∃ Ap cp, e = .returned (.tuple #[PoolV room 0 (.slice Ap 0 cp), .int .i64 0])) ∧ Below u.heap.size u w') := fun u => by
        have h := new_any (room : Int) u
        have e : pnew (room : Int) = (((room : Int), 0, []), 0) := if_pos (by omega)
        rw [e] at h
        exact h.mono fun e w' ⟨⟨v, h1, A, c, h2, h3⟩, h4⟩ => ⟨⟨A, c, by rw [h1, h2]; rfl⟩, h4⟩
      clear h1 hrm
      go_enter Tryd.func34, Tryd.ntmps34
      go_wp2_with fail
      refine (HPA.out _ HLW.out).mono ?_
      rintro e w2 ⟨A2, c2, rfl, hs2, hb2⟩
      have HB2 := Lib.hid hb2
      have HS2 := Lib.hid hs2
      clear hs2 hb2 HPA
      go_wp2_with fail
      refine (HNW.out _).mono ?_
      rintro e w3 ⟨⟨Ap0, cp0, rfl⟩, hb3⟩
      have HB3 := Lib.hid hb3
      clear hb3
      have HKN : Hid (Blk (w3.alloc (.cells (pcells 0 0 (.slice none 0 0)) tPl)) w3.heap.size tPl (pcells 0 0 (.slice none 0 0))) := Blk.new _ _ _
      go_wp2_with (first | (refine wpList_store_blk rfl _ _ _ rfl w3.heap.size (pcells room 0 (.slice Ap0 0 cp0)) rfl rfl _ _ HKN.out (by kernel_rfl) rfl (pcells_one _ _ _ _ _) ?_; intro w4 hb4 hg4 hs4; have HK4 := Lib.hid hb4; have HG4 := Lib.hid hg4; have HS4 := Lib.hid hs4; clear hs4 hb4 hg4) | fail)
      have HB4 : Hid (Below w2.heap.size w2 w4) := Below.grown (HB3.out.alloc HB3.out.size _) HG4.out (by simp; have := HB3.out.size; omega) (fun q hq => by injection hq with hq; have := HB3.out.size; omega)
      have HGP : Hid (w2.heap.size ≤ w3.heap.size ∧ w3.heap.size + 1 ≤ w4.heap.size) := ⟨HB3.out.size, by have h := HS4.out; simp at h; omega⟩
      clear HKN HG4 HS4 HB3
      generalize w3.heap.size = gp at *
      --SET
      go_loopw [9, 37] (fun s9 s37 wx => ∃ (k : Nat) (r kk : Int) (zs : List Int) (o : List Bs) (Ap : Option Addr) (cc L : Nat), k ≤ N ∧ s37 = .int .i64 k ∧ Hid (((r, kk, zs), o) = tgo (((room : Int), 0, []), []) (l.take k)) ∧ Hid (GoodP (r, kk, zs)) ∧ Hid (L = zs.length) ∧ Hid (TS w2 wx gp r kk zs Ap L cc o s9)) (fun _ s37 _ => N - (intOf s37).toNat)
      case atStart => exact ⟨0, room, 0, [], [], Ap0, cp0, 0, Nat.zero_le _, rfl, rfl, good_new _, rfl, HK4.out, TSeg.nil, Own.none_, HB4.out, HGP.out.2, HGP.out.1⟩
      case round =>
        clear HK4 HB4 HR2 HGP
        obtain ⟨k, r, kk, zs, o, Ap, cc, L, hkN, rfl, HSTT, HGD, HL, HTS⟩ := hrel
        have HBX := Lib.hid HTS.out.2.2.2.1
        have HLX : Hid (LibW wr) := HLW.out.below (HB2.out.trans (HBX.out.mono HB2.out.size))
        have HGZ : Hid (gp < wr.heap.size) := HTS.out.2.2.2.2.1
        have hol : o.length = k := by
          have h := tgo_len (l.take k) (((room : Int), 0, []), [])
          rw [← HSTT.out] at h
          rw [List.length_take, Nat.min_eq_left (by have := HN.out; omega)] at h
          simpa using h
        have HNB : Hid (((o.map SV).length + 1) * 16 ≤ 140737488355328 ∧ (o.map SV).length + 1 ≤ maxLen) := by
          have := HN.out.2
          unfold Hid maxLen
          rw [List.length_map]
          omega
        clear hol
        by_cases hlt : k < N
        · have hk2 : k < l.length := by rw [← HN.out.1]; exact hlt
          have hst := tgo_step (((room : Int), 0, []), []) l hk2
          rw [← HSTT.out] at hst
          have hpq := HPL.out l[k] (List.getElem_mem hk2)
          have hsl : Seg wr wr.heap.size A2 (flat (cp l)) := (HS2.out.below HBX.out).more HBX.out.size
          obtain ⟨ad, e1, _, hc1, hc2⟩ := hsl.pair (k := k) (by rw [cp_len]; exact hk2)
          rw [prat_cp hk2] at hc1 hc2
          subst e1
          obtain ⟨X, hX⟩ : ∃ X, X = (l[k]).1 := ⟨_, rfl⟩
          obtain ⟨D, hD⟩ : ∃ D, D = (l[k]).2 := ⟨_, rfl⟩
          have hlk : l[k] = (X, D) := by rw [hX, hD]
          rw [hlk] at hst hpq
          rw [← hX] at hc1
          rw [← hD] at hc2
          simp only at hc1 hc2
          have HST := Lib.hid hst
          have HPQ := Lib.hid hpq
          have ui : Hid (wrap64 ((k : Int) + 1) = ((k + 1 : Nat) : Int)) := by have := HN.out.2; unfold Hid; rw [wr64 _ (by omega) (by omega)]; omega
          have i1 : (k : Int) < (N : Int) := by omega
          have HK := Lib.hid hlt
          clear hst hpq hsl hX hD hlk hk2 hlt hkN
          have HBK5 : Hid (Blk (wr.alloc (.cells #[.int .i64 (X : Int), .int .i64 (D : Int)] tCo)) gp tPl (pcells r kk (.slice Ap L cc))) := Blk.alloc HTS.out.1 _
          have hx0 : (wr.alloc (.cells #[.int .i64 (X : Int), .int .i64 (D : Int)] tCo)).cell? ⟨wr.heap.size, 0, none⟩ = some (.int .i64 (X : Int)) := (Blk.new wr tCo _).cell 0 rfl
          have hx1 : (wr.alloc (.cells #[.int .i64 (X : Int), .int .i64 (D : Int)] tCo)).cell? ⟨wr.heap.size, 1, none⟩ = some (.int .i64 (D : Int)) := (Blk.new wr tCo _).cell 1 rfl
          have HTS5 : Hid (TS w2 (wr.alloc (.cells #[.int .i64 (X : Int), .int .i64 (D : Int)] tCo)) gp r kk zs Ap L cc o _) := HTS.out.below ((Below.refl _ _).alloc (Nat.le_refl _) _)
          obtain ⟨⟨⟨r2, k2, zs2⟩, ce⟩, hq⟩ : ∃ q : Pl × Int, q = padd r kk zs X D := ⟨_, rfl⟩
          obtain ⟨L2, hL2⟩ : ∃ L2, L2 = zs2.length := ⟨_, rfl⟩
          have HAD : Hid (∀ u, TSeg u 3 Ap (zs.map (.int .i64)) → Calls Tryd.prog 75 #[PoolV r kk (.slice Ap L cc), .int .i64 (X : Int), .int .i64 (D : Int)] u fun e w' => (∃ A c, e = .returned (.tuple #[PoolV r2 k2 (.slice A L2 c), .int .i64 ce]) ∧ TSeg w' 3 A (zs2.map (.int .i64))) ∧ Below u.heap.size u w') := fun u hu => by
            rw [HL.out, hL2]
            have h := add_any Ap zs r kk X D cc u hu.1
            rw [← hq] at h
            exact h.mono fun e w' ⟨⟨v, h1, A, c, h2, h3⟩, h4⟩ => ⟨⟨A, c, by rw [h1, h2], h3⟩, h4⟩
          have HL2 := Lib.hid hL2
          have HQ := Lib.hid hq
          have hce : 0 ≤ ce ∧ ce ≤ 4 := by have h := @padd_err_lt r kk X D zs; rw [← hq] at h; exact h
          clear hL2 hq
          by_cases hc0 : ce = 0
          · subst hc0
            have HST2 : Hid (tgo (((room : Int), 0, []), []) (l.take (k + 1)) = ((r2, k2, zs2), o ++ [okS])) := HST.out.trans (by
              show (if (padd r kk zs X D).2 = 0 then ((padd r kk zs X D).1, o ++ [okS]) else _) = _
              rw [← HQ.out]; rfl)
            have HGD2 : Hid (GoodP (r2, k2, zs2)) := by
              have h := good_step HGD.out HPQ.out.1 (D := D) (by rw [← HQ.out])
              rw [← HQ.out] at h
              exact h
            clear hce
            go_wp2_with (first
              | (refine wpList_load_blk rfl _ _ rfl gp rfl tPl (pcells r kk (.slice Ap L cc)) _ HBK5.out Tryd.underlying113 rfl (by kernel_rfl) ?_)
              | fail)
            refine (HAD.out _ HTS5.out.2.1).mono ?_
            rintro e w6 ⟨⟨A6, c6, rfl, ht6⟩, hb6⟩
            have HTS6 := Lib.hid (HTS5.out.below hb6)
            have HT6 := Lib.hid ht6
            have HG6 : Hid (gp < w6.heap.size) := HTS6.out.2.2.2.2.1
            clear ht6 hb6 hx0 hx1 HTS5 HBK5 hc1 hc2 HTS HAD HST
            have HKQ : Hid (Blk (w6.alloc (.cells (pcells 0 0 (.slice none 0 0)) tPl)) w6.heap.size tPl (pcells 0 0 (.slice none 0 0))) := Blk.new _ _ _
            go_wp2_with (first
              | (have X8 := HTS8; at_builtin; go_must (refine wpList_pushT _ rfl _ _ 69 tSt 16 elem_strs rfl (gp + 1) _ _ rfl (Own.alloc' HTS8.out.2.2.1 _) (SV okS) ⟨w8.heap.size, 0, none⟩ 1 rfl (cell_new1 _ _ _) rfl HNB.out.1 HNB.out.2 HSZ8.out ?_); intro v9 w9 hown9 hgr9; have HTS9 := Lib.hid (TS.push (HTS8.out.below ((Below.refl _ _).alloc (Nat.le_refl _) _)) hown9 hgr9); clear hown9 hgr9)
              | (have X7 := HTS7; refine wpList_store_blk rfl _ _ _ rfl gp (pcells r2 k2 (.slice A6 L2 c6)) rfl rfl _ _ HTS7.out.1 (by kernel_rfl) rfl (pcells_one _ _ _ _ _) ?_; intro w8 hb8 hg8 hs8; have HTS8 := Lib.hid (HTS7.out.put (HT6.out.below HB67.out) hb8 hg8); have HSZ8 : Hid (gp + 1 ≤ (w8.alloc (.cells #[SV okS] tSt)).heap.size) := (by have h := HTS8.out.2.2.2.2.1; unfold Hid; simp; omega); clear hs8 hb8 hg8)
              | (have X7 := HTS7; refine wpList_load_blk rfl _ _ rfl w6.heap.size rfl tPl (pcells r2 k2 (.slice A6 L2 c6)) _ HQ7.out Tryd.underlying113 rfl (by kernel_rfl) ?_)
              | (refine wpList_store_blk rfl _ _ _ rfl w6.heap.size (pcells r2 k2 (.slice A6 L2 c6)) rfl rfl _ _ HKQ.out (by kernel_rfl) rfl (pcells_one _ _ _ _ _) ?_; intro w7 hb7 hg7 hs7; have HQ7 := Lib.hid hb7; have HB67 : Hid (Below w6.heap.size w6 w7) := Below.grown ((Below.refl _ _).alloc (Nat.le_refl _) _) hg7 (by simp) (fun q hq => by injection hq with hq; exact Nat.le_of_eq hq); have HTS7 := Lib.hid (HTS6.out.below HB67.out); clear hs7 hb7 hg7)
              | fail)
            go_roundw
            case rel => exact ⟨k + 1, r2, k2, zs2, o ++ [okS], A6, c6, L2, HK.out, by first | rfl | rw [ui.out], HST2.out.symm, HGD2.out, HL2.out, HTS9.out⟩
            case measure => (try rw [ui.out]); have := HK.out; simp [intOf]; omega
          · have HST2 : Hid (tgo (((room : Int), 0, []), []) (l.take (k + 1)) = ((r, kk, zs), o ++ [errS ce])) := HST.out.trans (by
              show (if (padd r kk zs X D).2 = 0 then _ else ((r, kk, zs), o ++ [errS (padd r kk zs X D).2])) = _
              rw [← HQ.out]
              exact if_neg hc0)
            have b1 : (ce != 0) = true := by rw [bne_iff_ne]; exact hc0
            have b2 : (ce == 0) = false := by rw [beq_eq_false_iff_ne]; exact hc0
            obtain ⟨IB, hIB⟩ : ∃ IB : ByteArray, IB = ⟨(Lib.itoa ce).toArray⟩ := ⟨_, rfl⟩
            have HIT : Hid (∀ u, LibW u → Calls Tryd.prog 76 #[.int .i64 ce] u fun e w' => e = .returned (.string IB) ∧ Below u.heap.size u w') := fun u hu => by rw [hIB]; exact itoa_any ce (by omega) (by omega) u hu
            obtain ⟨EB, hEB⟩ : ∃ EB : ByteArray, EB = ⟨(errS ce).toArray⟩ := ⟨_, rfl⟩
            have hcat : ({ data := #[101, 114, 114, 111, 114, 32] } : ByteArray) ++ IB = EB := by rw [hEB]; exact cat_sv [101, 114, 114, 111, 114, 32] _ _ _ rfl hIB
            have HEB := Lib.hid hEB
            have hz0 : IB.size ≤ 21 := by rw [hIB]; exact Lib.itoa_length_le ce (by omega) (by omega)
            have hz1 : ¬ 9223372036854775807 < 6 + IB.size := by omega
            have hz2 : ¬ 281474976710656 < 6 + IB.size := by omega
            clear hce hc0 hIB hEB hz0
            go_wp2_with (first
              | (refine wpList_load_blk rfl _ _ rfl gp rfl tPl (pcells r kk (.slice Ap L cc)) _ HBK5.out Tryd.underlying113 rfl (by kernel_rfl) ?_)
              | fail)
            refine (HAD.out _ HTS5.out.2.1).mono ?_
            rintro e w6 ⟨⟨A6, c6, rfl, ht6⟩, hb6⟩
            have HTS6 := Lib.hid (HTS5.out.below hb6)
            have HG6 : Hid (gp < w6.heap.size) := HTS6.out.2.2.2.2.1
            clear ht6 hb6 hx0 hx1 HTS5 HBK5 hc1 hc2 HTS HAD HST
            have HKQ : Hid (Blk (w6.alloc (.cells (pcells 0 0 (.slice none 0 0)) tPl)) w6.heap.size tPl (pcells 0 0 (.slice none 0 0))) := Blk.new _ _ _
            go_wp2_with (first
              | (refine wpList_store_blk rfl _ _ _ rfl w6.heap.size (pcells r2 k2 (.slice A6 L2 c6)) rfl rfl _ _ HKQ.out (by kernel_rfl) rfl (pcells_one _ _ _ _ _) ?_; intro w7 hb7 hg7 hs7; have HB67 : Hid (Below w6.heap.size w6 w7) := Below.grown ((Below.refl _ _).alloc (Nat.le_refl _) _) hg7 (by simp) (fun q hq => by injection hq with hq; exact Nat.le_of_eq hq); have HTS7 := Lib.hid (HTS6.out.below HB67.out); clear hs7 hb7 hg7)
              | fail)
            refine (HIT.out _ (HLW.out.below (HB2.out.trans (HTS7.out.2.2.2.1.mono HB2.out.size)))).mono ?_
            rintro e w8 ⟨rfl, hb8⟩
            have HTS8 := Lib.hid (HTS7.out.below hb8)
            have HSZ8 : Hid (gp + 1 ≤ (w8.alloc (.cells #[.string EB] tSt)).heap.size) := by have h := HTS8.out.2.2.2.2.1; unfold Hid; simp; omega
            clear hb8
            have HSE : Hid (Value.string EB = SV (errS ce)) := by unfold Hid; rw [HEB.out]
            go_wp2_with (first
              | (at_builtin; go_must (refine wpList_pushT _ rfl _ _ 69 tSt 16 elem_strs rfl (gp + 1) _ _ rfl (Own.alloc' HTS8.out.2.2.1 _) (.string EB) ⟨w8.heap.size, 0, none⟩ 1 rfl (cell_new1 _ _ _) rfl HNB.out.1 HNB.out.2 HSZ8.out ?_); intro v9 w9 hown9 hgr9; have hown10 := hown9; rw [HSE.out] at hown10; have HTS9 := Lib.hid (TS.push (HTS8.out.below ((Below.refl _ _).alloc (Nat.le_refl _) _)) hown10 hgr9); clear hown9 hown10 hgr9)
              | fail)
            go_roundw
            case rel => exact ⟨k + 1, r, kk, zs, o ++ [errS ce], Ap, cc, L, HK.out, by first | rfl | rw [ui.out], HST2.out.symm, HGD.out, HL.out, HTS9.out⟩
            case measure => (try rw [ui.out]); have := HK.out; simp [intOf]; omega
        · obtain rfl : k = N := by omega
          have HF : Hid (((r, kk, zs), o) = tgo (((room : Int), 0, []), []) l) := HSTT.out.trans (by rw [List.take_of_length_le (by rw [← HN.out.1]; exact Nat.le_refl _)])
          have hr2 : Hid (res = (o ++ [keptS (r, kk, zs) L], 0)) := hr.out.trans (by rw [← HF.out, HL.out])
          obtain ⟨A9, c9, rfl, hc9, h9⟩ := HTS.out.2.2.1.res2
          obtain ⟨m9, hm9⟩ : ∃ m9, m9 = (o.map SV).length := ⟨_, rfl⟩
          rw [← hm9] at HTS ⊢
          clear hm9
          have hp1 := HTS.out.1.cell 1 (u := .int .i64 kk) rfl
          have hp2 := HTS.out.1.cell 2 (u := .slice Ap L cc) rfl
          have HSG : Hid (Seg wr wr.heap.size Ap (zs.map (.int .i64))) := HTS.out.2.1.1
          have hgd := HGD.out
          obtain ⟨IB, hIB⟩ : ∃ IB : ByteArray, IB = ⟨(Lib.itoa kk).toArray⟩ := ⟨_, rfl⟩
          have HIT : Hid (∀ u, LibW u → Calls Tryd.prog 76 #[.int .i64 kk] u fun e w' => e = .returned (.string IB) ∧ Below u.heap.size u w') := fun u hu => by rw [hIB]; exact itoa_any kk (by have := hgd.1; simp only at this; omega) (by have := hgd.2.1; simp only at this; omega) u hu
          obtain ⟨EB, hEB⟩ : ∃ EB : ByteArray, EB = ⟨(keptS (r, kk, zs) 0).toArray⟩ := ⟨_, rfl⟩
          have hcat : ({ data := #[107, 101, 112, 116, 32] } : ByteArray) ++ IB = EB := by
            rw [hEB]
            refine (cat_sv [107, 101, 112, 116, 32] _ _ _ rfl hIB).trans ?_
            unfold keptS
            rw [List.take_zero, List.flatMap_nil, List.append_nil]
          have HEB := Lib.hid hEB
          have i1 : ¬ (k : Int) < (k : Int) := Int.lt_irrefl _
          have hz0 : IB.size ≤ 21 := by rw [hIB]; exact Lib.itoa_length_le kk (by have := hgd.1; simp only at this; omega) (by have := hgd.2.1; simp only at this; omega)
          have hz1 : ¬ 9223372036854775807 < 5 + IB.size := by omega
          have hz2 : ¬ 281474976710656 < 5 + IB.size := by omega
          clear hc9 h9 hgd hIB hEB hlt hkN hz0
          go_wp2_with fail
          refine (HIT.out _ HLX.out).mono ?_
          rintro e w5 ⟨rfl, hb5⟩
          have HTS5 := Lib.hid (HTS.out.below hb5)
          have hp3 := HTS5.out.1.cell 2 (u := .slice Ap L cc) rfl
          clear hb5 hp1 hp2 HIT HSG HTS HBX HLX
          go_wp2_with fail
          clear hp3 i1 hcat hz1 hz2
          go_loopw [14, 70] (fun s14 s70 wx => ∃ (j : Nat) (SB : ByteArray), j ≤ L ∧ s70 = .int .i64 j ∧ s14 = .string SB ∧ Hid (SB = ⟨(keptS (r, kk, zs) j).toArray⟩) ∧ Hid (TS w2 wx gp r kk zs Ap L cc o (.slice A9 m9 c9))) (fun _ s70 _ => L - (intOf s70).toNat)
          case atStart => exact ⟨0, EB, Nat.zero_le _, rfl, rfl, HEB.out, HTS5.out⟩
          case round =>
            clear HTS5
            obtain ⟨j, SB, hjL, rfl, rfl, HSB, HTX⟩ := hrel
            have HL4 : Hid (L ≤ 401) := by rw [HL.out]; exact HGD.out.2.2.1
            have HLX : Hid (LibW wr) := HLW.out.below (HB2.out.trans (HTX.out.2.2.2.1.mono HB2.out.size))
            have hsz : SB.size ≤ 26 + 22 * j := by rw [HSB.out]; exact kept_len HGD.out j
            by_cases hlt : j < L
            · have hk2 : j < zs.length := by rw [← HL.out]; exact hlt
              obtain ⟨ad, rfl, _, hc1⟩ := HTX.out.2.1.1.int hk2
              have hyy := HGD.out.2.2.2 zs[j] (List.getElem_mem hk2)
              have hks := kept_step (r, kk, zs) (j := j) hk2
              simp only at hks
              obtain ⟨yy, hy⟩ : ∃ yy, yy = zs[j] := ⟨_, rfl⟩
              rw [← hy] at hc1 hyy hks
              obtain ⟨IY, hIY⟩ : ∃ IY : ByteArray, IY = ⟨(Lib.itoa yy).toArray⟩ := ⟨_, rfl⟩
              have HIT : Hid (∀ u, LibW u → Calls Tryd.prog 76 #[.int .i64 yy] u fun e w' => e = .returned (.string IY) ∧ Below u.heap.size u w') := fun u hu => by rw [hIY]; exact itoa_any yy (by omega) (by omega) u hu
              obtain ⟨CY, hCY⟩ : ∃ CY : ByteArray, CY = ⟨(32 :: Lib.itoa yy).toArray⟩ := ⟨_, rfl⟩
              have hcat1 : ({ data := #[32] } : ByteArray) ++ IY = CY := by rw [hCY]; exact cat_sv [32] _ _ _ rfl hIY
              obtain ⟨SB2, hSB2⟩ : ∃ SB2 : ByteArray, SB2 = ⟨(keptS (r, kk, zs) (j + 1)).toArray⟩ := ⟨_, rfl⟩
              have hcat2 : SB ++ CY = SB2 := by rw [hSB2, hks]; exact cat_sv _ _ _ _ HSB.out hCY
              have HSB2 := Lib.hid hSB2
              have hz0 : IY.size ≤ 21 := by rw [hIY]; exact Lib.itoa_length_le yy (by omega) (by omega)
              have hz00 : CY.size ≤ 22 := by rw [hCY]; have := Lib.itoa_length_le yy (by omega) (by omega); show (32 :: Lib.itoa yy).length ≤ 22; rw [List.length_cons]; omega
              have hz1 : ¬ 9223372036854775807 < 1 + IY.size := by omega
              have hz2 : ¬ 281474976710656 < 1 + IY.size := by omega
              have hz3 : ¬ 9223372036854775807 < SB.size + CY.size := by have := HL4.out; omega
              have hz4 : ¬ 281474976710656 < SB.size + CY.size := by have := HL4.out; omega
              have ui : Hid (wrap64 ((j : Int) + 1) = ((j + 1 : Nat) : Int)) := by have := HL4.out; unfold Hid; rw [wr64 _ (by omega) (by omega)]; omega
              have i1 : (j : Int) < (L : Int) := by omega
              have HK := Lib.hid hlt
              clear hk2 hyy hks hy hIY hCY hSB2 hz0 hz00 hsz hlt hjL
              go_wp2_with fail
              refine (HIT.out _ HLX.out).mono ?_
              rintro e w6 ⟨rfl, hb6⟩
              have HTX6 := Lib.hid (HTX.out.below hb6)
              clear hb6 HTX hc1
              go_wp2_with fail
              go_roundw
              case rel => exact ⟨j + 1, SB2, HK.out, by first | rfl | rw [ui.out], rfl, HSB2.out, HTX6.out⟩
              case measure => (try rw [ui.out]); have := HK.out; simp [intOf]; omega
            · obtain rfl : j = L := by omega
              have HSE : Hid (Value.string SB = SV (keptS (r, kk, zs) j)) := by unfold Hid; rw [HSB.out]
              have HSZ8 : Hid (gp + 1 ≤ (wr.alloc (.cells #[.string SB] tSt)).heap.size) := by have h := HTX.out.2.2.2.2.1; unfold Hid; simp; omega
              have i1 : ¬ (j : Int) < (j : Int) := Int.lt_irrefl _
              clear hlt hjL hsz
              go_wp2_with (first
                | (at_builtin; go_must (refine wpList_pushT _ rfl _ _ 69 tSt 16 elem_strs rfl (gp + 1) _ _ rfl (Own.alloc' HTX.out.2.2.1 _) (.string SB) ⟨wr.heap.size, 0, none⟩ 1 rfl (cell_new1 _ _ _) rfl HNB.out.1 HNB.out.2 HSZ8.out ?_); intro v9 w9 hown9 hgr9; have hown10 := hown9; rw [HSE.out] at hown10; have HTS9 := Lib.hid (TS.push (HTX.out.below ((Below.refl _ _).alloc (Nat.le_refl _) _)) hown10 hgr9); clear hown9 hown10 hgr9)
                | fail)
              obtain ⟨A10, c10, rfl, hc10, h10⟩ := HTS9.out.2.2.1.res2
              have HE := Lib.hid (And.intro hc10 h10.seg)
              clear hc10 h10
              go_ret2
              rw [hr2.out]
              refine ⟨A10, c10, ?_, ?_, HE.out.2, HB2.out.trans (HTS9.out.2.2.2.1.mono HB2.out.size)⟩
              · rw [List.length_map]; rfl
              · have h := HE.out.1
                rw [List.length_map] at h
                exact h
    · have hr : Hid (res = ([], 2)) := HR2.out.trans (if_neg h1)
      have HNW : Hid (∀ u, Calls Tryd.prog 74 #[.int .i64 (room : Nat)] u fun e w' => (∃ Ap cp, e = .returned (.tuple #[PoolV 0 0 (.slice Ap 0 cp), .int .i64 2])) ∧ Below u.heap.size u w') := fun u => by
        have h := new_any (room : Int) u
        have e : pnew (room : Int) = ((0, 0, []), 2) := if_neg (by omega)
        rw [e] at h
        exact h.mono fun e w' ⟨⟨v, h1, A, c, h2, h3⟩, h4⟩ => ⟨⟨A, c, by rw [h1, h2]; rfl⟩, h4⟩
      clear h1 hrm
      go_enter Tryd.func34, Tryd.ntmps34
      go_wp2_with fail
      refine (HPA.out _ HLW.out).mono ?_
      rintro e w2 ⟨A2, c2, rfl, hs2, hb2⟩
      have HB2 := Lib.hid hb2
      clear hs2 hb2 HPA
      go_wp2_with fail
      refine (HNW.out _).mono ?_
      rintro e w3 ⟨⟨Ap0, cp0, rfl⟩, hb3⟩
      have HB3 := Lib.hid hb3
      clear hb3
      have HKN : Hid (Blk (w3.alloc (.cells (pcells 0 0 (.slice none 0 0)) tPl)) w3.heap.size tPl (pcells 0 0 (.slice none 0 0))) := Blk.new _ _ _
      go_wp2_with (first | (refine wpList_store_blk rfl _ _ _ rfl w3.heap.size (pcells 0 0 (.slice Ap0 0 cp0)) rfl rfl _ _ HKN.out (by kernel_rfl) rfl (pcells_one _ _ _ _ _) ?_; intro w4 hb4 hg4 hs4; have HG4 := Lib.hid hg4; clear hs4 hb4 hg4) | fail)
      have HB4 : Hid (Below w2.heap.size w2 w4) := Below.grown (HB3.out.alloc HB3.out.size _) HG4.out (by simp; have := HB3.out.size; omega) (fun q hq => by injection hq with hq; have := HB3.out.size; omega)
      go_ret2
      exact ⟨none, 0, by rw [hr.out]; rfl, by rw [hr.out]; exact Nat.le_refl _, by rw [hr.out]; exact Seg.nil, HB2.out.trans (HB4.out.mono HB2.out.size)⟩
  · have hr : Hid (res = ([], code)) := HRES.out.trans (if_pos hc)
    have b1 : ((code : Int) != 0) = true := by rw [bne_iff_ne]; omega
    clear hc HRES hcd hrm
    go_enter Tryd.func34, Tryd.ntmps34
    go_wp2_with fail
    refine (HPA.out _ HLW.out).mono ?_
    rintro e w2 ⟨A2, c2, rfl, hs2, hb2⟩
    have HB2 := Lib.hid hb2
    clear hs2 hb2 HPA
    go_wp2_with fail
    go_ret2
    exact ⟨none, 0, by rw [hr.out]; rfl, by rw [hr.out]; exact Nat.le_refl _, by rw [hr.out]; exact Seg.nil, HB2.out⟩
set_option maxRecDepth 20000 in
set_option maxHeartbeats 4000000 in
theorem ztell_any (t : Bs) (ht : t.length ≤ 4000000000) (w : World) (hL : LibW w) : Calls Tryd.prog 35 #[SV t] w fun e w' => TeOut w (tellR t) e w' := by
  obtain ⟨res, hres⟩ : ∃ res, res = tellR t := ⟨_, rfl⟩
  rw [← hres]
  obtain ⟨room, l, ek, code, hpr⟩ : ∃ a b c d, parseR t = (a, b, c, d) := ⟨_, _, _, _, rfl⟩
  obtain ⟨hpl, hll, hrm, hcd⟩ := parse_ok hpr
  have HRES : Hid (res = if code ≠ 0 then ([], code) else if 1 ≤ room ∧ room ≤ 400 then ((tgo (((room : Int), 0, []), []) l).2 ++ [keptS (tgo (((room : Int), 0, []), []) l).1 (tgo (((room : Int), 0, []), []) l).1.2.2.length], 0) else ([], 2)) := by
    unfold Hid
    rw [hres]
    unfold tellR
    rw [hpr]
  obtain ⟨T, hT⟩ : ∃ T : ByteArray, T = ⟨t.toArray⟩ := ⟨_, rfl⟩
  rw [show SV t = Value.string T by rw [hT]]
  obtain ⟨N, hN⟩ : ∃ N, N = l.length := ⟨_, rfl⟩
  have HPA : Hid (∀ u, LibW u → Calls Tryd.prog 40 #[.string T] u fun e w' => ∃ A c, e = .returned (.tuple #[.int .i64 (room : Nat), .slice A N c, .int .i64 (ek : Nat), .int .i64 (code : Nat)]) ∧ Seg w' w'.heap.size A (flat (cp l)) ∧ Below u.heap.size u w') := fun u hu => by
    have h := zparse_any t (by omega) u
    rw [hpr] at h
    rw [hT, hN]
    exact h.mono fun e w' ⟨A, c, h1, h2, h3, h4⟩ => ⟨A, c, h1, h3, h4⟩
  have HPL := Lib.hid hpl
  have HN : Hid (N = l.length ∧ N ≤ 4000000000) := ⟨hN, by omega⟩
  have HLW := Lib.hid hL
  have hrm : room ≤ 1099511627776 := hrm
  clear hres hpr hT hN hpl hll ht hL
  by_cases hc : code = 0
  · subst hc
    have HR2 : Hid (res = if 1 ≤ room ∧ room ≤ 400 then ((tgo (((room : Int), 0, []), []) l).2 ++ [keptS (tgo (((room : Int), 0, []), []) l).1 (tgo (((room : Int), 0, []), []) l).1.2.2.length], 0) else ([], 2)) := HRES.out.trans (if_neg (by simp))
    clear HRES hcd
    rcases (by omega : room < 1 ∨ (¬ room < 1 ∧ 400 < room) ∨ (¬ room < 1 ∧ ¬ 400 < room)) with h1 | ⟨h1, h2⟩ | ⟨h1, h2⟩
    · have hr : Hid (res = ([], 2)) := HR2.out.trans (if_neg (by omega))
      have i1 : (room : Int) < 1 := by omega
      clear h1 hrm
      go_enter Tryd.func35, Tryd.ntmps35
      go_wp2_with fail
      refine (HPA.out _ HLW.out).mono ?_
      rintro e w2 ⟨A2, c2, rfl, hs2, hb2⟩
      have HB2 := Lib.hid hb2
      clear hs2 hb2 HPA
      go_wp2_with fail
      go_ret2
      exact ⟨none, 0, by rw [hr.out]; rfl, by rw [hr.out]; exact Nat.le_refl _, by rw [hr.out]; exact Seg.nil, HB2.out⟩
    · have hr : Hid (res = ([], 2)) := HR2.out.trans (if_neg (by omega))
      have i1 : ¬ (room : Int) < 1 := by omega
      have i2 : (400 : Int) < (room : Int) := by omega
      clear h1 h2 hrm
      go_enter Tryd.func35, Tryd.ntmps35
      go_wp2_with fail
      refine (HPA.out _ HLW.out).mono ?_
      rintro e w2 ⟨A2, c2, rfl, hs2, hb2⟩
      have HB2 := Lib.hid hb2
      clear hs2 hb2 HPA
      go_wp2_with fail
      go_ret2
      exact ⟨none, 0, by rw [hr.out]; rfl, by rw [hr.out]; exact Nat.le_refl _, by rw [hr.out]; exact Seg.nil, HB2.out⟩
    · have hr : Hid (res = ((tgo (((room : Int), 0, []), []) l).2 ++ [keptS (tgo (((room : Int), 0, []), []) l).1 (tgo (((room : Int), 0, []), []) l).1.2.2.length], 0)) := HR2.out.trans (if_pos (by omega))
      have i1 : ¬ (room : Int) < 1 := by omega
      have i2 : ¬ (400 : Int) < (room : Int) := by omega
      clear h1 h2 hrm
      go_enter Tryd.func35, Tryd.ntmps35
      go_wp2_with fail
      refine (HPA.out _ HLW.out).mono ?_
      rintro e w2 ⟨A2, c2, rfl, hs2, hb2⟩
      have HB2 := Lib.hid hb2
      have HS2 := Lib.hid hs2
      clear hs2 hb2 HPA
      have HB3 : Hid (Below w2.heap.size w2 w2) := Below.refl _ _
      obtain ⟨w3, hw3⟩ : ∃ w3, w3 = w2 := ⟨_, rfl⟩
      rw [← hw3] at HB3 ⊢
      obtain ⟨Ap0, hAp0⟩ : ∃ Ap0 : Option Addr, Ap0 = none := ⟨_, rfl⟩
      obtain ⟨cp0, hcp0⟩ : ∃ cp0 : Nat, cp0 = 0 := ⟨_, rfl⟩
      have HB3 : Hid (Below w2.heap.size w2 w3) := by rw [hw3]; exact Below.refl _ _
      clear hw3
      have HKN : Hid (Blk (w3.alloc (.cells (pcells 0 0 (.slice none 0 0)) tPl)) w3.heap.size tPl (pcells 0 0 (.slice none 0 0))) := Blk.new _ _ _
      go_wp2_with (first | (refine wpList_store_blk rfl _ _ _ rfl w3.heap.size (pcells room 0 (.slice none 0 0)) rfl rfl _ _ HKN.out (by kernel_rfl) rfl (pcells_one _ _ _ _ _) ?_; intro w4 hb4 hg4 hs4; have HK4 := Lib.hid hb4; have HG4 := Lib.hid hg4; have HS4 := Lib.hid hs4; clear hs4 hb4 hg4) | fail)
      have HB4 : Hid (Below w2.heap.size w2 w4) := Below.grown (HB3.out.alloc HB3.out.size _) HG4.out (by simp; have := HB3.out.size; omega) (fun q hq => by injection hq with hq; have := HB3.out.size; omega)
      have HGP : Hid (w2.heap.size ≤ w3.heap.size ∧ w3.heap.size + 1 ≤ w4.heap.size) := ⟨HB3.out.size, by have h := HS4.out; simp at h; omega⟩
      clear HKN HG4 HS4 HB3
      generalize w3.heap.size = gp at *
      --SET
      go_loopw [9, 37] (fun s9 s37 wx => ∃ (k : Nat) (r kk : Int) (zs : List Int) (o : List Bs) (Ap : Option Addr) (cc L : Nat), k ≤ N ∧ s37 = .int .i64 k ∧ Hid (((r, kk, zs), o) = tgo (((room : Int), 0, []), []) (l.take k)) ∧ Hid (GoodP (r, kk, zs)) ∧ Hid (L = zs.length) ∧ Hid (TS w2 wx gp r kk zs Ap L cc o s9)) (fun _ s37 _ => N - (intOf s37).toNat)
      case atStart => exact ⟨0, room, 0, [], [], none, 0, 0, Nat.zero_le _, rfl, rfl, good_new _, rfl, HK4.out, TSeg.nil, Own.none_, HB4.out, HGP.out.2, HGP.out.1⟩
      case round =>
        clear HK4 HB4 HR2 HGP
        obtain ⟨k, r, kk, zs, o, Ap, cc, L, hkN, rfl, HSTT, HGD, HL, HTS⟩ := hrel
        have HBX := Lib.hid HTS.out.2.2.2.1
        have HLX : Hid (LibW wr) := HLW.out.below (HB2.out.trans (HBX.out.mono HB2.out.size))
        have HGZ : Hid (gp < wr.heap.size) := HTS.out.2.2.2.2.1
        have hol : o.length = k := by
          have h := tgo_len (l.take k) (((room : Int), 0, []), [])
          rw [← HSTT.out] at h
          rw [List.length_take, Nat.min_eq_left (by have := HN.out; omega)] at h
          simpa using h
        have HNB : Hid (((o.map SV).length + 1) * 16 ≤ 140737488355328 ∧ (o.map SV).length + 1 ≤ maxLen) := by
          have := HN.out.2
          unfold Hid maxLen
          rw [List.length_map]
          omega
        clear hol
        by_cases hlt : k < N
        · have hk2 : k < l.length := by rw [← HN.out.1]; exact hlt
          have hst := tgo_step (((room : Int), 0, []), []) l hk2
          rw [← HSTT.out] at hst
          have hpq := HPL.out l[k] (List.getElem_mem hk2)
          have hsl : Seg wr wr.heap.size A2 (flat (cp l)) := (HS2.out.below HBX.out).more HBX.out.size
          obtain ⟨ad, e1, _, hc1, hc2⟩ := hsl.pair (k := k) (by rw [cp_len]; exact hk2)
          rw [prat_cp hk2] at hc1 hc2
          subst e1
          obtain ⟨X, hX⟩ : ∃ X, X = (l[k]).1 := ⟨_, rfl⟩
          obtain ⟨D, hD⟩ : ∃ D, D = (l[k]).2 := ⟨_, rfl⟩
          have hlk : l[k] = (X, D) := by rw [hX, hD]
          rw [hlk] at hst hpq
          rw [← hX] at hc1
          rw [← hD] at hc2
          simp only at hc1 hc2
          have HST := Lib.hid hst
          have HPQ := Lib.hid hpq
          have ui : Hid (wrap64 ((k : Int) + 1) = ((k + 1 : Nat) : Int)) := by have := HN.out.2; unfold Hid; rw [wr64 _ (by omega) (by omega)]; omega
          have i1 : (k : Int) < (N : Int) := by omega
          have HK := Lib.hid hlt
          clear hst hpq hsl hX hD hlk hk2 hlt hkN
          have HBK5 : Hid (Blk (wr.alloc (.cells #[.int .i64 (X : Int), .int .i64 (D : Int)] tCo)) gp tPl (pcells r kk (.slice Ap L cc))) := Blk.alloc HTS.out.1 _
          have hx0 : (wr.alloc (.cells #[.int .i64 (X : Int), .int .i64 (D : Int)] tCo)).cell? ⟨wr.heap.size, 0, none⟩ = some (.int .i64 (X : Int)) := (Blk.new wr tCo _).cell 0 rfl
          have hx1 : (wr.alloc (.cells #[.int .i64 (X : Int), .int .i64 (D : Int)] tCo)).cell? ⟨wr.heap.size, 1, none⟩ = some (.int .i64 (D : Int)) := (Blk.new wr tCo _).cell 1 rfl
          have HTS5 : Hid (TS w2 (wr.alloc (.cells #[.int .i64 (X : Int), .int .i64 (D : Int)] tCo)) gp r kk zs Ap L cc o _) := HTS.out.below ((Below.refl _ _).alloc (Nat.le_refl _) _)
          obtain ⟨⟨⟨r2, k2, zs2⟩, ce⟩, hq⟩ : ∃ q : Pl × Int, q = padd r kk zs X D := ⟨_, rfl⟩
          obtain ⟨L2, hL2⟩ : ∃ L2, L2 = zs2.length := ⟨_, rfl⟩
          have HAD : Hid (∀ u, TSeg u 3 Ap (zs.map (.int .i64)) → Calls Tryd.prog 77 #[PoolV r kk (.slice Ap L cc), .int .i64 (X : Int), .int .i64 (D : Int)] u fun e w' => (∃ A c, e = .returned (.tuple #[PoolV r2 k2 (.slice A L2 c), .int .i64 ce]) ∧ TSeg w' 3 A (zs2.map (.int .i64))) ∧ Below u.heap.size u w') := fun u hu => by
            rw [HL.out, hL2]
            have h := fadd_any Ap zs r kk X D cc u hu.1
            rw [← hq] at h
            exact h.mono fun e w' ⟨⟨v, h1, A, c, h2, h3⟩, h4⟩ => ⟨⟨A, c, by rw [h1, h2], h3⟩, h4⟩
          have HL2 := Lib.hid hL2
          have HQ := Lib.hid hq
          have hce : 0 ≤ ce ∧ ce ≤ 4 := by have h := @padd_err_lt r kk X D zs; rw [← hq] at h; exact h
          clear hL2 hq
          by_cases hc0 : ce = 0
          · subst hc0
            have HST2 : Hid (tgo (((room : Int), 0, []), []) (l.take (k + 1)) = ((r2, k2, zs2), o ++ [okS])) := HST.out.trans (by
              show (if (padd r kk zs X D).2 = 0 then ((padd r kk zs X D).1, o ++ [okS]) else _) = _
              rw [← HQ.out]; rfl)
            have HGD2 : Hid (GoodP (r2, k2, zs2)) := by
              have h := good_step HGD.out HPQ.out.1 (D := D) (by rw [← HQ.out])
              rw [← HQ.out] at h
              exact h
            clear hce
            go_wp2_with (first
              | (refine wpList_load_blk rfl _ _ rfl gp rfl tPl (pcells r kk (.slice Ap L cc)) _ HBK5.out Tryd.underlying113 rfl (by kernel_rfl) ?_)
              | fail)
            refine (HAD.out _ HTS5.out.2.1).mono ?_
            rintro e w6 ⟨⟨A6, c6, rfl, ht6⟩, hb6⟩
            have HTS6 := Lib.hid (HTS5.out.below hb6)
            have HT6 := Lib.hid ht6
            have HG6 : Hid (gp < w6.heap.size) := HTS6.out.2.2.2.2.1
            clear ht6 hb6 hx0 hx1 HTS5 HBK5 hc1 hc2 HTS HAD HST
            have HKQ : Hid (Blk (w6.alloc (.cells (pcells 0 0 (.slice none 0 0)) tPl)) w6.heap.size tPl (pcells 0 0 (.slice none 0 0))) := Blk.new _ _ _
            go_wp2_with (first
              | (have X8 := HTS8; at_builtin; go_must (refine wpList_pushT _ rfl _ _ 69 tSt 16 elem_strs rfl (gp + 1) _ _ rfl (Own.alloc' HTS8.out.2.2.1 _) (SV okS) ⟨w8.heap.size, 0, none⟩ 1 rfl (cell_new1 _ _ _) rfl HNB.out.1 HNB.out.2 HSZ8.out ?_); intro v9 w9 hown9 hgr9; have HTS9 := Lib.hid (TS.push (HTS8.out.below ((Below.refl _ _).alloc (Nat.le_refl _) _)) hown9 hgr9); clear hown9 hgr9)
              | (have X7 := HTS7; refine wpList_store_blk rfl _ _ _ rfl gp (pcells r2 k2 (.slice A6 L2 c6)) rfl rfl _ _ HTS7.out.1 (by kernel_rfl) rfl (pcells_one _ _ _ _ _) ?_; intro w8 hb8 hg8 hs8; have HTS8 := Lib.hid (HTS7.out.put (HT6.out.below HB67.out) hb8 hg8); have HSZ8 : Hid (gp + 1 ≤ (w8.alloc (.cells #[SV okS] tSt)).heap.size) := (by have h := HTS8.out.2.2.2.2.1; unfold Hid; simp; omega); clear hs8 hb8 hg8)
              | (have X7 := HTS7; refine wpList_load_blk rfl _ _ rfl w6.heap.size rfl tPl (pcells r2 k2 (.slice A6 L2 c6)) _ HQ7.out Tryd.underlying113 rfl (by kernel_rfl) ?_)
              | (refine wpList_store_blk rfl _ _ _ rfl w6.heap.size (pcells r2 k2 (.slice A6 L2 c6)) rfl rfl _ _ HKQ.out (by kernel_rfl) rfl (pcells_one _ _ _ _ _) ?_; intro w7 hb7 hg7 hs7; have HQ7 := Lib.hid hb7; have HB67 : Hid (Below w6.heap.size w6 w7) := Below.grown ((Below.refl _ _).alloc (Nat.le_refl _) _) hg7 (by simp) (fun q hq => by injection hq with hq; exact Nat.le_of_eq hq); have HTS7 := Lib.hid (HTS6.out.below HB67.out); clear hs7 hb7 hg7)
              | fail)
            go_roundw
            case rel => exact ⟨k + 1, r2, k2, zs2, o ++ [okS], A6, c6, L2, HK.out, by first | rfl | rw [ui.out], HST2.out.symm, HGD2.out, HL2.out, HTS9.out⟩
            case measure => (try rw [ui.out]); have := HK.out; simp [intOf]; omega
          · have HST2 : Hid (tgo (((room : Int), 0, []), []) (l.take (k + 1)) = ((r, kk, zs), o ++ [errS ce])) := HST.out.trans (by
              show (if (padd r kk zs X D).2 = 0 then _ else ((r, kk, zs), o ++ [errS (padd r kk zs X D).2])) = _
              rw [← HQ.out]
              exact if_neg hc0)
            have b1 : (ce != 0) = true := by rw [bne_iff_ne]; exact hc0
            have b2 : (ce == 0) = false := by rw [beq_eq_false_iff_ne]; exact hc0
            obtain ⟨IB, hIB⟩ : ∃ IB : ByteArray, IB = ⟨(Lib.itoa ce).toArray⟩ := ⟨_, rfl⟩
            have HIT : Hid (∀ u, LibW u → Calls Tryd.prog 78 #[.int .i64 ce, .int .i64 10] u fun e w' => e = .returned (.string IB) ∧ Below u.heap.size u w') := fun u hu => by rw [hIB]; exact fmt_any ce (by omega) (by omega) u hu
            obtain ⟨EB, hEB⟩ : ∃ EB : ByteArray, EB = ⟨(errS ce).toArray⟩ := ⟨_, rfl⟩
            have hcat : ({ data := #[101, 114, 114, 111, 114, 32] } : ByteArray) ++ IB = EB := by rw [hEB]; exact cat_sv [101, 114, 114, 111, 114, 32] _ _ _ rfl hIB
            have HEB := Lib.hid hEB
            have hz0 : IB.size ≤ 21 := by rw [hIB]; exact Lib.itoa_length_le ce (by omega) (by omega)
            have hz1 : ¬ 9223372036854775807 < 6 + IB.size := by omega
            have hz2 : ¬ 281474976710656 < 6 + IB.size := by omega
            clear hce hc0 hIB hEB hz0
            go_wp2_with (first
              | (refine wpList_load_blk rfl _ _ rfl gp rfl tPl (pcells r kk (.slice Ap L cc)) _ HBK5.out Tryd.underlying113 rfl (by kernel_rfl) ?_)
              | fail)
            refine (HAD.out _ HTS5.out.2.1).mono ?_
            rintro e w6 ⟨⟨A6, c6, rfl, ht6⟩, hb6⟩
            have HTS6 := Lib.hid (HTS5.out.below hb6)
            have HG6 : Hid (gp < w6.heap.size) := HTS6.out.2.2.2.2.1
            clear ht6 hb6 hx0 hx1 HTS5 HBK5 hc1 hc2 HTS HAD HST
            have HKQ : Hid (Blk (w6.alloc (.cells (pcells 0 0 (.slice none 0 0)) tPl)) w6.heap.size tPl (pcells 0 0 (.slice none 0 0))) := Blk.new _ _ _
            go_wp2_with (first
              | (refine wpList_store_blk rfl _ _ _ rfl w6.heap.size (pcells r2 k2 (.slice A6 L2 c6)) rfl rfl _ _ HKQ.out (by kernel_rfl) rfl (pcells_one _ _ _ _ _) ?_; intro w7 hb7 hg7 hs7; have HB67 : Hid (Below w6.heap.size w6 w7) := Below.grown ((Below.refl _ _).alloc (Nat.le_refl _) _) hg7 (by simp) (fun q hq => by injection hq with hq; exact Nat.le_of_eq hq); have HTS7 := Lib.hid (HTS6.out.below HB67.out); clear hs7 hb7 hg7)
              | fail)
            refine (HIT.out _ (HLW.out.below (HB2.out.trans (HTS7.out.2.2.2.1.mono HB2.out.size)))).mono ?_
            rintro e w8 ⟨rfl, hb8⟩
            have HTS8 := Lib.hid (HTS7.out.below hb8)
            have HSZ8 : Hid (gp + 1 ≤ (w8.alloc (.cells #[.string EB] tSt)).heap.size) := by have h := HTS8.out.2.2.2.2.1; unfold Hid; simp; omega
            clear hb8
            have HSE : Hid (Value.string EB = SV (errS ce)) := by unfold Hid; rw [HEB.out]
            go_wp2_with (first
              | (at_builtin; go_must (refine wpList_pushT _ rfl _ _ 69 tSt 16 elem_strs rfl (gp + 1) _ _ rfl (Own.alloc' HTS8.out.2.2.1 _) (.string EB) ⟨w8.heap.size, 0, none⟩ 1 rfl (cell_new1 _ _ _) rfl HNB.out.1 HNB.out.2 HSZ8.out ?_); intro v9 w9 hown9 hgr9; have hown10 := hown9; rw [HSE.out] at hown10; have HTS9 := Lib.hid (TS.push (HTS8.out.below ((Below.refl _ _).alloc (Nat.le_refl _) _)) hown10 hgr9); clear hown9 hown10 hgr9)
              | fail)
            go_roundw
            case rel => exact ⟨k + 1, r, kk, zs, o ++ [errS ce], Ap, cc, L, HK.out, by first | rfl | rw [ui.out], HST2.out.symm, HGD.out, HL.out, HTS9.out⟩
            case measure => (try rw [ui.out]); have := HK.out; simp [intOf]; omega
        · obtain rfl : k = N := by omega
          have HF : Hid (((r, kk, zs), o) = tgo (((room : Int), 0, []), []) l) := HSTT.out.trans (by rw [List.take_of_length_le (by rw [← HN.out.1]; exact Nat.le_refl _)])
          have hr2 : Hid (res = (o ++ [keptS (r, kk, zs) L], 0)) := hr.out.trans (by rw [← HF.out, HL.out])
          obtain ⟨A9, c9, rfl, hc9, h9⟩ := HTS.out.2.2.1.res2
          obtain ⟨m9, hm9⟩ : ∃ m9, m9 = (o.map SV).length := ⟨_, rfl⟩
          rw [← hm9] at HTS ⊢
          clear hm9
          have hp1 := HTS.out.1.cell 1 (u := .int .i64 kk) rfl
          have hp2 := HTS.out.1.cell 2 (u := .slice Ap L cc) rfl
          have HSG : Hid (Seg wr wr.heap.size Ap (zs.map (.int .i64))) := HTS.out.2.1.1
          have hgd := HGD.out
          obtain ⟨IB, hIB⟩ : ∃ IB : ByteArray, IB = ⟨(Lib.itoa kk).toArray⟩ := ⟨_, rfl⟩
          have HIT : Hid (∀ u, LibW u → Calls Tryd.prog 78 #[.int .i64 kk, .int .i64 10] u fun e w' => e = .returned (.string IB) ∧ Below u.heap.size u w') := fun u hu => by rw [hIB]; exact fmt_any kk (by have := hgd.1; simp only at this; omega) (by have := hgd.2.1; simp only at this; omega) u hu
          obtain ⟨EB, hEB⟩ : ∃ EB : ByteArray, EB = ⟨(keptS (r, kk, zs) 0).toArray⟩ := ⟨_, rfl⟩
          have hcat : ({ data := #[107, 101, 112, 116, 32] } : ByteArray) ++ IB = EB := by
            rw [hEB]
            refine (cat_sv [107, 101, 112, 116, 32] _ _ _ rfl hIB).trans ?_
            unfold keptS
            rw [List.take_zero, List.flatMap_nil, List.append_nil]
          have HEB := Lib.hid hEB
          have i1 : ¬ (k : Int) < (k : Int) := Int.lt_irrefl _
          have hz0 : IB.size ≤ 21 := by rw [hIB]; exact Lib.itoa_length_le kk (by have := hgd.1; simp only at this; omega) (by have := hgd.2.1; simp only at this; omega)
          have hz1 : ¬ 9223372036854775807 < 5 + IB.size := by omega
          have hz2 : ¬ 281474976710656 < 5 + IB.size := by omega
          clear hc9 h9 hgd hIB hEB hlt hkN hz0
          go_wp2_with fail
          refine (HIT.out _ HLX.out).mono ?_
          rintro e w5 ⟨rfl, hb5⟩
          have HTS5 := Lib.hid (HTS.out.below hb5)
          have hp3 := HTS5.out.1.cell 2 (u := .slice Ap L cc) rfl
          clear hb5 hp1 hp2 HIT HSG HTS HBX HLX
          go_wp2_with fail
          clear hp3 i1 hcat hz1 hz2
          go_loopw [14, 70] (fun s14 s70 wx => ∃ (j : Nat) (SB : ByteArray), j ≤ L ∧ s70 = .int .i64 j ∧ s14 = .string SB ∧ Hid (SB = ⟨(keptS (r, kk, zs) j).toArray⟩) ∧ Hid (TS w2 wx gp r kk zs Ap L cc o (.slice A9 m9 c9))) (fun _ s70 _ => L - (intOf s70).toNat)
          case atStart => exact ⟨0, EB, Nat.zero_le _, rfl, rfl, HEB.out, HTS5.out⟩
          case round =>
            clear HTS5
            obtain ⟨j, SB, hjL, rfl, rfl, HSB, HTX⟩ := hrel
            have HL4 : Hid (L ≤ 401) := by rw [HL.out]; exact HGD.out.2.2.1
            have HLX : Hid (LibW wr) := HLW.out.below (HB2.out.trans (HTX.out.2.2.2.1.mono HB2.out.size))
            have hsz : SB.size ≤ 26 + 22 * j := by rw [HSB.out]; exact kept_len HGD.out j
            by_cases hlt : j < L
            · have hk2 : j < zs.length := by rw [← HL.out]; exact hlt
              obtain ⟨ad, rfl, _, hc1⟩ := HTX.out.2.1.1.int hk2
              have hyy := HGD.out.2.2.2 zs[j] (List.getElem_mem hk2)
              have hks := kept_step (r, kk, zs) (j := j) hk2
              simp only at hks
              obtain ⟨yy, hy⟩ : ∃ yy, yy = zs[j] := ⟨_, rfl⟩
              rw [← hy] at hc1 hyy hks
              obtain ⟨IY, hIY⟩ : ∃ IY : ByteArray, IY = ⟨(Lib.itoa yy).toArray⟩ := ⟨_, rfl⟩
              have HIT : Hid (∀ u, LibW u → Calls Tryd.prog 78 #[.int .i64 yy, .int .i64 10] u fun e w' => e = .returned (.string IY) ∧ Below u.heap.size u w') := fun u hu => by rw [hIY]; exact fmt_any yy (by omega) (by omega) u hu
              obtain ⟨CY, hCY⟩ : ∃ CY : ByteArray, CY = ⟨(32 :: Lib.itoa yy).toArray⟩ := ⟨_, rfl⟩
              have hcat1 : ({ data := #[32] } : ByteArray) ++ IY = CY := by rw [hCY]; exact cat_sv [32] _ _ _ rfl hIY
              obtain ⟨SB2, hSB2⟩ : ∃ SB2 : ByteArray, SB2 = ⟨(keptS (r, kk, zs) (j + 1)).toArray⟩ := ⟨_, rfl⟩
              have hcat2 : SB ++ CY = SB2 := by rw [hSB2, hks]; exact cat_sv _ _ _ _ HSB.out hCY
              have HSB2 := Lib.hid hSB2
              have hz0 : IY.size ≤ 21 := by rw [hIY]; exact Lib.itoa_length_le yy (by omega) (by omega)
              have hz00 : CY.size ≤ 22 := by rw [hCY]; have := Lib.itoa_length_le yy (by omega) (by omega); show (32 :: Lib.itoa yy).length ≤ 22; rw [List.length_cons]; omega
              have hz1 : ¬ 9223372036854775807 < 1 + IY.size := by omega
              have hz2 : ¬ 281474976710656 < 1 + IY.size := by omega
              have hz3 : ¬ 9223372036854775807 < SB.size + CY.size := by have := HL4.out; omega
              have hz4 : ¬ 281474976710656 < SB.size + CY.size := by have := HL4.out; omega
              have ui : Hid (wrap64 ((j : Int) + 1) = ((j + 1 : Nat) : Int)) := by have := HL4.out; unfold Hid; rw [wr64 _ (by omega) (by omega)]; omega
              have i1 : (j : Int) < (L : Int) := by omega
              have HK := Lib.hid hlt
              clear hk2 hyy hks hy hIY hCY hSB2 hz0 hz00 hsz hlt hjL
              go_wp2_with fail
              refine (HIT.out _ HLX.out).mono ?_
              rintro e w6 ⟨rfl, hb6⟩
              have HTX6 := Lib.hid (HTX.out.below hb6)
              clear hb6 HTX hc1
              go_wp2_with fail
              go_roundw
              case rel => exact ⟨j + 1, SB2, HK.out, by first | rfl | rw [ui.out], rfl, HSB2.out, HTX6.out⟩
              case measure => (try rw [ui.out]); have := HK.out; simp [intOf]; omega
            · obtain rfl : j = L := by omega
              have HSE : Hid (Value.string SB = SV (keptS (r, kk, zs) j)) := by unfold Hid; rw [HSB.out]
              have HSZ8 : Hid (gp + 1 ≤ (wr.alloc (.cells #[.string SB] tSt)).heap.size) := by have h := HTX.out.2.2.2.2.1; unfold Hid; simp; omega
              have i1 : ¬ (j : Int) < (j : Int) := Int.lt_irrefl _
              clear hlt hjL hsz
              go_wp2_with (first
                | (at_builtin; go_must (refine wpList_pushT _ rfl _ _ 69 tSt 16 elem_strs rfl (gp + 1) _ _ rfl (Own.alloc' HTX.out.2.2.1 _) (.string SB) ⟨wr.heap.size, 0, none⟩ 1 rfl (cell_new1 _ _ _) rfl HNB.out.1 HNB.out.2 HSZ8.out ?_); intro v9 w9 hown9 hgr9; have hown10 := hown9; rw [HSE.out] at hown10; have HTS9 := Lib.hid (TS.push (HTX.out.below ((Below.refl _ _).alloc (Nat.le_refl _) _)) hown10 hgr9); clear hown9 hown10 hgr9)
                | fail)
              obtain ⟨A10, c10, rfl, hc10, h10⟩ := HTS9.out.2.2.1.res2
              have HE := Lib.hid (And.intro hc10 h10.seg)
              clear hc10 h10
              go_ret2
              rw [hr2.out]
              refine ⟨A10, c10, ?_, ?_, HE.out.2, HB2.out.trans (HTS9.out.2.2.2.1.mono HB2.out.size)⟩
              · rw [List.length_map]; rfl
              · have h := HE.out.1
                rw [List.length_map] at h
                exact h
  · have hr : Hid (res = ([], code)) := HRES.out.trans (if_pos hc)
    have b1 : ((code : Int) != 0) = true := by rw [bne_iff_ne]; omega
    clear hc HRES hcd hrm
    go_enter Tryd.func35, Tryd.ntmps35
    go_wp2_with fail
    refine (HPA.out _ HLW.out).mono ?_
    rintro e w2 ⟨A2, c2, rfl, hs2, hb2⟩
    have HB2 := Lib.hid hb2
    clear hs2 hb2 HPA
    go_wp2_with fail
    go_ret2
    exact ⟨none, 0, by rw [hr.out]; rfl, by rw [hr.out]; exact Nat.le_refl _, by rw [hr.out]; exact Seg.nil, HB2.out⟩

set_option linter.unusedVariables false

theorem take_step_strs (zs ys : List Bs) (j : Nat) (h1 : j < zs.length) (h2 : j < ys.length) (h : zs.take j = ys.take j) (e : zs[j] = ys[j]) : zs.take (j + 1) = ys.take (j + 1) := by
  rw [List.take_succ_eq_append_getElem h1, List.take_succ_eq_append_getElem h2, h, e]
set_option maxHeartbeats 400000 in
theorem eq_strs (zs ys : List Bs) (A C : Option Addr) (c d B : Nat) (w : World) (hs : Seg w B A (zs.map SV)) (ht : Seg w B C (ys.map SV)) (hm : zs.length ≤ 9223372036854775807) :
    Calls Tryd.prog 36 #[.slice A zs.length c, .slice C ys.length d] w fun e w' => e = .returned (.bool (decide (zs = ys))) ∧ ∃ n, w' = w.drewN n := by
  by_cases hl : zs.length = ys.length
  · have b0 : ((zs.length : Int) != (ys.length : Int)) = false := by rw [hl]; simp
    have HL := Lib.hid hl
    have hle : zs.length ≤ ys.length := by omega
    clear hl
    go_enter Tryd.func36, Tryd.ntmps36
    go_wp2
    go_loopw [13] (fun i wr => ∃ j : Nat, j ≤ zs.length ∧ i = .int .i64 j ∧ Hid (zs.take j = ys.take j) ∧ ∃ n, wr = w.drewN n) (fun i _ => zs.length - (intOf i).toNat)
    case atStart => exact ⟨0, Nat.zero_le _, rfl, rfl, 0, rfl⟩
    case round =>
      obtain ⟨j, hj, rfl, hp, n, rfl⟩ := hrel
      by_cases hlt : j < zs.length
      · have hlt2 : j < ys.length := by omega
        have hi1 : (j : Int) < (zs.length : Int) := by omega
        have hi2 : (j : Int) < (ys.length : Int) := by omega
        obtain ⟨ad, rfl, _, hc⟩ := hs.get (k := j) (u := SV zs[j]) (by rw [List.getElem?_map, List.getElem?_eq_getElem hlt]; rfl)
        obtain ⟨ae, rfl, _, hd⟩ := ht.get (k := j) (u := SV ys[j]) (by rw [List.getElem?_map, List.getElem?_eq_getElem hlt2]; rfl)
        have hstep := Lib.hid (take_step_strs zs ys j hlt hlt2 hp.out)
        have hnot : Hid (zs[j] ≠ ys[j] → decide (zs = ys) = false) := fun h => decide_eq_false (fun h1 => h (by simp [h1]))
        obtain ⟨x, hx⟩ : ∃ x, x = zs[j] := ⟨_, rfl⟩
        obtain ⟨y, hy⟩ : ∃ y, y = ys[j] := ⟨_, rfl⟩
        rw [← hx] at hc hstep hnot
        rw [← hy] at hd hstep hnot
        clear hx hy
        obtain ⟨XB, hXB⟩ : ∃ XB : ByteArray, XB = ⟨x.toArray⟩ := ⟨_, rfl⟩
        obtain ⟨YB, hYB⟩ : ∃ YB : ByteArray, YB = ⟨y.toArray⟩ := ⟨_, rfl⟩
        have hcmp : (XB.toList == YB.toList) = decide (x = y) := by
          rw [hXB, hYB, Lib.toList_data, Lib.toList_data]
          by_cases h : x = y
          · rw [h]; simp
          · rw [decide_eq_false h, beq_eq_false_iff_ne]; exact h
        rw [show SV x = Value.string XB by rw [hXB]] at hc
        rw [show SV y = Value.string YB by rw [hYB]] at hd
        clear hXB hYB
        by_cases he : x = y
        · rw [decide_eq_true he] at hcmp
          have HE := Lib.hid he
          clear he
          go_wp2
          go_quiet (fail)
          go_wp2
          go_roundw
          case rel => exact ⟨j + 1, by omega, by go_num, hstep.out HE.out, _, rfl⟩
          case measure => simp [intOf]; omega
        · rw [decide_eq_false he] at hcmp
          have HN := Lib.hid (hnot.out he)
          clear he
          go_wp2
          go_quiet (fail)
          go_wp2
          go_ret
          exact ⟨by rw [HN.out]; rfl, n + nq, by rw [World.drewN_drewN]⟩
      · have HF : Hid (decide (zs = ys) = true) := by
          have h := hp.out
          rw [List.take_of_length_le (by omega), List.take_of_length_le (by have := HL.out; omega)] at h
          exact decide_eq_true h
        have hi1 : ¬ (j : Int) < (zs.length : Int) := by omega
        go_wp2
        go_ret
        exact ⟨by rw [HF.out]; rfl, _, rfl⟩
  · have b0 : ((zs.length : Int) != (ys.length : Int)) = true := by rw [bne_iff_ne]; omega
    have HN : Hid (decide (zs = ys) = false) := decide_eq_false (fun h => hl (by rw [h]))
    clear hl
    go_enter Tryd.func36, Tryd.ntmps36
    go_wp2
    go_ret
    exact ⟨by rw [HN.out]; rfl, 0, rfl⟩
set_option maxRecDepth 20000 in
set_option maxHeartbeats 4000000 in
theorem benchTells_core (T : ByteArray) (w : World) (r : List Bs × Nat) (hr : r.1.length ≤ 9223372036854775807)
    (h1 : ∀ u, Below w.heap.size w u → Calls Tryd.prog 34 #[.string T] u fun e w' => TeOut u r e w')
    (h2 : ∀ u, Below w.heap.size w u → Calls Tryd.prog 35 #[.string T] u fun e w' => TeOut u r e w') :
    Calls Tryd.prog 8 #[.string T] w fun e w' => e = .returned (.bool true) ∧ Below w.heap.size w w' := by
  obtain ⟨l, c⟩ := r
  obtain ⟨n, hn⟩ : ∃ n, n = l.length := ⟨_, rfl⟩
  have hr : l.length ≤ 9223372036854775807 := hr
  have H1 : Hid (∀ u, Below w.heap.size w u → Calls Tryd.prog 34 #[.string T] u fun e w' => ∃ A cc, e = .returned (.tuple #[.slice A n cc, .int .i64 (c : Nat)]) ∧ n ≤ cc ∧ Seg w' w'.heap.size A (l.map SV) ∧ Below u.heap.size u w') := by rw [hn]; exact h1
  have H2 : Hid (∀ u, Below w.heap.size w u → Calls Tryd.prog 35 #[.string T] u fun e w' => ∃ A cc, e = .returned (.tuple #[.slice A n cc, .int .i64 (c : Nat)]) ∧ n ≤ cc ∧ Seg w' w'.heap.size A (l.map SV) ∧ Below u.heap.size u w') := by rw [hn]; exact h2
  have HEQ : Hid (∀ (u : World) (A C : Option Addr) (cc d : Nat), Seg u u.heap.size A (l.map SV) → Seg u u.heap.size C (l.map SV) → Calls Tryd.prog 36 #[.slice A n cc, .slice C n d] u fun e w' => e = .returned (.bool true) ∧ ∃ n, w' = u.drewN n) := fun u A C cc d hs ht => by
    have h := eq_strs l l A C cc d u.heap.size u hs ht hr
    rw [decide_eq_true rfl, ← hn] at h
    exact h
  have b0 : ((c : Int) == (c : Int)) = true := by simp
  clear h1 h2 hr hn
  go_enter Tryd.func8, Tryd.ntmps8
  go_wp2_with fail
  refine (H1.out _ (Below.refl _ _)).mono ?_
  rintro e w1 ⟨A1, c1, rfl, _, hs1, hb1⟩
  have HS1 := Lib.hid hs1
  have HB1 := Lib.hid hb1
  clear hs1 hb1
  go_wp2_with fail
  refine (H2.out _ HB1.out).mono ?_
  rintro e w2 ⟨A2, c2, rfl, _, hs2, hb2⟩
  have HS1b := Lib.hid ((HS1.out.below hb2).more hb2.size)
  have HS2 := Lib.hid hs2
  have HB2 : Hid (Below w.heap.size w w2) := HB1.out.trans (hb2.mono HB1.out.size)
  clear hs2 hb2
  go_wp2_with fail
  refine (HEQ.out _ _ _ _ _ HS1b.out HS2.out).mono ?_
  rintro e w3 ⟨rfl, m3, rfl⟩
  go_wp2_with fail
  go_ret
  exact ⟨rfl, below_drewN HB2.out _⟩
theorem tellR_len (t : Bs) : (tellR t).1.length ≤ t.length + 1 := by
  unfold tellR
  split
  · simp
  · split
    · rw [List.length_append, tgo_len]
      obtain ⟨room, l, k, c, h⟩ : ∃ a b c d, parseR t = (a, b, c, d) := ⟨_, _, _, _, rfl⟩
      have := (parse_ok h).2.1
      rw [h]
      simp
      omega
    · simp
theorem BenchTells_walk (s : ByteArray) (w : World) (hs : s.size ≤ 4000000000) (hL : LibW w) :
    Calls Tryd.prog 8 #[.string s] w fun e w' => e = .returned (.bool true) ∧ Below w.heap.size w w' := by
  have e : Value.string s = SV s.data.toList := sv_of s
  have e2 : s = ⟨s.data.toList.toArray⟩ := by rw [Array.toArray_toList]
  have hl : s.data.toList.length ≤ 4000000000 := by have : s.data.toList.length = s.size := by rw [Array.length_toList]; rfl
                                                    omega
  have hr := tellR_len s.data.toList
  refine benchTells_core s w (tellR s.data.toList) (by omega) (fun u hu => ?_) (fun u hu => ?_)
  · rw [e]; exact tell_any _ hl u (hL.below hu)
  · rw [e]; exact ztell_any _ hl u (hL.below hu)
/-! ### the closed fact that the statements on the whole ask first -/
def aliveT : Bs := [114, 111, 111, 109, 32, 49, 10, 97, 100, 100, 32, 52, 32, 48, 10, 97, 100, 100, 32, 54, 32, 48, 10, 97, 100, 100, 32, 56, 32, 50, 10]
theorem itoa_dec (n : Nat) : Lib.itoa (n : Int) = Lib.decDigits n := by
  unfold Lib.itoa
  rw [if_neg (by omega), Int.toNat_natCast]
theorem alive_parse : parseR aliveT = (1, [(4, 0), (6, 0), (8, 2)], 0, 0) := by decide +kernel
theorem alive_tgo : tgo (((1 : Int), 0, []), []) [(4, 0), (6, 0), (8, 2)] = ((1, 3, [6]), [okS, okS, okS]) := by decide +kernel
theorem alive_tell : tellR aliveT = ([okS, okS, okS, [107, 101, 112, 116, 32, 51, 32, 54]], 0) := by
  have h3 : Lib.itoa 3 = [51] := by rw [show (3 : Int) = ((3 : Nat) : Int) from rfl, itoa_dec, Lib.decDigits_one (by decide)]; rfl
  have h6 : Lib.itoa 6 = [54] := by rw [show (6 : Int) = ((6 : Nat) : Int) from rfl, itoa_dec, Lib.decDigits_one (by decide)]; rfl
  unfold tellR
  rw [alive_parse]
  simp only
  rw [if_neg (by decide), if_pos (by decide)]
  have e : ((((1 : Nat) : Int), 0, []) : Pl) = ((1 : Int), 0, []) := rfl
  rw [e, alive_tgo]
  simp only
  unfold keptS
  simp only [h3, List.length_singleton, List.take_succ_cons, List.take_zero, List.flatMap_cons, List.flatMap_nil, h6]
  rfl
set_option maxRecDepth 20000 in
set_option maxHeartbeats 4000000 in
theorem alive_any (w : World) (hL : LibW w) : Calls Tryd.prog 11 #[] w fun e w' => e = .returned (.bool true) ∧ Below w.heap.size w w' := by
  have HT : Hid (∀ u, LibW u → Calls Tryd.prog 34 #[.string ⟨aliveT.toArray⟩] u fun e w' => ∃ A cc, e = .returned (.tuple #[.slice A 4 cc, .int .i64 0]) ∧ Seg w' w'.heap.size A ([okS, okS, okS, [107, 101, 112, 116, 32, 51, 32, 54]].map SV) ∧ Below u.heap.size u w') := fun u hu => by
    have h := tell_any aliveT (by decide) u hu
    rw [alive_tell] at h
    exact h.mono fun e w' ⟨A, c, h1, _, h3, h4⟩ => ⟨A, c, h1, h3, h4⟩
  have HEQ : Hid (∀ (u : World) (A C : Option Addr) (cc d : Nat), Seg u u.heap.size A ([okS, okS, okS, [107, 101, 112, 116, 32, 51, 32, 54]].map SV) → Seg u u.heap.size C ([okS, okS, okS, [107, 101, 112, 116, 32, 51, 32, 54]].map SV) → Calls Tryd.prog 36 #[.slice A 4 cc, .slice C 4 d] u fun e w' => e = .returned (.bool true) ∧ ∃ n, w' = u.drewN n) := fun u A C cc d hs ht => by
    have h := eq_strs [okS, okS, okS, [107, 101, 112, 116, 32, 51, 32, 54]] [okS, okS, okS, [107, 101, 112, 116, 32, 51, 32, 54]] A C cc d u.heap.size u hs ht (by decide)
    rw [decide_eq_true rfl] at h
    exact h
  go_enter Tryd.func11, Tryd.ntmps11
  go_wp2_with fail
  refine (HT.out _ hL).mono ?_
  rintro e w1 ⟨A1, c1, rfl, hs1, hb1⟩
  have HS1 := Lib.hid hs1
  have HB1 := Lib.hid hb1
  clear hs1 hb1
  go_wp2_with fail
  have HS1b : Hid (Seg (w1.alloc (.cells #[SV okS, SV okS, SV okS, SV [107, 101, 112, 116, 32, 51, 32, 54]] 9)) (w1.alloc (.cells #[SV okS, SV okS, SV okS, SV [107, 101, 112, 116, 32, 51, 32, 54]] 9)).heap.size A1 ([okS, okS, okS, [107, 101, 112, 116, 32, 51, 32, 54]].map SV)) := (HS1.out.alloc (Nat.le_refl _) _).more (by simp)
  have HS2 : Hid (Seg (w1.alloc (.cells #[SV okS, SV okS, SV okS, SV [107, 101, 112, 116, 32, 51, 32, 54]] 9)) (w1.alloc (.cells #[SV okS, SV okS, SV okS, SV [107, 101, 112, 116, 32, 51, 32, 54]] 9)).heap.size (some ⟨w1.heap.size, 0, none⟩) ([okS, okS, okS, [107, 101, 112, 116, 32, 51, 32, 54]].map SV)) := seg_block w1 ([okS, okS, okS, [107, 101, 112, 116, 32, 51, 32, 54]].map SV) 9
  refine (HEQ.out _ _ _ _ _ HS1b.out HS2.out).mono ?_
  rintro e w3 ⟨rfl, m3, rfl⟩
  go_wp2_with fail
  go_ret
  exact ⟨rfl, below_drewN (HB1.out.alloc HB1.out.size _) _⟩
end Go.Proofs.YtmibifmabkaakaaDoor
