/- What bench.Tell tells, plain; lists of strings; worlds that grow. No condition. -/
import Derived.Test.YtmibifmabkaakaaDoorBenP
import Derived.Test.YtmibifmabkaakaaDoorPoolG
namespace Go.Proofs.YtmibifmabkaakaaDoor
open Go.ChangeShapes Go.WideShapes Go.ChangeAt Go.RowKit
set_option linter.unusedVariables false

section
variable {P : Program} (w : World)
/-- wpList_push, with what is left as it was. -/
theorem wpList_pushT {ops : Array Oper} {rest : List Oper} {o : Oper} {a : Act} {Q : Exit → Act → World → Prop} (hgd : o.guard = none) (s x : Operand) (t e : TypeId) (b : Nat)
    (E1 : Elem1 P t e b) (ho : o.op = .call { callee := .builtin .append, args := #[s, x], argTypes := #[t, t] })
    (base : Nat) (v : Value) (xs : List Value) (hs : a.eval s = v) (hown : Own w base e v xs) (u : Value) (ad : Addr) (c : Nat) (hx : a.eval x = .slice (some ad) 1 c)
    (hc : w.cell? ad = some u) (hu : u.oneCell' = true) (hb : (xs.length + 1) * b ≤ 140737488355328) (hm : xs.length + 1 ≤ maxLen) (hbase : base ≤ w.heap.size)
    (h : ∀ v' w', Own w' base e v' (xs ++ [u]) → w.grownBy w' v.ownBlock → wpList P ops Q rest (a.put o.dst v') w') : wpList P ops Q (o :: rest) a w := by
  obtain ⟨ht, i, z, hi, hz, hsz, hby, hzs⟩ := E1
  refine wpList_append_own w hgd s x t ho base e i z 1 b ht hi hz hsz hby hzs (by decide) v xs.length xs hs hown ad 1 c [u] hx rfl (fun j y hy => ?_) (by simpa using hu) hm hb hbase ?_
  · have hj : j = 0 := by
      have := (List.getElem?_eq_some_iff.1 hy).1
      simp at this
      exact this
    subst hj
    simp at hy
    subst hy
    exact hc
  · intro v' w' h1 h2 _
    exact h v' w' (Own.to h1) h2
end
theorem tseg_grown {w w' : World} {e t k : Nat} {A : Option Addr} {xs : List Value} {cs : Array Value} (h : TSeg w e A xs) (hb : w.grownBy w' (some k)) (hg : Blk w k t cs) (hne : t ≠ e) : TSeg w' e A xs := by
  by_cases h0 : 0 < xs.length
  · obtain ⟨ad, c, ha, hc⟩ := h.2 h0
    have hbl : ad.block ≠ k := by
      intro e1
      rw [e1] at hc
      unfold Blk at hg
      rw [hg] at hc
      injection hc with hc
      injection hc with _ h2 _
      exact hne h2
    obtain ⟨ad', ha', hlt, hcs⟩ := h.1 h0
    obtain rfl : ad = ad' := by rw [ha] at ha'; injection ha'
    have hbk : w'.heap[ad.block]? = w.heap[ad.block]? := hb.block _ hlt (by simpa using hbl)
    refine ⟨fun _ => ⟨ad, ha, by have := hb.size; omega, fun i v hk => ?_⟩, fun _ => ⟨ad, c, ha, hbk.trans hc⟩⟩
    exact (World.cell?_of_block (w := w) (a := ad.add i) (by rw [addr_block]; exact hbk)).trans (hcs i v hk)
  · have : xs = [] := List.eq_nil_of_length_eq_zero (by omega)
    subst this
    exact TSeg.nil
theorem tseg_push {w w' : World} {e t base : Nat} {A : Option Addr} {xs ys : List Value} {v : Value} (h : TSeg w e A xs) (ho : Own w base t v ys) (hne : t ≠ e) (hb : w.grownBy w' v.ownBlock) : TSeg w' e A xs := by
  rcases ho.2 with ⟨rfl, _⟩ | ⟨g, cap, cur, rfl, _, hh, _⟩
  · exact h.below ((Below.refl _ _).grown hb (Nat.le_refl _) (fun q hq => by cases hq))
  · exact tseg_grown (t := t) (k := g) (cs := cur) h hb hh hne
theorem blk_push {w w' : World} {g base : Nat} {t e : TypeId} {cs : Array Value} {v : Value} {xs : List Value} (h : Blk w g t cs) (ho : Own w base e v xs) (hg : g < base) (hb : w.grownBy w' v.ownBlock) : Blk w' g t cs :=
  h.row hb (fun k hk => by have := ho.block k hk; omega)
theorem own_put {w w' : World} {g base : Nat} {e : TypeId} {v : Value} {xs : List Value} (h : Own w base e v xs) (hb : w.grownBy w' (some g)) (hg : g < base) : Own w' base e v xs :=
  h.keepRow hb fun q hq e1 => by have := h.block q hq; omega
abbrev tSt : TypeId := 9
theorem elem_strs : Elem1 Tryd.prog 69 9 16 := elem_of (z := .string ByteArray.empty) Tryd.underlying69 (by kernel_rfl) rfl
abbrev Pl := Int × Int × List Int
def okS : Bs := [111, 107]
def errS (e : Int) : Bs := [101, 114, 114, 111, 114, 32] ++ Lib.itoa e
def tstep (st : Pl × List Bs) (xd : Nat × Nat) : Pl × List Bs :=
  if (padd st.1.1 st.1.2.1 st.1.2.2 xd.1 xd.2).2 = 0 then ((padd st.1.1 st.1.2.1 st.1.2.2 xd.1 xd.2).1, st.2 ++ [okS]) else (st.1, st.2 ++ [errS (padd st.1.1 st.1.2.1 st.1.2.2 xd.1 xd.2).2])
def tgo (st : Pl × List Bs) (l : List (Nat × Nat)) : Pl × List Bs := l.foldl tstep st
theorem tgo_step (st : Pl × List Bs) (l : List (Nat × Nat)) {k : Nat} (hk : k < l.length) : tgo st (l.take (k + 1)) = tstep (tgo st (l.take k)) l[k] := by
  unfold tgo
  rw [List.take_succ_eq_append_getElem hk, List.foldl_append]
  rfl
theorem tgo_len : ∀ (l : List (Nat × Nat)) (st : Pl × List Bs), (tgo st l).2.length = st.2.length + l.length
  | [], st => rfl
  | x :: l, st => by
    show (tgo (tstep st x) l).2.length = _
    rw [tgo_len l]
    unfold tstep
    split <;> simp <;> omega
theorem padd_err_lt {r k x d : Int} {zs : List Int} : 0 ≤ (padd r k zs x d).2 ∧ (padd r k zs x d).2 ≤ 4 := by
  unfold padd
  by_cases h0 : padde r k d zs.length = 0
  · rw [if_pos h0]; simp
  · rw [if_neg h0]
    show 0 ≤ padde r k d zs.length ∧ padde r k d zs.length ≤ 4
    unfold padde
    split
    · split
      · decide
      · split <;> decide
    · decide
/-- A pool as it may be. -/
def GoodP (p : Pl) : Prop := 0 ≤ p.2.1 ∧ p.2.1 ≤ 1099511627776 ∧ p.2.2.length ≤ 401 ∧ ∀ x ∈ p.2.2, 0 ≤ x ∧ x ≤ 1099511627776
def keptS (p : Pl) (k : Nat) : Bs := [107, 101, 112, 116, 32] ++ Lib.itoa p.2.1 ++ (p.2.2.take k).flatMap fun x => 32 :: Lib.itoa x
/-- What Tell hands back. -/
def tellR (t : Bs) : List Bs × Nat :=
  if (parseR t).2.2.2 ≠ 0 then ([], (parseR t).2.2.2)
  else if 1 ≤ (parseR t).1 ∧ (parseR t).1 ≤ 400 then ((tgo (((parseR t).1, 0, []), []) (parseR t).2.1).2 ++ [keptS (tgo (((parseR t).1, 0, []), []) (parseR t).2.1).1 (tgo (((parseR t).1, 0, []), []) (parseR t).2.1).1.2.2.length], 0)
  else ([], 2)
def TeOut (w : World) (r : List Bs × Nat) (e : Ending) (w' : World) : Prop :=
  ∃ A c, e = .returned (.tuple #[.slice A r.1.length c, .int .i64 (r.2 : Nat)]) ∧ r.1.length ≤ c ∧ Seg w' w'.heap.size A (r.1.map SV) ∧ Below w.heap.size w w'
end Go.Proofs.YtmibifmabkaakaaDoor
