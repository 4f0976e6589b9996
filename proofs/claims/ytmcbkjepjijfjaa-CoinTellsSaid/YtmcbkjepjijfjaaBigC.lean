/- Whole numbers in memory: one is made another; signs; no condition. -/
import Derived.Test.YtmcbkjepjijfjaaBigS
import Derived.Deep.AppendSrc
namespace Go.Proofs.Ytmcbkjepjijfjaa
open Go.ChangeShapes Go.WideShapes Go.ChangeAt Go.RowKit

theorem wp_append_tseg {P : Program} (w : World) {o : Oper} {a : Act} {K : Act → World → Prop} {Q : Exit → Act → World → Prop} (s x : Operand) (t e : TypeId) (b : Nat) (E1 : Elem1 P t e b)
    (ho : o.op = .call { callee := .builtin .append, args := #[s, x], argTypes := #[t, t] }) (base g : Nat) (hs : a.eval s = .slice (some ⟨g, 0, none⟩) 0 0) (hg : Blk w g e #[]) (hbase : base ≤ g)
    (A : Option Addr) (m c : Nat) (hx : a.eval x = .slice A m c) (xs : List Value) (hl : xs.length = m) (hd : TSeg w e A xs) (h1 : ∀ u ∈ xs, u.oneCell' = true) (hb : m * b ≤ 140737488355328) (hm : m ≤ maxLen)
    (h : ∀ v' w', Own w' base e v' xs → Below base w w' → K (a.put o.dst v') w') : o.wp P a w K Q := by
  obtain ⟨ht, i, z, hi, hz, hsz, hby, hzs⟩ := E1
  have hgs := hg.lt
  have hown : w.ownsRow base e 1 (.slice (some ⟨g, 0, none⟩) 0 0) 0 [] := ⟨by simp, .inr ⟨g, 0, #[], rfl, hbase, hg, Nat.le_refl _, by simp, rfl, by simp⟩⟩
  cases A with
  | some ad =>
    refine wp_append_own w s x t ho base e i z 1 b ht hi hz hsz hby hzs (by decide) _ 0 [] hs hown ad m c xs hx (by omega) (fun j u hj => ?_) h1 (by omega) (by simpa using hb) (by omega) ?_
    · obtain ⟨ad', e1, hc⟩ := hd.cell hj
      injection e1 with e1
      rw [e1]; exact hc
    · intro v' w' h2 h3 _
      exact h v' w' (Own.to (by simpa using h2)) ((Below.refl _ _).grown h3 (by omega) (fun k hk => by simp [Value.ownBlock] at hk; omega))
  | none =>
    have hx0 : xs = [] := by
      cases xs with
      | nil => rfl
      | cons u us =>
        obtain ⟨ad, e1, _⟩ := hd.1 (by simp)
        cases e1
    subst hx0
    obtain rfl : m = 0 := by simpa using hl.symm
    have hr := run_append_room_src (P := P) w t t o.type e i ht hi g 0 0 0 (.slice none 0 c) 0 [] (Src.ofNil w ht c) (Nat.le_refl _) (by simp) (by simp)
    unfold Oper.wp execOp
    simp only [ho, resolve, invoke, builtin, Sem.run_bind, Sem.run_pure, Result.andThen_ok, List.map_toArray, List.map_cons, List.map_nil, hs, hx, hr]
    exact h _ _ ⟨by simp, .inr ⟨g, 0, #[], rfl, hbase, hg, Nat.le_refl _, by simp, rfl, by simp⟩⟩ (Below.refl _ _)
theorem u32s_one (ds : List Nat) : ∀ u ∈ u32s ds, u.oneCell' = true := by
  intro u hu
  simp [u32s] at hu
  obtain ⟨n, _, rfl⟩ := hu
  rfl
theorem elem_u32 : Elem1 Try.prog 91 tU 4 := elem_of (z := .int .u32 0) Try.underlying91 (by kernel_rfl) rfl
/-- The fields of a number of a block are set anew. -/
abbrev setNum (cs : Array Value) (o : Nat) (b : Bool) (A : Option Addr) (n c : Nat) : Array Value := (cs.setIfInBounds o (.bool b)).setIfInBounds (o + 1) (.slice A n c)
/-- What Set leaves: the number at g, o has that sign and those digits. -/
def SetOut (w w' : World) (g o : Nat) (t : TypeId) (cs : Array Value) (b : Bool) (ds : List Nat) : Prop :=
  ∃ A c, Blk w' g t (setNum cs o b A ds.length c) ∧ ds.length ≤ c ∧ ds.length ≤ capMax ∧ Digs w' A ds ∧ w.grownBy w' (some g)

end Go.Proofs.Ytmcbkjepjijfjaa
