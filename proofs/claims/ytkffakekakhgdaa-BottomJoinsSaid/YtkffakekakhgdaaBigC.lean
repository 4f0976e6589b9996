/- Whole numbers in memory: one is made another; signs; no condition. -/
import Derived.Test.YtkffakekakhgdaaBigS
import Derived.Deep.AppendSrc
namespace Go.Proofs.Ytkffakekakhgdaa
open Go.ChangeShapes Go.WideShapes Go.ChangeAt Go.RowKit

theorem wp_append_tseg {P : Program} (w : World) {o : Oper} {a : Act} {K : Act → World → Prop} {Q : Exit → Act → World → Prop} (s x : Operand) (t e : TypeId) (b : Nat) (E1 : Elem1 P t e b)
    (ho : o.op = .call { callee := .builtin .append, args := #[s, x], argTypes := #[t, t] }) (base g : Nat) (hs : a.eval s = .slice (some ⟨g, 0, none⟩) 0 0) (hg : Blk w g e #[]) (hbase : base ≤ g)
    (A : Option Addr) (m c : Nat) (hx : a.eval x = .slice A m c) (xs : List Value) (hl : xs.length = m) (hd : TSeg w e A xs) (h1 : ∀ u ∈ xs, u.oneCell' = true) (hb : m * b ≤ 140737488355328) (hm : m ≤ maxLen)
    (h : ∀ v' w', Own w' base e v' xs → Below base w w' → K (a.put o.dst v') w') : o.wp P a w K Q := by
  obtain ⟨ht, i, z, hi, hz, hsz, hby, hzs⟩ := E1
  have hgs := hg.lt
  have hown : w.ownsRow base e 1 (.slice (some ⟨g, 0, none⟩) 0 0) 0 [] := ⟨by simp, .inr ⟨g, 0, #[], rfl, hbase, hg, Nat.le_refl _, by simp, rfl, by simp⟩⟩
  cases A with
  | some ad =>
    refine wp_append_own w s x t ho base e i z 1 b ht hi hz hsz hby hzs (by decide) _ 0 [] hs hown ad m c xs hx (by omega) (fun j u hj => ?_) h1 (by omega) (by simpa using hb) (by omega) ?_
    · obtain ⟨ad', e1, hc⟩ := hd.cell hj
      injection e1 with e1
      rw [e1]; exact hc
    · intro v' w' h2 h3 _
      exact h v' w' (Own.to (by simpa using h2)) ((Below.refl _ _).grown h3 (by omega) (fun k hk => by simp [Value.ownBlock] at hk; omega))
  | none =>
    have hx0 : xs = [] := by
      cases xs with
      | nil => rfl
      | cons u us =>
        obtain ⟨ad, e1, _⟩ := hd.1 (by simp)
        cases e1
    subst hx0
    obtain rfl : m = 0 := by simpa using hl.symm
    have hr := run_append_room_src (P := P) w t t o.type e i ht hi g 0 0 0 (.slice none 0 c) 0 [] (Src.ofNil w ht c) (Nat.le_refl _) (by simp) (by simp)
    unfold Oper.wp execOp
    simp only [ho, resolve, invoke, builtin, Sem.run_bind, Sem.run_pure, Result.andThen_ok, List.map_toArray, List.map_cons, List.map_nil, hs, hx, hr]
    exact h _ _ ⟨by simp, .inr ⟨g, 0, #[], rfl, hbase, hg, Nat.le_refl _, by simp, rfl, by simp⟩⟩ (Below.refl _ _)
theorem u32s_one (ds : List Nat) : ∀ u ∈ u32s ds, u.oneCell' = true := by
  intro u hu
  simp [u32s] at hu
  obtain ⟨n, _, rfl⟩ := hu
  rfl
theorem elem_u32 : Elem1 Try.prog 71 tU 4 := elem_of (z := .int .u32 0) Try.underlying71 (by kernel_rfl) rfl
/-- The fields of a number of a block are set anew. -/
abbrev setNum (cs : Array Value) (o : Nat) (b : Bool) (A : Option Addr) (n c : Nat) : Array Value := (cs.setIfInBounds o (.bool b)).setIfInBounds (o + 1) (.slice A n c)
/-- What Set leaves: the number at g, o has that sign and those digits. -/
def SetOut (w w' : World) (g o : Nat) (t : TypeId) (cs : Array Value) (b : Bool) (ds : List Nat) : Prop :=
  ∃ A c, Blk w' g t (setNum cs o b A ds.length c) ∧ ds.length ≤ c ∧ ds.length ≤ capMax ∧ Digs w' A ds ∧ w.grownBy w' (some g)

set_option maxRecDepth 20000 in
set_option maxHeartbeats 2000000 in
theorem set_any (g o gx ox : Nat) (t : TypeId) (cs : Array Value) (b : Bool) (ds : List Nat) (w : World) (hz : Blk w g t cs) (ht : t ≠ tU) (ho : o + 1 < cs.size) (hx : IntAt w gx ox b ds) :
    Calls Try.prog 85 #[.pointer (some ⟨g, o, none⟩), .pointer (some ⟨gx, ox, none⟩)] w fun e w' => e = .returned (.pointer (some ⟨g, o, none⟩)) ∧ SetOut w w' g o t cs b ds := by
  obtain ⟨tx, csx, A, c, hbx, htx, hx0, hx1, hc, hm, hd⟩ := hx
  go_enter Try.func85, Try.ntmps85
  go_wp2_with fail
  have c0 := hbx.cell ox hx0
  have c1 := hbx.cell (ox + 1) hx1
  refine wp_region_plan [(0, 0), (1, 0), (2, 0), (3, 0), (4, 0), (5, 1), (7, 0), (8, 0), (9, 0), (10, 1), (6, 2), (11, 2), (12, 0), (13, 0), (14, 3), (15, 0), (16, 0), (17, 3)] (fun w' => w'.cell? ⟨gx, ox, none⟩ = some (.bool b) ∧ w'.cell? ⟨gx, ox + 1, none⟩ = some (.slice A ds.length c) ∧ Below w.heap.size w w') (by kernel_rfl) (by kernel_rfl) (fun _ d _ _ _ h => by cases d <;> exact h) ⟨c0, c1, Below.drew (Below.refl _ _)⟩ ?_
  iterate 10 ((first | (refine plan0 (v := ?_) rfl rfl (by rfl) ?_ ?_) | (refine plan1 (v := ?_) rfl rfl (by rfl) ?_ ?_)); rotate_left; (first | (intro w'; go_simp; with_reducible rfl) | (intro w' hS; obtain ⟨h1, h2, h3⟩ := hS; go_simp; with_reducible rfl)); simp only [List.setIfInBounds_toArray, List.set_cons_zero, List.set_cons_succ])
  refine plan2 rfl rfl fun K' hK' => ?_
  go_simp
  refine hK' _ _ ⟨by go_keep, by go_keep, (Below.drew (Below.refl _ _)).alloc (by simp) _⟩ ?_
  clear hK' K'
  refine plan2 rfl rfl fun K' hK' => ?_
  refine wp_append_tseg _ _ _ _ tU 4 elem_u32 rfl w.heap.size w.heap.size rfl (Blk.drew (Blk.new w tU #[])) (Nat.le_refl _) A ds.length c rfl (u32s ds) (u32s_len ds) (hd.alloc _).drew (u32s_one ds) (by have h : ds.length ≤ 17592186044416 := hm; omega) (by have h : ds.length ≤ 17592186044416 := hm; unfold maxLen; omega) ?_
  intro v w1 hown hbel
  obtain ⟨A2, c2, rfl, hc2, hown2⟩ := hown.res2
  have hcell : ∀ p : Addr, p.block < w.heap.size → w1.cell? p = w.cell? p := fun p hp => (hbel.cell hp).trans (World.cell?_alloc_lt w _ p hp)
  have hbw : Below w.heap.size w w1 := ((Below.drew (Below.refl _ _)).alloc (by simp) _).trans hbel
  refine hK' _ _ ⟨(hcell _ hbx.lt).trans c0, (hcell _ hbx.lt).trans c1, hbw⟩ ?_
  have hz1 := hz.below hbw hz.lt
  have z0 := hz1.cell o (Array.getElem?_eq_getElem (show o < cs.size by omega))
  have z1 := hz1.cell (o + 1) (Array.getElem?_eq_getElem ho)
  have f0 := hz1.frozen o
  have f1 := hz1.frozen (o + 1)
  clear hK' K' hcell hown c0 c1
  rw [u32s_len]
  simp only [Act.put, List.setIfInBounds_toArray, List.set_cons_zero, List.set_cons_succ]
  iterate 2 ((refine plan0 (v := ?_) rfl rfl (by rfl) ?_ ?_); rotate_left; (intro w'; go_simp; with_reducible rfl); simp only [List.setIfInBounds_toArray, List.set_cons_zero, List.set_cons_succ])
  refine plan3 rfl rfl fun K' hK' => ?_
  go_simp
  refine hK' _ _ ?_
  clear hK' K'
  iterate 2 ((refine plan0 (v := ?_) rfl rfl (by rfl) ?_ ?_); rotate_left; (intro w'; go_simp; with_reducible rfl); simp only [List.setIfInBounds_toArray, List.set_cons_zero, List.set_cons_succ])
  refine plan3 rfl rfl fun K' hK' => ?_
  go_simp
  refine hK' _ _ ?_
  clear hK' K'
  have H2 := Lib.hid hown2
  have HZ := Lib.hid hz1
  have HB := Lib.hid hbw
  have HC := Lib.hid hc2
  clear hown2 hz1 hbw hbel hc2 z0 z1 f0 f1
  rw [u32s_len] at HC H2
  refine planEnd ?_
  go_wp2
  go_ret
  have hgr : w.grownBy _ (some g) := (grown_of_below HB.out (some g)).trans ((setCell_grown w1 g o (.bool b)).trans (setCell_grown _ g (o + 1) (.slice A2 ds.length c2)))
  exact ⟨rfl, A2, c2, (HZ.out.set_ o _).set_ (o + 1) _, HC.out, hm, ((H2.out.tseg).far HZ.out ht o _).far (HZ.out.set_ o _) ht (o + 1) _, hgr⟩
end Go.Proofs.Ytkffakekakhgdaa
