/- Maps that the call makes, their elements of the kind int: read as a function of the key. No condition. -/
import Derived.Test.YtakjcodfcoaadabBase2
import Derived.Maps.OwnOps
import Derived.Maps.Views
import Derived.WideKeyPair
namespace Go.Proofs.Ytakjcodfcoaadab
open Go.ChangeShapes Go.WideShapes Go.ChangeAt Go.RowKit Go.Maps Go.WideMaps

/-- Block b is a map with keys of type k; at each key stands F (0 where there is none). -/
def MapI (P : Program) (k e : TypeId) (w : World) (b n : Nat) (F : Value → Int) : Prop :=
  ∃ D : DataW Unit, w.ownsMap P k (plainElem P e) b n D ∧ IsMap D ∧ ∀ key kl, keyOf P k key = some kl → D.atKey kl (.lit (.int .i64 0)) = .lit (.int .i64 (F key))
section
variable {P : Program} {k e t : TypeId} {w w' : World} {b n : Nat} {F F' : Value → Int}
theorem MapI.lt (h : MapI P k e w b n F) : b < w.heap.size := by
  obtain ⟨D, ⟨es, clock, hb, _⟩, _⟩ := h
  rcases Nat.lt_or_ge b w.heap.size with hlt | hge
  · exact hlt
  · rw [Array.getElem?_eq_none hge] at hb; cases hb
theorem MapI.below {B : Nat} (h : MapI P k e w b n F) (hb : Below B w w') (hB : b < B) : MapI P k e w' b n F := by
  obtain ⟨D, ⟨es, clock, hh, r⟩, h2, h3⟩ := h
  exact ⟨D, ⟨es, clock, (hb.block b hB).trans hh, r⟩, h2, h3⟩
theorem MapI.drew (h : MapI P k e w b n F) : MapI P k e w.drew b n F := h
theorem MapI.drewN (h : MapI P k e w b n F) (m : Nat) : MapI P k e (w.drewN m) b n F := h
theorem MapI.made (P : Program) (k e : TypeId) (w : World) : MapI P k e (w.alloc (.map #[] 0)) w.heap.size 0 (fun _ => 0) :=
  ⟨_, World.ownsMap_made _ _ _ _, isMap_empty, fun _ _ _ => rfl⟩
theorem MapI.look (h : MapI P k e w b n F) (K : Keyed P k) (ht : P.underlying t = some (.map k e)) (he : P.underlying e = some (.int .i64)) (hz : (zeroValue e).run P w = .ok (.int .i64 0) w)
    {key : Value} (hk : ∃ kl, keyOf P k key = some kl) : (Instr.lookup t (.map (some b)) key false).run P w = .ok (.int .i64 (F key)) w := by
  obtain ⟨D, h1, _, h3⟩ := h
  obtain ⟨kl, hkl⟩ := hk
  obtain ⟨c, hrun, hat, _⟩ := h1.lookup_int K ht he hz hkl
  have := h3 key kl hkl
  rw [hat] at this
  injection this with this
  injection this with _ this
  rw [hrun, this]
theorem MapI.update (h : MapI P k e w b n F) (K : Keyed P k) (ht : P.underlying t = some (.map k e)) (he : P.underlying e = some (.int .i64)) (hn : n < maxLen) {key : Value} {v : Int} (hk : ∃ kl, keyOf P k key = some kl) (hv : (Lit.int .i64 v).wf = true)
    (h1 : F' key = v) (h2 : ∀ x, x ≠ key → F' x = F x) : ∃ w', (Instr.mapUpdate t (.map (some b)) key (.int .i64 v)).run P w = .ok () w' ∧ MapI P k e w' b (n + 1) F' ∧ w.grownBy w' (some b) := by
  obtain ⟨D, hD, hm, h3⟩ := h
  obtain ⟨kl, hkl⟩ := hk
  obtain ⟨w', hrun, ho, hg⟩ := hD.update K ht hn hkl (plainElem_int he hv)
  refine ⟨w', hrun, ⟨_, ho, ?_, fun x xl hx => ?_⟩, hg⟩
  · obtain ⟨es, rfl⟩ := hm
    exact ⟨_, DataW.put_eq ..⟩
  · by_cases e1 : x = key
    · subst e1
      rw [hkl] at hx
      injection hx with hx
      subst hx
      rw [atKey_put_same hm (K.key hkl), h1]
    · rw [h2 x e1, atKey_put_other (fun e2 => e1 (K.inj hx (by rw [e2]; exact hkl)))]
      exact h3 x xl hx
theorem wpList_mapi_store (w : World) {ops : Array Oper} {rest : List Oper} {o : Oper} {a : Act} {Q : Exit → Act → World → Prop}
    (hg : o.guard = none) (m x v : Operand) (t : TypeId) (hop : o.op = Op.mapUpdate t m x v) (k e : TypeId) (K : Keyed P k) (ht : P.underlying t = some (.map k e)) (he : P.underlying e = some (.int .i64)) (b n : Nat) (F F' : Value → Int)
    (hm : a.eval m = .map (some b)) (h : MapI P k e w b n F) (hn : n < maxLen) (key : Value) (c : Int) (hx : a.eval x = key) (hv : a.eval v = .int .i64 c) (hk : ∃ kl, keyOf P k key = some kl) (hc : (Lit.int .i64 c).wf = true)
    (h1 : F' key = c) (h2 : ∀ x, x ≠ key → F' x = F x)
    (hK : ∀ w', MapI P k e w' b (n + 1) F' → w.grownBy w' (some b) → wpList P ops Q rest (a.put o.dst undef) w') : wpList P ops Q (o :: rest) a w := by
  refine wpList_plain hg fun K' hK' => ?_
  obtain ⟨w', hrun, r1, r2⟩ := h.update K ht he hn hk hc h1 h2
  unfold Oper.wp
  simp [execOp, hop, hm, hx, hv, hrun, Result.andThen]
  exact hK' _ _ (hK w' r1 r2)
theorem wpList_mapi_look (w : World) {ops : Array Oper} {rest : List Oper} {o : Oper} {a : Act} {Q : Exit → Act → World → Prop}
    (hg : o.guard = none) (m x : Operand) (t : TypeId) (hop : o.op = Op.lookup t m x false) (k e : TypeId) (K : Keyed P k) (ht : P.underlying t = some (.map k e)) (he : P.underlying e = some (.int .i64)) (hz : (zeroValue e).run P w = .ok (.int .i64 0) w) (b n : Nat) (F : Value → Int)
    (hm : a.eval m = .map (some b)) (h : MapI P k e w b n F) (key : Value) (hx : a.eval x = key) (hk : ∃ kl, keyOf P k key = some kl)
    (hK : wpList P ops Q rest (a.put o.dst (.int .i64 (F key))) w) : wpList P ops Q (o :: rest) a w := by
  refine wpList_plain hg fun K' hK' => ?_
  have hrun := h.look K ht he hz hk
  unfold Oper.wp
  simp [execOp, hop, hm, hx, hrun, Result.andThen]
  exact hK' _ _ hK
end

/-- A function of two numbers, at a key of two. -/
def at2 (G : Int → Int → Int) : Value → Int
  | .agg ⟨[.int .i64 a, .int .i64 b]⟩ => G a b
  | _ => 0
theorem at2_key (G : Int → Int → Int) (a b : Int) : at2 G (.agg #[.int .i64 a, .int .i64 b]) = G a b := rfl
theorem at2_other {G G' : Int → Int → Int} {a b : Int} (h : ∀ x y, (x, y) ≠ (a, b) → G' x y = G x y) (v : Value) (hv : v ≠ .agg #[.int .i64 a, .int .i64 b]) : at2 G' v = at2 G v := by
  unfold at2
  split
  · rename_i x y
    exact h x y (fun e => hv (by injection e with e1 e2; rw [e1, e2]))
  · rfl
end Go.Proofs.Ytakjcodfcoaadab
