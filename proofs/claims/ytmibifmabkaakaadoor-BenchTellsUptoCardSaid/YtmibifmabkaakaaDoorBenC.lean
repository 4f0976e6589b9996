/- strings and strconv at lists of bytes: the shelf's contracts in plain words; what the library's tables must hold. No condition but the text's own size and the library's tables. -/
import Derived.Test.YtmibifmabkaakaaDoorBenM
namespace Go.Proofs.YtmibifmabkaakaaDoor
open Go.ChangeShapes Go.WideShapes Go.ChangeAt Go.RowKit
set_option linter.unusedVariables false

/-- A string of these bytes. -/
abbrev SV (l : Bs) : Value := .string ⟨l.toArray⟩
theorem sv_of (s : ByteArray) : Value.string s = SV s.data.toList := by
  show Value.string s = Value.string ⟨s.data.toList.toArray⟩
  rw [Array.toArray_toList]
/-- What the library's tables and variables must hold. -/
structure LibW (w : World) : Prop where
  pow : Lib.TabIs Tryd.prog w "internal/strconv.uint64pow10" .u64 Lib.pow10Tab
  syn : ∃ tp p, w.var? Tryd.prog "strconv.ErrSyntax" = some #[.iface tp p]
  rng : ∃ tp p, w.var? Tryd.prog "strconv.ErrRange" = some #[.iface tp p]
  len : ∃ m, w.cell? ⟨2, 0, none⟩ = some (.int .i64 m)
theorem var_below {P : Program} {w w' : World} {n : String} {g : Nat} {cs : Array Value} (hg : P.globalNamed n = some g) (h : w.var? P n = some cs) (hb : Below w.heap.size w w') : w'.var? P n = some cs := by
  unfold World.var? at h ⊢
  rw [hg] at h ⊢
  simp only [Option.bind_some] at h ⊢
  have hlt : g < w.heap.size := by
    rcases Nat.lt_or_ge g w.heap.size with h' | h'
    · exact h'
    · rw [Array.getElem?_eq_none h'] at h; cases h
  rw [hb.block g hlt]
  exact h
theorem LibW.below {w w' : World} (h : LibW w) (hb : Below w.heap.size w w') : LibW w' where
  pow := var_below (g := 1) (by kernel_rfl) h.pow hb
  syn := let ⟨tp, p, h⟩ := h.syn; ⟨tp, p, var_below (g := 3) (by kernel_rfl) h hb⟩
  rng := let ⟨tp, p, h⟩ := h.rng; ⟨tp, p, var_below (g := 4) (by kernel_rfl) h hb⟩
  len := let ⟨m, h⟩ := h.len; ⟨m, by
    have hlt : 2 < w.heap.size := World.block_lt_of_cell? _ _ h
    rw [hb.cell (p := ⟨2, 0, none⟩) hlt]; exact h⟩
theorem grow_below (w : World) (k : Nat) (os : Array Obj) : Below w.heap.size w (Sort.grow (w.drewN k) os) :=
  ⟨rfl, rfl, rfl, by simp [Sort.grow, World.drewN], fun i hi => by
    show (w.heap ++ os)[i]? = w.heap[i]?
    rw [Array.getElem?_append_left hi]⟩
theorem itoa_any (n : Int) (h0 : -9223372036854775808 ≤ n) (h1 : n ≤ 9223372036854775807) (w : World) (hL : LibW w) :
    Calls Tryd.prog 76 #[.int .i64 n] w fun e w' => e = .returned (SV (Lib.itoa n)) ∧ Below w.heap.size w w' :=
  (Any.strconv_Itoa laysItoa n h0 h1 w hL.pow).mono fun e w' ⟨he, k, os, hw⟩ => ⟨he, by rw [hw]; exact grow_below w k os⟩
theorem fmt_any (n : Int) (h0 : -9223372036854775808 ≤ n) (h1 : n ≤ 9223372036854775807) (w : World) (hL : LibW w) :
    Calls Tryd.prog 78 #[.int .i64 n, .int .i64 10] w fun e w' => e = .returned (SV (Lib.itoa n)) ∧ Below w.heap.size w w' :=
  (Any.strconv_FormatInt_10 laysFmt n h0 h1 w hL.pow).mono fun e w' ⟨he, k, os, hw⟩ => ⟨he, by rw [hw]; exact grow_below w k os⟩
theorem sv_list (s : Bs) : (⟨s.toArray⟩ : ByteArray).data.toList = s := rfl
theorem sv_size (s : Bs) : (⟨s.toArray⟩ : ByteArray).size = s.length := rfl
theorem atoi_ok (s : Bs) (hs : s.length ≤ 281474976710656) (v : Int) (h : Lib.atoiAll s = .ok v) (w : World) :
    Calls Tryd.prog 100 #[SV s] w fun e w' => e = .returned (.tuple #[.int .i64 v, .nilIface]) ∧ Below w.heap.size w w' :=
  (Any.strconv_Atoi_ok laysAtoi ⟨s.toArray⟩ (by rw [sv_size]; omega) v h w).mono fun e w' ⟨he, hw⟩ => ⟨he, by
    rcases hw with rfl | ⟨t, rfl⟩
    · exact Below.refl _ _
    · exact Lib.bytesWorld_below _ _ _⟩
theorem atoi_bad (s : Bs) (hs : s.length ≤ 281474976710656) (h : ∀ v, Lib.atoiAll s ≠ .ok v) (w : World) (hL : LibW w) :
    Calls Tryd.prog 100 #[SV s] w fun e w' => (∃ n t p, e = .returned (.tuple #[.int .i64 n, .iface t p])) ∧ Below w.heap.size w w' := by
  cases hc : Lib.atoiAll s
  · exact absurd hc (h _)
  · obtain ⟨tp, p, hv⟩ := hL.syn
    exact (Any.strconv_Atoi_syntax_var laysAtoi ⟨s.toArray⟩ hs hc tp p w hv).mono fun e w' ⟨N, he, _, _, hb⟩ => ⟨⟨_, _, _, he⟩, hb⟩
  · obtain ⟨tp, p, hv⟩ := hL.rng
    exact (Any.strconv_Atoi_range_var laysAtoi ⟨s.toArray⟩ hs hc tp p w hv).mono fun e w' ⟨N, he, _, _, hb⟩ => ⟨⟨_, _, _, he⟩, hb⟩
theorem cut_any (s sep : Bs) (hs : s.length < 4294967281) (w : World) (hL : LibW w) :
    Calls Tryd.prog 82 #[SV s, SV sep] w fun e w' => e = .returned (.tuple #[SV (Lib.cut s sep).1, SV (Lib.cut s sep).2.1, .bool (Lib.cut s sep).2.2]) ∧ ∃ n, w' = w.drewN n := by
  obtain ⟨m, hm⟩ := hL.len
  exact Any.strings_Cut laysCut ⟨s.toArray⟩ ⟨sep.toArray⟩ m w hs hm
theorem seg_block (w : World) (xs : List Value) (t : TypeId) : Seg (w.alloc (.cells xs.toArray t)) (w.alloc (.cells xs.toArray t)).heap.size (some ⟨w.heap.size, 0, none⟩) xs := fun _ => by
  refine ⟨_, rfl, by simp, fun k v hk => ?_⟩
  have e : (⟨w.heap.size, 0, none⟩ : Addr).add k = ⟨w.heap.size, k, none⟩ := by unfold Addr.add; split <;> simp [*]
  rw [e]
  unfold World.cell?
  rw [heap_alloc_new w _]
  simpa using hk
theorem split_any (s : Bs) (c : UInt8) (hs : s.length < 4294967281) (w : World) (hL : LibW w) :
    Calls Tryd.prog 99 #[SV s, SV [c]] w fun e w' => ∃ A, e = .returned (.slice A (Lib.split s [c]).length (Lib.split s [c]).length) ∧ Seg w' w'.heap.size A ((Lib.split s [c]).map SV) ∧ Below w.heap.size w w' := by
  obtain ⟨m, hm⟩ := hL.len
  refine (Any.strings_Split laysSplit (by kernel_rfl) ⟨s.toArray⟩ ⟨[c].toArray⟩ m w hs hm (Nat.le_refl 1)).mono fun e w' ⟨he, hw⟩ => ?_
  have e1 : (Lib.splitB ⟨[c].toArray⟩ 0 (Lib.countB ⟨s.toArray⟩ ⟨[c].toArray⟩) ⟨s.toArray⟩).map (fun b => b.data.toList) = Lib.split s [c] := Lib.splitB_data ⟨[c].toArray⟩ 0 _ ⟨s.toArray⟩
  have e2 : (Lib.splitB ⟨[c].toArray⟩ 0 (Lib.countB ⟨s.toArray⟩ ⟨[c].toArray⟩) ⟨s.toArray⟩).map Value.string = (Lib.split s [c]).map SV := by
    rw [← e1, List.map_map]
    exact List.map_congr_left fun b _ => sv_of b
  have e3 : Lib.countB ⟨s.toArray⟩ ⟨[c].toArray⟩ + 1 = (Lib.split s [c]).length := by
    rw [← e1, List.length_map, Lib.splitB_all ⟨[c].toArray⟩ (Nat.le_refl 1) 0 _ _ rfl]
  rw [e3] at he
  rw [e2] at hw
  subst hw
  exact ⟨_, he, seg_block w _ _, (Below.refl _ _).alloc (Nat.le_refl _) _⟩
theorem strcell_one (l : List Bs) : ∀ u ∈ l.map SV, u.oneCell' = true := by
  intro u hu
  obtain ⟨b, _, rfl⟩ := List.mem_map.1 hu
  rfl
/-! ### what the walk does to strings -/
theorem sv_append (a b : Bs) : (⟨a.toArray⟩ : ByteArray) ++ ⟨b.toArray⟩ = ⟨(a ++ b).toArray⟩ := by
  apply ByteArray.ext
  rw [ByteArray.data_append]
  simp
theorem sv_ext (s : Bs) (i j : Nat) : (⟨s.toArray⟩ : ByteArray).extract i j = ⟨((s.drop i).take (j - i)).toArray⟩ := by
  apply ByteArray.ext
  rw [ByteArray.data_extract]
  simp
theorem sv_inj {a b : Bs} : ((⟨a.toArray⟩ : ByteArray) = ⟨b.toArray⟩) ↔ a = b := ⟨fun h => by
  have := congrArg (fun s : ByteArray => s.data.toList) h
  simpa using this, fun h => by rw [h]⟩
end Go.Proofs.YtmibifmabkaakaaDoor
