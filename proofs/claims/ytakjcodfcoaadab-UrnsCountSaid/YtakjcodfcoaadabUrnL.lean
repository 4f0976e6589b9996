/- The law UrnsCount walked. No condition. -/
import Derived.Test.YtakjcodfcoaadabUrnP
namespace Go.Proofs.Ytakjcodfcoaadab
open Go.ChangeShapes Go.WideShapes Go.ChangeAt Go.RowKit
set_option linter.unusedVariables false

theorem two_new (w : World) (u v : Value) (t1 t2 : TypeId) : Blk ((w.alloc (.cells #[u] t1)).alloc (.cells #[v] t2)) w.heap.size t1 #[u] ∧ Blk ((w.alloc (.cells #[u] t1)).alloc (.cells #[v] t2)) (w.heap.size + 1) t2 #[v] := by
  refine ⟨(Blk.new w t1 #[u]).alloc _, ?_⟩
  have := Blk.new (w.alloc (.cells #[u] t1)) t2 #[v]
  rwa [show (w.alloc (.cells #[u] t1)).heap.size = w.heap.size + 1 by simp] at this
theorem two_below (w : World) (o p : Obj) : Below w.heap.size w ((w.alloc o).alloc p) := ((Below.refl w.heap.size w).alloc (Nat.le_refl _) o).alloc (by simp) p

theorem told1 (x e : Int) (bad : Bool) (a b : Nat) (w : World) (h1 : bad = true → x = 0 ∧ e = 2)
    (h2 : bad = false → e = 0 ∧ Calls Try.prog 31 #[.pointer (some ⟨a, 0, none⟩), .pointer (some ⟨b, 0, none⟩)] w (fun r w' => r = .returned (.int .i64 x) ∧ Below w.heap.size w w')) :
    Calls Try.prog 30 #[.int .i64 x, .int .i64 e, .bool bad, .func (.func 31) #[] #[.pointer (some ⟨a, 0, none⟩), .pointer (some ⟨b, 0, none⟩)]] w fun r w' => r = .returned (.bool true) ∧ Below w.heap.size w w' := by
  cases bad with
  | true =>
    obtain ⟨rfl, rfl⟩ := h1 rfl
    clear h1 h2
    go_enter Try.func30, Try.ntmps30
    go_wp2
    go_ret
    exact ⟨rfl, Below.refl _ _⟩
  | false =>
    obtain ⟨rfl, hc⟩ := h2 rfl
    have HC := Lib.hid hc
    clear h1 h2 hc
    go_enter Try.func30, Try.ntmps30
    go_wp2_with fail
    refine HC.out.mono ?_
    rintro e w1 ⟨rfl, hb⟩
    have HB := Lib.hid hb
    clear hb
    go_wp2
    go_ret
    exact ⟨rfl, HB.out⟩
theorem told2 (x e : Int) (bad : Bool) (a b : Nat) (w : World) (h1 : bad = true → x = 0 ∧ e = 2)
    (h2 : bad = false → e = 0 ∧ Calls Try.prog 33 #[.pointer (some ⟨b, 0, none⟩), .pointer (some ⟨a, 0, none⟩)] w (fun r w' => r = .returned (.int .i64 x) ∧ Below w.heap.size w w')) :
    Calls Try.prog 30 #[.int .i64 x, .int .i64 e, .bool bad, .func (.func 33) #[] #[.pointer (some ⟨b, 0, none⟩), .pointer (some ⟨a, 0, none⟩)]] w fun r w' => r = .returned (.bool true) ∧ Below w.heap.size w w' := by
  cases bad with
  | true =>
    obtain ⟨rfl, rfl⟩ := h1 rfl
    clear h1 h2
    go_enter Try.func30, Try.ntmps30
    go_wp2
    go_ret
    exact ⟨rfl, Below.refl _ _⟩
  | false =>
    obtain ⟨rfl, hc⟩ := h2 rfl
    have HC := Lib.hid hc
    clear h1 h2 hc
    go_enter Try.func30, Try.ntmps30
    go_wp2_with fail
    refine HC.out.mono ?_
    rintro e w1 ⟨rfl, hb⟩
    have HB := Lib.hid hb
    clear hb
    go_wp2
    go_ret
    exact ⟨rfl, HB.out⟩
theorem told3 (x e : Int) (bad : Bool) (a : Nat) (w : World) (h1 : bad = true → x = 0 ∧ e = 2)
    (h2 : bad = false → e = 0 ∧ Calls Try.prog 35 #[.pointer (some ⟨a, 0, none⟩)] w (fun r w' => r = .returned (.int .i64 x) ∧ Below w.heap.size w w')) :
    Calls Try.prog 30 #[.int .i64 x, .int .i64 e, .bool bad, .func (.func 35) #[] #[.pointer (some ⟨a, 0, none⟩)]] w fun r w' => r = .returned (.bool true) ∧ Below w.heap.size w w' := by
  cases bad with
  | true =>
    obtain ⟨rfl, rfl⟩ := h1 rfl
    clear h1 h2
    go_enter Try.func30, Try.ntmps30
    go_wp2
    go_ret
    exact ⟨rfl, Below.refl _ _⟩
  | false =>
    obtain ⟨rfl, hc⟩ := h2 rfl
    have HC := Lib.hid hc
    clear h1 h2 hc
    go_enter Try.func30, Try.ntmps30
    go_wp2_with fail
    refine HC.out.mono ?_
    rintro e w1 ⟨rfl, hb⟩
    have HB := Lib.hid hb
    clear hb
    go_wp2
    go_ret
    exact ⟨rfl, HB.out⟩
theorem told4 (x e : Int) (bad : Bool) (a : Nat) (w : World) (h1 : bad = true → x = 0 ∧ e = 2)
    (h2 : bad = false → e = 0 ∧ Calls Try.prog 37 #[.pointer (some ⟨a, 0, none⟩)] w (fun r w' => r = .returned (.int .i64 x) ∧ Below w.heap.size w w')) :
    Calls Try.prog 30 #[.int .i64 x, .int .i64 e, .bool bad, .func (.func 37) #[] #[.pointer (some ⟨a, 0, none⟩)]] w fun r w' => r = .returned (.bool true) ∧ Below w.heap.size w w' := by
  cases bad with
  | true =>
    obtain ⟨rfl, rfl⟩ := h1 rfl
    clear h1 h2
    go_enter Try.func30, Try.ntmps30
    go_wp2
    go_ret
    exact ⟨rfl, Below.refl _ _⟩
  | false =>
    obtain ⟨rfl, hc⟩ := h2 rfl
    have HC := Lib.hid hc
    clear h1 h2 hc
    go_enter Try.func30, Try.ntmps30
    go_wp2_with fail
    refine HC.out.mono ?_
    rintro e w1 ⟨rfl, hb⟩
    have HB := Lib.hid hb
    clear hb
    go_wp2
    go_ret
    exact ⟨rfl, HB.out⟩
section
variable (a b : Nat) (n k : Int) (w : World)
theorem want1 (hn0 : 0 ≤ n) (hn : n ≤ 20) (hk0 : 0 ≤ k) (hk : k ≤ 20) (ha : Blk w a 3 #[.int .i64 n]) (hb : Blk w b 3 #[.int .i64 k]) :
    Calls Try.prog 31 #[.pointer (some ⟨a, 0, none⟩), .pointer (some ⟨b, 0, none⟩)] w fun r w' => r = .returned (.int .i64 (stir n.toNat k.toNat : Nat)) ∧ Below w.heap.size w w' := by
  obtain ⟨N, rfl⟩ : ∃ N : Nat, n = N := ⟨n.toNat, by omega⟩
  have c0 := ha.cell 0 (u := .int .i64 N) rfl
  have c1 := hb.cell 0 (u := .int .i64 k) rfl
  have HE : Hid (vat N k = stir (N : Int).toNat k.toNat) := by unfold Hid vat; rw [if_neg (by omega)]; rfl
  clear ha hb
  go_enter Try.func31, Try.ntmps31
  go_wp2_with fail
  refine (vparts_any N k _ (by omega) (by omega) (by omega)).mono ?_
  rintro e w1 ⟨rfl, hb⟩
  rw [HE.out]
  have HB := Lib.hid hb
  clear hb
  go_wp2
  go_ret
  exact ⟨rfl, HB.out⟩
theorem want2 (hn0 : 0 ≤ n) (hn : n ≤ 14) (hk0 : 0 ≤ k) (ha : Blk w a 3 #[.int .i64 n]) (hb : Blk w b 3 #[.int .i64 k]) :
    Calls Try.prog 33 #[.pointer (some ⟨b, 0, none⟩), .pointer (some ⟨a, 0, none⟩)] w fun r w' => r = .returned (.int .i64 (onto n.toNat k.toNat : Nat)) ∧ Below w.heap.size w w' := by
  obtain ⟨N, rfl⟩ : ∃ N : Nat, n = N := ⟨n.toNat, by omega⟩
  obtain ⟨K, rfl⟩ : ∃ K : Nat, k = K := ⟨k.toNat, by omega⟩
  have c0 := ha.cell 0 (u := .int .i64 N) rfl
  have c1 := hb.cell 0 (u := .int .i64 K) rfl
  clear ha hb
  by_cases h : K ≤ N
  · go_enter Try.func33, Try.ntmps33
    go_wp2_with fail
    refine (vonto_any N K _ (by omega) h).mono ?_
    rintro e w1 ⟨rfl, hb⟩
    have HB := Lib.hid hb
    clear hb
    go_wp2
    go_ret
    exact ⟨rfl, HB.out⟩
  · have hf : Hid (onto N K = 0) := by unfold Hid onto; rw [stir_gt (by omega)]; simp
    go_enter Try.func33, Try.ntmps33
    go_wp2
    go_ret
    exact ⟨ret_i64 (by rw [show (N : Int).toNat = N from rfl, show (K : Int).toNat = K from rfl, hf.out]; rfl), Below.refl _ _⟩
theorem want3 (hn0 : 0 ≤ n) (hn : n ≤ 20) (ha : Blk w a 3 #[.int .i64 n]) :
    Calls Try.prog 35 #[.pointer (some ⟨a, 0, none⟩)] w fun r w' => r = .returned (.int .i64 (bell n.toNat : Nat)) ∧ Below w.heap.size w w' := by
  obtain ⟨N, rfl⟩ : ∃ N : Nat, n = N := ⟨n.toNat, by omega⟩
  have c0 := ha.cell 0 (u := .int .i64 N) rfl
  clear ha
  go_enter Try.func35, Try.ntmps35
  go_wp2_with fail
  refine (vbell_any N _ (by omega)).mono ?_
  rintro e w1 ⟨rfl, hb⟩
  have HB := Lib.hid hb
  clear hb
  go_wp2
  go_ret
  exact ⟨rfl, HB.out⟩
theorem want4 (hn0 : 0 ≤ n) (hn : n ≤ 20) (ha : Blk w a 3 #[.int .i64 n]) :
    Calls Try.prog 37 #[.pointer (some ⟨a, 0, none⟩)] w fun r w' => r = .returned (.int .i64 (drg n.toNat : Nat)) ∧ Below w.heap.size w w' := by
  obtain ⟨N, rfl⟩ : ∃ N : Nat, n = N := ⟨n.toNat, by omega⟩
  have c0 := ha.cell 0 (u := .int .i64 N) rfl
  have hf : Hid (vdrg N = (drg N : Nat)) := vdrg_eq0 ⟨N, by omega⟩
  clear ha
  go_enter Try.func37, Try.ntmps37
  go_wp2_with fail
  refine (vwrongly_any N _ (by omega)).mono ?_
  rintro e w1 ⟨rfl, rfl⟩
  go_wp2
  go_ret
  exact ⟨ret_i64 hf.out, Below.refl _ _⟩
end

set_option maxRecDepth 20000 in
set_option maxHeartbeats 2000000 in
theorem UrnsCount_a (n k : Int) (w : World) (hn1 : -9223372036854775808 ≤ n) (hn2 : n ≤ 9223372036854775807) (hk1 : -9223372036854775808 ≤ k) (hk2 : k ≤ 9223372036854775807) (g0 : n < 0) :
    Calls Try.prog 6 #[.int .i64 n, .int .i64 k] w fun e w' => e = .returned (.bool true) ∧ Below w.heap.size w w' := by
  have hmf : ∀ (fn : Fn) (first cap : Array Value) (w : World), (Instr.makeFunc fn first cap).run Try.prog w = .ok (.func fn first cap) w := fun _ _ _ _ => rfl
  have HP : Hid (uparts n k = (0, 2)) := by unfold Hid uparts uwrong; rw [decide_eq_true (by omega)]; rfl
  have HO : Hid (uonto n k = (0, 2)) := by unfold Hid uonto uwrong; rw [if_pos (by rw [decide_eq_true_iff]; omega)]
  have HL : Hid (uone n bell = (0, 2)) := by unfold Hid uone; rw [if_pos (by omega)]
  have HD : Hid (uone n drg = (0, 2)) := by unfold Hid uone; rw [if_pos (by omega)]
  have d0 : decide (n < 0) = true := decide_eq_true (by omega)
  have G : Hid (n < 0) := g0
  clear g0
  go_enter Try.func6, Try.ntmps6
  go_wp2_with fail
  refine (parts_any n k _).mono ?_
  rintro e w1 ⟨rfl, hb1⟩
  rw [HP.out]
  obtain ⟨b0, b1⟩ := two_new w (.int .i64 n) (.int .i64 k) 3 3
  have B0 := Lib.hid (b0.below hb1 b0.lt)
  have B1 := Lib.hid (b1.below hb1 b1.lt)
  have HB := Lib.hid ((two_below w (.cells #[.int .i64 n] 3) (.cells #[.int .i64 k] 3)).trans (hb1.mono (two_below _ _ _).size))
  clear hb1 b0 b1
  have c0 := B0.out.cell 0 (u := .int .i64 n) rfl
  have c1 := B1.out.cell 0 (u := .int .i64 k) rfl
  go_wp2_with fail
  refine (onto_any n k _).mono ?_
  rintro e w2 ⟨rfl, hb1⟩
  rw [HO.out]
  clear c0 c1
  have B0 := Lib.hid (B0.out.below hb1 B0.out.lt)
  have B1 := Lib.hid (B1.out.below hb1 B1.out.lt)
  have HB := Lib.hid (HB.out.trans (hb1.mono HB.out.size))
  clear hb1
  have c0 := B0.out.cell 0 (u := .int .i64 n) rfl
  have c1 := B1.out.cell 0 (u := .int .i64 k) rfl
  go_wp2_with fail
  refine (bell_any n _).mono ?_
  rintro e w3 ⟨rfl, hb1⟩
  rw [HL.out]
  clear c0 c1
  have B0 := Lib.hid (B0.out.below hb1 B0.out.lt)
  have B1 := Lib.hid (B1.out.below hb1 B1.out.lt)
  have HB := Lib.hid (HB.out.trans (hb1.mono HB.out.size))
  clear hb1
  have c0 := B0.out.cell 0 (u := .int .i64 n) rfl
  have c1 := B1.out.cell 0 (u := .int .i64 k) rfl
  go_wp2_with fail
  refine (wrongly_any n _).mono ?_
  rintro e w4 ⟨rfl, rfl⟩
  rw [HD.out]
  go_wp2_with fail
  clear c0 c1
  refine (told1 _ _ _ _ _ _ (fun _ => ⟨rfl, rfl⟩) (fun h => absurd h (by simp))).mono ?_
  rintro e w1 ⟨rfl, hb1⟩
  have B0 := Lib.hid (B0.out.below hb1 B0.out.lt)
  have B1 := Lib.hid (B1.out.below hb1 B1.out.lt)
  have HB := Lib.hid (HB.out.trans (hb1.mono HB.out.size))
  clear hb1
  have c0 := B0.out.cell 0 (u := .int .i64 n) rfl
  go_wp2_with fail
  clear c0
  refine (told2 _ _ _ _ _ _ (fun _ => ⟨rfl, rfl⟩) (fun h => absurd h (by simp))).mono ?_
  rintro e w1 ⟨rfl, hb1⟩
  have B0 := Lib.hid (B0.out.below hb1 B0.out.lt)
  have B1 := Lib.hid (B1.out.below hb1 B1.out.lt)
  have HB := Lib.hid (HB.out.trans (hb1.mono HB.out.size))
  clear hb1
  go_wp2_with fail
  refine (told3 _ _ _ _ _ (fun _ => ⟨rfl, rfl⟩) (fun h => absurd h (by simp))).mono ?_
  rintro e w1 ⟨rfl, hb1⟩
  have B0 := Lib.hid (B0.out.below hb1 B0.out.lt)
  have B1 := Lib.hid (B1.out.below hb1 B1.out.lt)
  have HB := Lib.hid (HB.out.trans (hb1.mono HB.out.size))
  clear hb1
  go_wp2_with fail
  refine (told4 _ _ _ _ _ (fun _ => ⟨rfl, rfl⟩) (fun h => absurd h (by simp))).mono ?_
  rintro e w1 ⟨rfl, hb1⟩
  have B0 := Lib.hid (B0.out.below hb1 B0.out.lt)
  have B1 := Lib.hid (B1.out.below hb1 B1.out.lt)
  have HB := Lib.hid (HB.out.trans (hb1.mono HB.out.size))
  clear hb1
  go_wp2_with fail
  go_ret
  exact ⟨rfl, HB.out⟩
set_option maxRecDepth 20000 in
set_option maxHeartbeats 2000000 in
theorem UrnsCount_b (n k : Int) (w : World) (hn1 : -9223372036854775808 ≤ n) (hn2 : n ≤ 9223372036854775807) (hk1 : -9223372036854775808 ≤ k) (hk2 : k ≤ 9223372036854775807) (g0 : 0 ≤ n) (g1 : 20 < n) :
    Calls Try.prog 6 #[.int .i64 n, .int .i64 k] w fun e w' => e = .returned (.bool true) ∧ Below w.heap.size w w' := by
  have hmf : ∀ (fn : Fn) (first cap : Array Value) (w : World), (Instr.makeFunc fn first cap).run Try.prog w = .ok (.func fn first cap) w := fun _ _ _ _ => rfl
  have HP : Hid (uparts n k = (0, 2)) := by unfold Hid uparts uwrong; rw [decide_eq_true (by omega)]; rfl
  have HO : Hid (uonto n k = (0, 2)) := by unfold Hid uonto uwrong; rw [if_pos (by rw [decide_eq_true_iff]; omega)]
  have HL : Hid (uone n bell = (0, 2)) := by unfold Hid uone; rw [if_pos (by omega)]
  have HD : Hid (uone n drg = (0, 2)) := by unfold Hid uone; rw [if_pos (by omega)]
  have d0 : decide (n < 0) = false := decide_eq_false (by omega)
  have d1 : decide (20 < n) = true := decide_eq_true (by omega)
  have G : Hid (0 ≤ n ∧ 20 < n) := ⟨g0, g1⟩
  clear g0 g1
  go_enter Try.func6, Try.ntmps6
  go_wp2_with fail
  refine (parts_any n k _).mono ?_
  rintro e w1 ⟨rfl, hb1⟩
  rw [HP.out]
  obtain ⟨b0, b1⟩ := two_new w (.int .i64 n) (.int .i64 k) 3 3
  have B0 := Lib.hid (b0.below hb1 b0.lt)
  have B1 := Lib.hid (b1.below hb1 b1.lt)
  have HB := Lib.hid ((two_below w (.cells #[.int .i64 n] 3) (.cells #[.int .i64 k] 3)).trans (hb1.mono (two_below _ _ _).size))
  clear hb1 b0 b1
  have c0 := B0.out.cell 0 (u := .int .i64 n) rfl
  have c1 := B1.out.cell 0 (u := .int .i64 k) rfl
  go_wp2_with fail
  refine (onto_any n k _).mono ?_
  rintro e w2 ⟨rfl, hb1⟩
  rw [HO.out]
  clear c0 c1
  have B0 := Lib.hid (B0.out.below hb1 B0.out.lt)
  have B1 := Lib.hid (B1.out.below hb1 B1.out.lt)
  have HB := Lib.hid (HB.out.trans (hb1.mono HB.out.size))
  clear hb1
  have c0 := B0.out.cell 0 (u := .int .i64 n) rfl
  have c1 := B1.out.cell 0 (u := .int .i64 k) rfl
  go_wp2_with fail
  refine (bell_any n _).mono ?_
  rintro e w3 ⟨rfl, hb1⟩
  rw [HL.out]
  clear c0 c1
  have B0 := Lib.hid (B0.out.below hb1 B0.out.lt)
  have B1 := Lib.hid (B1.out.below hb1 B1.out.lt)
  have HB := Lib.hid (HB.out.trans (hb1.mono HB.out.size))
  clear hb1
  have c0 := B0.out.cell 0 (u := .int .i64 n) rfl
  have c1 := B1.out.cell 0 (u := .int .i64 k) rfl
  go_wp2_with fail
  refine (wrongly_any n _).mono ?_
  rintro e w4 ⟨rfl, rfl⟩
  rw [HD.out]
  go_wp2_with fail
  clear c0 c1
  refine (told1 _ _ _ _ _ _ (fun _ => ⟨rfl, rfl⟩) (fun h => absurd h (by simp))).mono ?_
  rintro e w1 ⟨rfl, hb1⟩
  have B0 := Lib.hid (B0.out.below hb1 B0.out.lt)
  have B1 := Lib.hid (B1.out.below hb1 B1.out.lt)
  have HB := Lib.hid (HB.out.trans (hb1.mono HB.out.size))
  clear hb1
  have c0 := B0.out.cell 0 (u := .int .i64 n) rfl
  go_wp2_with fail
  clear c0
  refine (told2 _ _ _ _ _ _ (fun _ => ⟨rfl, rfl⟩) (fun h => absurd h (by simp))).mono ?_
  rintro e w1 ⟨rfl, hb1⟩
  have B0 := Lib.hid (B0.out.below hb1 B0.out.lt)
  have B1 := Lib.hid (B1.out.below hb1 B1.out.lt)
  have HB := Lib.hid (HB.out.trans (hb1.mono HB.out.size))
  clear hb1
  go_wp2_with fail
  refine (told3 _ _ _ _ _ (fun _ => ⟨rfl, rfl⟩) (fun h => absurd h (by simp))).mono ?_
  rintro e w1 ⟨rfl, hb1⟩
  have B0 := Lib.hid (B0.out.below hb1 B0.out.lt)
  have B1 := Lib.hid (B1.out.below hb1 B1.out.lt)
  have HB := Lib.hid (HB.out.trans (hb1.mono HB.out.size))
  clear hb1
  go_wp2_with fail
  refine (told4 _ _ _ _ _ (fun _ => ⟨rfl, rfl⟩) (fun h => absurd h (by simp))).mono ?_
  rintro e w1 ⟨rfl, hb1⟩
  have B0 := Lib.hid (B0.out.below hb1 B0.out.lt)
  have B1 := Lib.hid (B1.out.below hb1 B1.out.lt)
  have HB := Lib.hid (HB.out.trans (hb1.mono HB.out.size))
  clear hb1
  go_wp2_with fail
  go_ret
  exact ⟨rfl, HB.out⟩
set_option maxRecDepth 20000 in
set_option maxHeartbeats 2000000 in
theorem UrnsCount_c (n k : Int) (w : World) (hn1 : -9223372036854775808 ≤ n) (hn2 : n ≤ 9223372036854775807) (hk1 : -9223372036854775808 ≤ k) (hk2 : k ≤ 9223372036854775807) (g0 : 0 ≤ n) (g1 : n ≤ 20) (g2 : k < 0) :
    Calls Try.prog 6 #[.int .i64 n, .int .i64 k] w fun e w' => e = .returned (.bool true) ∧ Below w.heap.size w w' := by
  have hmf : ∀ (fn : Fn) (first cap : Array Value) (w : World), (Instr.makeFunc fn first cap).run Try.prog w = .ok (.func fn first cap) w := fun _ _ _ _ => rfl
  have HP : Hid (uparts n k = (0, 2)) := by unfold Hid uparts uwrong; rw [decide_eq_true (by omega)]; rfl
  have HO : Hid (uonto n k = (0, 2)) := by unfold Hid uonto uwrong; rw [if_pos (by rw [decide_eq_true_iff]; omega)]
  have HL : Hid (uone n bell = (((bell n.toNat : Nat) : Int), 0)) := by unfold Hid uone; rw [if_neg (by omega)]
  have HD : Hid (uone n drg = (((drg n.toNat : Nat) : Int), 0)) := by unfold Hid uone; rw [if_neg (by omega)]
  have d0 : decide (n < 0) = false := decide_eq_false (by omega)
  have d1 : decide (20 < n) = false := decide_eq_false (by omega)
  have d2 : decide (k < 0) = true := decide_eq_true (by omega)
  have G : Hid (0 ≤ n ∧ n ≤ 20 ∧ k < 0) := ⟨g0, g1, g2⟩
  clear g0 g1 g2
  go_enter Try.func6, Try.ntmps6
  go_wp2_with fail
  refine (parts_any n k _).mono ?_
  rintro e w1 ⟨rfl, hb1⟩
  rw [HP.out]
  obtain ⟨b0, b1⟩ := two_new w (.int .i64 n) (.int .i64 k) 3 3
  have B0 := Lib.hid (b0.below hb1 b0.lt)
  have B1 := Lib.hid (b1.below hb1 b1.lt)
  have HB := Lib.hid ((two_below w (.cells #[.int .i64 n] 3) (.cells #[.int .i64 k] 3)).trans (hb1.mono (two_below _ _ _).size))
  clear hb1 b0 b1
  have c0 := B0.out.cell 0 (u := .int .i64 n) rfl
  have c1 := B1.out.cell 0 (u := .int .i64 k) rfl
  go_wp2_with fail
  refine (onto_any n k _).mono ?_
  rintro e w2 ⟨rfl, hb1⟩
  rw [HO.out]
  clear c0 c1
  have B0 := Lib.hid (B0.out.below hb1 B0.out.lt)
  have B1 := Lib.hid (B1.out.below hb1 B1.out.lt)
  have HB := Lib.hid (HB.out.trans (hb1.mono HB.out.size))
  clear hb1
  have c0 := B0.out.cell 0 (u := .int .i64 n) rfl
  have c1 := B1.out.cell 0 (u := .int .i64 k) rfl
  go_wp2_with fail
  refine (bell_any n _).mono ?_
  rintro e w3 ⟨rfl, hb1⟩
  rw [HL.out]
  clear c0 c1
  have B0 := Lib.hid (B0.out.below hb1 B0.out.lt)
  have B1 := Lib.hid (B1.out.below hb1 B1.out.lt)
  have HB := Lib.hid (HB.out.trans (hb1.mono HB.out.size))
  clear hb1
  have c0 := B0.out.cell 0 (u := .int .i64 n) rfl
  have c1 := B1.out.cell 0 (u := .int .i64 k) rfl
  go_wp2_with fail
  refine (wrongly_any n _).mono ?_
  rintro e w4 ⟨rfl, rfl⟩
  rw [HD.out]
  go_wp2_with fail
  clear c0 c1
  refine (told1 _ _ _ _ _ _ (fun _ => ⟨rfl, rfl⟩) (fun h => absurd h (by simp))).mono ?_
  rintro e w1 ⟨rfl, hb1⟩
  have B0 := Lib.hid (B0.out.below hb1 B0.out.lt)
  have B1 := Lib.hid (B1.out.below hb1 B1.out.lt)
  have HB := Lib.hid (HB.out.trans (hb1.mono HB.out.size))
  clear hb1
  have c0 := B0.out.cell 0 (u := .int .i64 n) rfl
  go_wp2_with fail
  clear c0
  refine (told2 _ _ _ _ _ _ (fun _ => ⟨rfl, rfl⟩) (fun h => absurd h (by simp))).mono ?_
  rintro e w1 ⟨rfl, hb1⟩
  have B0 := Lib.hid (B0.out.below hb1 B0.out.lt)
  have B1 := Lib.hid (B1.out.below hb1 B1.out.lt)
  have HB := Lib.hid (HB.out.trans (hb1.mono HB.out.size))
  clear hb1
  go_wp2_with fail
  refine (told3 _ _ _ _ _ (fun h => absurd h (by simp)) (fun _ => ⟨rfl, want3 _ n _ (by have := G.out; omega) (by have := G.out; omega) B0.out⟩)).mono ?_
  rintro e w1 ⟨rfl, hb1⟩
  have B0 := Lib.hid (B0.out.below hb1 B0.out.lt)
  have B1 := Lib.hid (B1.out.below hb1 B1.out.lt)
  have HB := Lib.hid (HB.out.trans (hb1.mono HB.out.size))
  clear hb1
  go_wp2_with fail
  refine (told4 _ _ _ _ _ (fun h => absurd h (by simp)) (fun _ => ⟨rfl, want4 _ n _ (by have := G.out; omega) (by have := G.out; omega) B0.out⟩)).mono ?_
  rintro e w1 ⟨rfl, hb1⟩
  have B0 := Lib.hid (B0.out.below hb1 B0.out.lt)
  have B1 := Lib.hid (B1.out.below hb1 B1.out.lt)
  have HB := Lib.hid (HB.out.trans (hb1.mono HB.out.size))
  clear hb1
  go_wp2_with fail
  go_ret
  exact ⟨rfl, HB.out⟩
set_option maxRecDepth 20000 in
set_option maxHeartbeats 2000000 in
theorem UrnsCount_d (n k : Int) (w : World) (hn1 : -9223372036854775808 ≤ n) (hn2 : n ≤ 9223372036854775807) (hk1 : -9223372036854775808 ≤ k) (hk2 : k ≤ 9223372036854775807) (g0 : 0 ≤ n) (g1 : n ≤ 20) (g2 : 0 ≤ k) (g3 : 20 < k) :
    Calls Try.prog 6 #[.int .i64 n, .int .i64 k] w fun e w' => e = .returned (.bool true) ∧ Below w.heap.size w w' := by
  have hmf : ∀ (fn : Fn) (first cap : Array Value) (w : World), (Instr.makeFunc fn first cap).run Try.prog w = .ok (.func fn first cap) w := fun _ _ _ _ => rfl
  have HP : Hid (uparts n k = (0, 2)) := by unfold Hid uparts uwrong; rw [decide_eq_true (by omega)]; rfl
  have HO : Hid (uonto n k = (0, 2)) := by unfold Hid uonto uwrong; rw [if_pos (by rw [decide_eq_true_iff]; omega)]
  have HL : Hid (uone n bell = (((bell n.toNat : Nat) : Int), 0)) := by unfold Hid uone; rw [if_neg (by omega)]
  have HD : Hid (uone n drg = (((drg n.toNat : Nat) : Int), 0)) := by unfold Hid uone; rw [if_neg (by omega)]
  have d0 : decide (n < 0) = false := decide_eq_false (by omega)
  have d1 : decide (20 < n) = false := decide_eq_false (by omega)
  have d2 : decide (k < 0) = false := decide_eq_false (by omega)
  have d3 : decide (20 < k) = true := decide_eq_true (by omega)
  have G : Hid (0 ≤ n ∧ n ≤ 20 ∧ 0 ≤ k ∧ 20 < k) := ⟨g0, g1, g2, g3⟩
  clear g0 g1 g2 g3
  go_enter Try.func6, Try.ntmps6
  go_wp2_with fail
  refine (parts_any n k _).mono ?_
  rintro e w1 ⟨rfl, hb1⟩
  rw [HP.out]
  obtain ⟨b0, b1⟩ := two_new w (.int .i64 n) (.int .i64 k) 3 3
  have B0 := Lib.hid (b0.below hb1 b0.lt)
  have B1 := Lib.hid (b1.below hb1 b1.lt)
  have HB := Lib.hid ((two_below w (.cells #[.int .i64 n] 3) (.cells #[.int .i64 k] 3)).trans (hb1.mono (two_below _ _ _).size))
  clear hb1 b0 b1
  have c0 := B0.out.cell 0 (u := .int .i64 n) rfl
  have c1 := B1.out.cell 0 (u := .int .i64 k) rfl
  go_wp2_with fail
  refine (onto_any n k _).mono ?_
  rintro e w2 ⟨rfl, hb1⟩
  rw [HO.out]
  clear c0 c1
  have B0 := Lib.hid (B0.out.below hb1 B0.out.lt)
  have B1 := Lib.hid (B1.out.below hb1 B1.out.lt)
  have HB := Lib.hid (HB.out.trans (hb1.mono HB.out.size))
  clear hb1
  have c0 := B0.out.cell 0 (u := .int .i64 n) rfl
  have c1 := B1.out.cell 0 (u := .int .i64 k) rfl
  go_wp2_with fail
  refine (bell_any n _).mono ?_
  rintro e w3 ⟨rfl, hb1⟩
  rw [HL.out]
  clear c0 c1
  have B0 := Lib.hid (B0.out.below hb1 B0.out.lt)
  have B1 := Lib.hid (B1.out.below hb1 B1.out.lt)
  have HB := Lib.hid (HB.out.trans (hb1.mono HB.out.size))
  clear hb1
  have c0 := B0.out.cell 0 (u := .int .i64 n) rfl
  have c1 := B1.out.cell 0 (u := .int .i64 k) rfl
  go_wp2_with fail
  refine (wrongly_any n _).mono ?_
  rintro e w4 ⟨rfl, rfl⟩
  rw [HD.out]
  go_wp2_with fail
  clear c0 c1
  refine (told1 _ _ _ _ _ _ (fun _ => ⟨rfl, rfl⟩) (fun h => absurd h (by simp))).mono ?_
  rintro e w1 ⟨rfl, hb1⟩
  have B0 := Lib.hid (B0.out.below hb1 B0.out.lt)
  have B1 := Lib.hid (B1.out.below hb1 B1.out.lt)
  have HB := Lib.hid (HB.out.trans (hb1.mono HB.out.size))
  clear hb1
  have c0 := B0.out.cell 0 (u := .int .i64 n) rfl
  go_wp2_with fail
  clear c0
  refine (told2 _ _ _ _ _ _ (fun _ => ⟨rfl, rfl⟩) (fun h => absurd h (by simp))).mono ?_
  rintro e w1 ⟨rfl, hb1⟩
  have B0 := Lib.hid (B0.out.below hb1 B0.out.lt)
  have B1 := Lib.hid (B1.out.below hb1 B1.out.lt)
  have HB := Lib.hid (HB.out.trans (hb1.mono HB.out.size))
  clear hb1
  go_wp2_with fail
  refine (told3 _ _ _ _ _ (fun h => absurd h (by simp)) (fun _ => ⟨rfl, want3 _ n _ (by have := G.out; omega) (by have := G.out; omega) B0.out⟩)).mono ?_
  rintro e w1 ⟨rfl, hb1⟩
  have B0 := Lib.hid (B0.out.below hb1 B0.out.lt)
  have B1 := Lib.hid (B1.out.below hb1 B1.out.lt)
  have HB := Lib.hid (HB.out.trans (hb1.mono HB.out.size))
  clear hb1
  go_wp2_with fail
  refine (told4 _ _ _ _ _ (fun h => absurd h (by simp)) (fun _ => ⟨rfl, want4 _ n _ (by have := G.out; omega) (by have := G.out; omega) B0.out⟩)).mono ?_
  rintro e w1 ⟨rfl, hb1⟩
  have B0 := Lib.hid (B0.out.below hb1 B0.out.lt)
  have B1 := Lib.hid (B1.out.below hb1 B1.out.lt)
  have HB := Lib.hid (HB.out.trans (hb1.mono HB.out.size))
  clear hb1
  go_wp2_with fail
  go_ret
  exact ⟨rfl, HB.out⟩
set_option maxRecDepth 20000 in
set_option maxHeartbeats 2000000 in
theorem UrnsCount_e (n k : Int) (w : World) (hn1 : -9223372036854775808 ≤ n) (hn2 : n ≤ 9223372036854775807) (hk1 : -9223372036854775808 ≤ k) (hk2 : k ≤ 9223372036854775807) (g0 : 0 ≤ n) (g1 : n ≤ 20) (g2 : 0 ≤ k) (g3 : k ≤ 20) (g4 : 14 < n) :
    Calls Try.prog 6 #[.int .i64 n, .int .i64 k] w fun e w' => e = .returned (.bool true) ∧ Below w.heap.size w w' := by
  have hmf : ∀ (fn : Fn) (first cap : Array Value) (w : World), (Instr.makeFunc fn first cap).run Try.prog w = .ok (.func fn first cap) w := fun _ _ _ _ => rfl
  have HP : Hid (uparts n k = (((stir n.toNat k.toNat : Nat) : Int), 0)) := by unfold Hid uparts uwrong; rw [decide_eq_false (by omega)]; rfl
  have HO : Hid (uonto n k = (0, 2)) := by unfold Hid uonto uwrong; rw [if_pos (by rw [decide_eq_true_iff]; omega)]
  have HL : Hid (uone n bell = (((bell n.toNat : Nat) : Int), 0)) := by unfold Hid uone; rw [if_neg (by omega)]
  have HD : Hid (uone n drg = (((drg n.toNat : Nat) : Int), 0)) := by unfold Hid uone; rw [if_neg (by omega)]
  have d0 : decide (n < 0) = false := decide_eq_false (by omega)
  have d1 : decide (20 < n) = false := decide_eq_false (by omega)
  have d2 : decide (k < 0) = false := decide_eq_false (by omega)
  have d3 : decide (20 < k) = false := decide_eq_false (by omega)
  have d4 : decide (14 < n) = true := decide_eq_true (by omega)
  have G : Hid (0 ≤ n ∧ n ≤ 20 ∧ 0 ≤ k ∧ k ≤ 20 ∧ 14 < n) := ⟨g0, g1, g2, g3, g4⟩
  clear g0 g1 g2 g3 g4
  go_enter Try.func6, Try.ntmps6
  go_wp2_with fail
  refine (parts_any n k _).mono ?_
  rintro e w1 ⟨rfl, hb1⟩
  rw [HP.out]
  obtain ⟨b0, b1⟩ := two_new w (.int .i64 n) (.int .i64 k) 3 3
  have B0 := Lib.hid (b0.below hb1 b0.lt)
  have B1 := Lib.hid (b1.below hb1 b1.lt)
  have HB := Lib.hid ((two_below w (.cells #[.int .i64 n] 3) (.cells #[.int .i64 k] 3)).trans (hb1.mono (two_below _ _ _).size))
  clear hb1 b0 b1
  have c0 := B0.out.cell 0 (u := .int .i64 n) rfl
  have c1 := B1.out.cell 0 (u := .int .i64 k) rfl
  go_wp2_with fail
  refine (onto_any n k _).mono ?_
  rintro e w2 ⟨rfl, hb1⟩
  rw [HO.out]
  clear c0 c1
  have B0 := Lib.hid (B0.out.below hb1 B0.out.lt)
  have B1 := Lib.hid (B1.out.below hb1 B1.out.lt)
  have HB := Lib.hid (HB.out.trans (hb1.mono HB.out.size))
  clear hb1
  have c0 := B0.out.cell 0 (u := .int .i64 n) rfl
  have c1 := B1.out.cell 0 (u := .int .i64 k) rfl
  go_wp2_with fail
  refine (bell_any n _).mono ?_
  rintro e w3 ⟨rfl, hb1⟩
  rw [HL.out]
  clear c0 c1
  have B0 := Lib.hid (B0.out.below hb1 B0.out.lt)
  have B1 := Lib.hid (B1.out.below hb1 B1.out.lt)
  have HB := Lib.hid (HB.out.trans (hb1.mono HB.out.size))
  clear hb1
  have c0 := B0.out.cell 0 (u := .int .i64 n) rfl
  have c1 := B1.out.cell 0 (u := .int .i64 k) rfl
  go_wp2_with fail
  refine (wrongly_any n _).mono ?_
  rintro e w4 ⟨rfl, rfl⟩
  rw [HD.out]
  go_wp2_with fail
  clear c0 c1
  refine (told1 _ _ _ _ _ _ (fun h => absurd h (by simp)) (fun _ => ⟨rfl, want1 _ _ n k _ (by have := G.out; omega) (by have := G.out; omega) (by have := G.out; omega) (by have := G.out; omega) B0.out B1.out⟩)).mono ?_
  rintro e w1 ⟨rfl, hb1⟩
  have B0 := Lib.hid (B0.out.below hb1 B0.out.lt)
  have B1 := Lib.hid (B1.out.below hb1 B1.out.lt)
  have HB := Lib.hid (HB.out.trans (hb1.mono HB.out.size))
  clear hb1
  have c0 := B0.out.cell 0 (u := .int .i64 n) rfl
  go_wp2_with fail
  clear c0
  refine (told2 _ _ _ _ _ _ (fun _ => ⟨rfl, rfl⟩) (fun h => absurd h (by simp))).mono ?_
  rintro e w1 ⟨rfl, hb1⟩
  have B0 := Lib.hid (B0.out.below hb1 B0.out.lt)
  have B1 := Lib.hid (B1.out.below hb1 B1.out.lt)
  have HB := Lib.hid (HB.out.trans (hb1.mono HB.out.size))
  clear hb1
  go_wp2_with fail
  refine (told3 _ _ _ _ _ (fun h => absurd h (by simp)) (fun _ => ⟨rfl, want3 _ n _ (by have := G.out; omega) (by have := G.out; omega) B0.out⟩)).mono ?_
  rintro e w1 ⟨rfl, hb1⟩
  have B0 := Lib.hid (B0.out.below hb1 B0.out.lt)
  have B1 := Lib.hid (B1.out.below hb1 B1.out.lt)
  have HB := Lib.hid (HB.out.trans (hb1.mono HB.out.size))
  clear hb1
  go_wp2_with fail
  refine (told4 _ _ _ _ _ (fun h => absurd h (by simp)) (fun _ => ⟨rfl, want4 _ n _ (by have := G.out; omega) (by have := G.out; omega) B0.out⟩)).mono ?_
  rintro e w1 ⟨rfl, hb1⟩
  have B0 := Lib.hid (B0.out.below hb1 B0.out.lt)
  have B1 := Lib.hid (B1.out.below hb1 B1.out.lt)
  have HB := Lib.hid (HB.out.trans (hb1.mono HB.out.size))
  clear hb1
  go_wp2_with fail
  go_ret
  exact ⟨rfl, HB.out⟩
set_option maxRecDepth 20000 in
set_option maxHeartbeats 2000000 in
theorem UrnsCount_f (n k : Int) (w : World) (hn1 : -9223372036854775808 ≤ n) (hn2 : n ≤ 9223372036854775807) (hk1 : -9223372036854775808 ≤ k) (hk2 : k ≤ 9223372036854775807) (g0 : 0 ≤ n) (g1 : n ≤ 20) (g2 : 0 ≤ k) (g3 : k ≤ 20) (g4 : n ≤ 14) :
    Calls Try.prog 6 #[.int .i64 n, .int .i64 k] w fun e w' => e = .returned (.bool true) ∧ Below w.heap.size w w' := by
  have hmf : ∀ (fn : Fn) (first cap : Array Value) (w : World), (Instr.makeFunc fn first cap).run Try.prog w = .ok (.func fn first cap) w := fun _ _ _ _ => rfl
  have HP : Hid (uparts n k = (((stir n.toNat k.toNat : Nat) : Int), 0)) := by unfold Hid uparts uwrong; rw [decide_eq_false (by omega)]; rfl
  have HO : Hid (uonto n k = (((onto n.toNat k.toNat : Nat) : Int), 0)) := by unfold Hid uonto uwrong; rw [if_neg (by rw [decide_eq_true_iff]; omega)]
  have HL : Hid (uone n bell = (((bell n.toNat : Nat) : Int), 0)) := by unfold Hid uone; rw [if_neg (by omega)]
  have HD : Hid (uone n drg = (((drg n.toNat : Nat) : Int), 0)) := by unfold Hid uone; rw [if_neg (by omega)]
  have d0 : decide (n < 0) = false := decide_eq_false (by omega)
  have d1 : decide (20 < n) = false := decide_eq_false (by omega)
  have d2 : decide (k < 0) = false := decide_eq_false (by omega)
  have d3 : decide (20 < k) = false := decide_eq_false (by omega)
  have d4 : decide (14 < n) = false := decide_eq_false (by omega)
  have G : Hid (0 ≤ n ∧ n ≤ 20 ∧ 0 ≤ k ∧ k ≤ 20 ∧ n ≤ 14) := ⟨g0, g1, g2, g3, g4⟩
  clear g0 g1 g2 g3 g4
  go_enter Try.func6, Try.ntmps6
  go_wp2_with fail
  refine (parts_any n k _).mono ?_
  rintro e w1 ⟨rfl, hb1⟩
  rw [HP.out]
  obtain ⟨b0, b1⟩ := two_new w (.int .i64 n) (.int .i64 k) 3 3
  have B0 := Lib.hid (b0.below hb1 b0.lt)
  have B1 := Lib.hid (b1.below hb1 b1.lt)
  have HB := Lib.hid ((two_below w (.cells #[.int .i64 n] 3) (.cells #[.int .i64 k] 3)).trans (hb1.mono (two_below _ _ _).size))
  clear hb1 b0 b1
  have c0 := B0.out.cell 0 (u := .int .i64 n) rfl
  have c1 := B1.out.cell 0 (u := .int .i64 k) rfl
  go_wp2_with fail
  refine (onto_any n k _).mono ?_
  rintro e w2 ⟨rfl, hb1⟩
  rw [HO.out]
  clear c0 c1
  have B0 := Lib.hid (B0.out.below hb1 B0.out.lt)
  have B1 := Lib.hid (B1.out.below hb1 B1.out.lt)
  have HB := Lib.hid (HB.out.trans (hb1.mono HB.out.size))
  clear hb1
  have c0 := B0.out.cell 0 (u := .int .i64 n) rfl
  have c1 := B1.out.cell 0 (u := .int .i64 k) rfl
  go_wp2_with fail
  refine (bell_any n _).mono ?_
  rintro e w3 ⟨rfl, hb1⟩
  rw [HL.out]
  clear c0 c1
  have B0 := Lib.hid (B0.out.below hb1 B0.out.lt)
  have B1 := Lib.hid (B1.out.below hb1 B1.out.lt)
  have HB := Lib.hid (HB.out.trans (hb1.mono HB.out.size))
  clear hb1
  have c0 := B0.out.cell 0 (u := .int .i64 n) rfl
  have c1 := B1.out.cell 0 (u := .int .i64 k) rfl
  go_wp2_with fail
  refine (wrongly_any n _).mono ?_
  rintro e w4 ⟨rfl, rfl⟩
  rw [HD.out]
  go_wp2_with fail
  clear c0 c1
  refine (told1 _ _ _ _ _ _ (fun h => absurd h (by simp)) (fun _ => ⟨rfl, want1 _ _ n k _ (by have := G.out; omega) (by have := G.out; omega) (by have := G.out; omega) (by have := G.out; omega) B0.out B1.out⟩)).mono ?_
  rintro e w1 ⟨rfl, hb1⟩
  have B0 := Lib.hid (B0.out.below hb1 B0.out.lt)
  have B1 := Lib.hid (B1.out.below hb1 B1.out.lt)
  have HB := Lib.hid (HB.out.trans (hb1.mono HB.out.size))
  clear hb1
  have c0 := B0.out.cell 0 (u := .int .i64 n) rfl
  go_wp2_with fail
  clear c0
  refine (told2 _ _ _ _ _ _ (fun h => absurd h (by simp)) (fun _ => ⟨rfl, want2 _ _ n k _ (by have := G.out; omega) (by have := G.out; omega) (by have := G.out; omega) B0.out B1.out⟩)).mono ?_
  rintro e w1 ⟨rfl, hb1⟩
  have B0 := Lib.hid (B0.out.below hb1 B0.out.lt)
  have B1 := Lib.hid (B1.out.below hb1 B1.out.lt)
  have HB := Lib.hid (HB.out.trans (hb1.mono HB.out.size))
  clear hb1
  go_wp2_with fail
  refine (told3 _ _ _ _ _ (fun h => absurd h (by simp)) (fun _ => ⟨rfl, want3 _ n _ (by have := G.out; omega) (by have := G.out; omega) B0.out⟩)).mono ?_
  rintro e w1 ⟨rfl, hb1⟩
  have B0 := Lib.hid (B0.out.below hb1 B0.out.lt)
  have B1 := Lib.hid (B1.out.below hb1 B1.out.lt)
  have HB := Lib.hid (HB.out.trans (hb1.mono HB.out.size))
  clear hb1
  go_wp2_with fail
  refine (told4 _ _ _ _ _ (fun h => absurd h (by simp)) (fun _ => ⟨rfl, want4 _ n _ (by have := G.out; omega) (by have := G.out; omega) B0.out⟩)).mono ?_
  rintro e w1 ⟨rfl, hb1⟩
  have B0 := Lib.hid (B0.out.below hb1 B0.out.lt)
  have B1 := Lib.hid (B1.out.below hb1 B1.out.lt)
  have HB := Lib.hid (HB.out.trans (hb1.mono HB.out.size))
  clear hb1
  go_wp2_with fail
  go_ret
  exact ⟨rfl, HB.out⟩
theorem of_wf_i64 {n : Int} (h : (Lit.int .i64 n).wf = true) : -9223372036854775808 ≤ n ∧ n ≤ 9223372036854775807 := by
  simp [Lit.wf, IntKind.min, IntKind.max, IntKind.bits, IntKind.signed] at h; omega
theorem UrnsCount_walk (n k : Int) (w : World) (hn : (Lit.int .i64 n).wf = true) (hk : (Lit.int .i64 k).wf = true) :
    Calls Try.prog 6 #[.int .i64 n, .int .i64 k] w fun e w' => e = .returned (.bool true) ∧ Below w.heap.size w w' := by
  obtain ⟨hn1, hn2⟩ := of_wf_i64 hn
  obtain ⟨hk1, hk2⟩ := of_wf_i64 hk
  by_cases h1 : n < 0
  · exact UrnsCount_a n k w hn1 hn2 hk1 hk2 h1
  by_cases h2 : 20 < n
  · exact UrnsCount_b n k w hn1 hn2 hk1 hk2 (by omega) h2
  by_cases h3 : k < 0
  · exact UrnsCount_c n k w hn1 hn2 hk1 hk2 (by omega) (by omega) h3
  by_cases h4 : 20 < k
  · exact UrnsCount_d n k w hn1 hn2 hk1 hk2 (by omega) (by omega) (by omega) h4
  by_cases h5 : 14 < n
  · exact UrnsCount_e n k w hn1 hn2 hk1 hk2 (by omega) (by omega) (by omega) (by omega) h5
  · exact UrnsCount_f n k w hn1 hn2 hk1 hk2 (by omega) (by omega) (by omega) (by omega) (by omega)
end Go.Proofs.Ytakjcodfcoaadab
