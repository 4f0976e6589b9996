/- strings and strconv at lists of bytes: the shelf's contracts in plain words; what the library's tables must hold. No condition but the text's own size and the library's tables. The reference of package bench: zscan, zstep; bench.fits, numbers: walked. No condition but the text's own size and the library's tables. The reference of package bench: zstep, walked. No condition but the text's own size. -/
import Derived.Test.YtmibifmabkaakaaDoorBenM
import Derived.RegionTactic
import Derived.ChangeAlike
namespace Go.Proofs.YtmibifmabkaakaaDoor
open Go.ChangeShapes Go.WideShapes Go.ChangeAt Go.RowKit
set_option linter.unusedVariables false

/-- A string of these bytes. -/
abbrev SV (l : Bs) : Value := .string ⟨l.toArray⟩
theorem sv_of (s : ByteArray) : Value.string s = SV s.data.toList := by
  show Value.string s = Value.string ⟨s.data.toList.toArray⟩
  rw [Array.toArray_toList]
/-- What the library's tables and variables must hold. -/
structure LibW (w : World) : Prop where
  pow : Lib.TabIs Tryd.prog w "internal/strconv.uint64pow10" .u64 Lib.pow10Tab
  syn : ∃ tp p, w.var? Tryd.prog "strconv.ErrSyntax" = some #[.iface tp p]
  rng : ∃ tp p, w.var? Tryd.prog "strconv.ErrRange" = some #[.iface tp p]
  len : ∃ m, w.cell? ⟨2, 0, none⟩ = some (.int .i64 m)
theorem var_below {P : Program} {w w' : World} {n : String} {g : Nat} {cs : Array Value} (hg : P.globalNamed n = some g) (h : w.var? P n = some cs) (hb : Below w.heap.size w w') : w'.var? P n = some cs := by
  unfold World.var? at h ⊢
  rw [hg] at h ⊢
  simp only [Option.bind_some] at h ⊢
  have hlt : g < w.heap.size := by
    rcases Nat.lt_or_ge g w.heap.size with h' | h'
    · exact h'
    · rw [Array.getElem?_eq_none h'] at h; cases h
  rw [hb.block g hlt]
  exact h
theorem LibW.below {w w' : World} (h : LibW w) (hb : Below w.heap.size w w') : LibW w' where
  pow := var_below (g := 1) (by kernel_rfl) h.pow hb
  syn := let ⟨tp, p, h⟩ := h.syn; ⟨tp, p, var_below (g := 3) (by kernel_rfl) h hb⟩
  rng := let ⟨tp, p, h⟩ := h.rng; ⟨tp, p, var_below (g := 4) (by kernel_rfl) h hb⟩
  len := let ⟨m, h⟩ := h.len; ⟨m, by
    have hlt : 2 < w.heap.size := World.block_lt_of_cell? _ _ h
    rw [hb.cell (p := ⟨2, 0, none⟩) hlt]; exact h⟩
theorem grow_below (w : World) (k : Nat) (os : Array Obj) : Below w.heap.size w (Sort.grow (w.drewN k) os) :=
  ⟨rfl, rfl, rfl, by simp [Sort.grow, World.drewN], fun i hi => by
    show (w.heap ++ os)[i]? = w.heap[i]?
    rw [Array.getElem?_append_left hi]⟩
theorem itoa_any (n : Int) (h0 : -9223372036854775808 ≤ n) (h1 : n ≤ 9223372036854775807) (w : World) (hL : LibW w) :
    Calls Tryd.prog 76 #[.int .i64 n] w fun e w' => e = .returned (SV (Lib.itoa n)) ∧ Below w.heap.size w w' :=
  (Any.strconv_Itoa laysItoa n h0 h1 w hL.pow).mono fun e w' ⟨he, k, os, hw⟩ => ⟨he, by rw [hw]; exact grow_below w k os⟩
theorem fmt_any (n : Int) (h0 : -9223372036854775808 ≤ n) (h1 : n ≤ 9223372036854775807) (w : World) (hL : LibW w) :
    Calls Tryd.prog 78 #[.int .i64 n, .int .i64 10] w fun e w' => e = .returned (SV (Lib.itoa n)) ∧ Below w.heap.size w w' :=
  (Any.strconv_FormatInt_10 laysFmt n h0 h1 w hL.pow).mono fun e w' ⟨he, k, os, hw⟩ => ⟨he, by rw [hw]; exact grow_below w k os⟩
theorem sv_list (s : Bs) : (⟨s.toArray⟩ : ByteArray).data.toList = s := rfl
theorem sv_size (s : Bs) : (⟨s.toArray⟩ : ByteArray).size = s.length := rfl
theorem atoi_ok (s : Bs) (hs : s.length ≤ 281474976710656) (v : Int) (h : Lib.atoiAll s = .ok v) (w : World) :
    Calls Tryd.prog 100 #[SV s] w fun e w' => e = .returned (.tuple #[.int .i64 v, .nilIface]) ∧ Below w.heap.size w w' :=
  (Any.strconv_Atoi_ok laysAtoi ⟨s.toArray⟩ (by rw [sv_size]; omega) v h w).mono fun e w' ⟨he, hw⟩ => ⟨he, by
    rcases hw with rfl | ⟨t, rfl⟩
    · exact Below.refl _ _
    · exact Lib.bytesWorld_below _ _ _⟩
theorem atoi_bad (s : Bs) (hs : s.length ≤ 281474976710656) (h : ∀ v, Lib.atoiAll s ≠ .ok v) (w : World) (hL : LibW w) :
    Calls Tryd.prog 100 #[SV s] w fun e w' => (∃ n t p, e = .returned (.tuple #[.int .i64 n, .iface t p])) ∧ Below w.heap.size w w' := by
  cases hc : Lib.atoiAll s
  · exact absurd hc (h _)
  · obtain ⟨tp, p, hv⟩ := hL.syn
    exact (Any.strconv_Atoi_syntax_var laysAtoi ⟨s.toArray⟩ hs hc tp p w hv).mono fun e w' ⟨N, he, _, _, hb⟩ => ⟨⟨_, _, _, he⟩, hb⟩
  · obtain ⟨tp, p, hv⟩ := hL.rng
    exact (Any.strconv_Atoi_range_var laysAtoi ⟨s.toArray⟩ hs hc tp p w hv).mono fun e w' ⟨N, he, _, _, hb⟩ => ⟨⟨_, _, _, he⟩, hb⟩
theorem cut_any (s sep : Bs) (hs : s.length < 4294967281) (w : World) (hL : LibW w) :
    Calls Tryd.prog 82 #[SV s, SV sep] w fun e w' => e = .returned (.tuple #[SV (Lib.cut s sep).1, SV (Lib.cut s sep).2.1, .bool (Lib.cut s sep).2.2]) ∧ ∃ n, w' = w.drewN n := by
  obtain ⟨m, hm⟩ := hL.len
  exact Any.strings_Cut laysCut ⟨s.toArray⟩ ⟨sep.toArray⟩ m w hs hm
theorem seg_block (w : World) (xs : List Value) (t : TypeId) : Seg (w.alloc (.cells xs.toArray t)) (w.alloc (.cells xs.toArray t)).heap.size (some ⟨w.heap.size, 0, none⟩) xs := fun _ => by
  refine ⟨_, rfl, by simp, fun k v hk => ?_⟩
  have e : (⟨w.heap.size, 0, none⟩ : Addr).add k = ⟨w.heap.size, k, none⟩ := by unfold Addr.add; split <;> simp [*]
  rw [e]
  unfold World.cell?
  rw [heap_alloc_new w _]
  simpa using hk
theorem split_any (s : Bs) (c : UInt8) (hs : s.length < 4294967281) (w : World) (hL : LibW w) :
    Calls Tryd.prog 99 #[SV s, SV [c]] w fun e w' => ∃ A, e = .returned (.slice A (Lib.split s [c]).length (Lib.split s [c]).length) ∧ Seg w' w'.heap.size A ((Lib.split s [c]).map SV) ∧ Below w.heap.size w w' := by
  obtain ⟨m, hm⟩ := hL.len
  refine (Any.strings_Split laysSplit (by kernel_rfl) ⟨s.toArray⟩ ⟨[c].toArray⟩ m w hs hm (Nat.le_refl 1)).mono fun e w' ⟨he, hw⟩ => ?_
  have e1 : (Lib.splitB ⟨[c].toArray⟩ 0 (Lib.countB ⟨s.toArray⟩ ⟨[c].toArray⟩) ⟨s.toArray⟩).map (fun b => b.data.toList) = Lib.split s [c] := Lib.splitB_data ⟨[c].toArray⟩ 0 _ ⟨s.toArray⟩
  have e2 : (Lib.splitB ⟨[c].toArray⟩ 0 (Lib.countB ⟨s.toArray⟩ ⟨[c].toArray⟩) ⟨s.toArray⟩).map Value.string = (Lib.split s [c]).map SV := by
    rw [← e1, List.map_map]
    exact List.map_congr_left fun b _ => sv_of b
  have e3 : Lib.countB ⟨s.toArray⟩ ⟨[c].toArray⟩ + 1 = (Lib.split s [c]).length := by
    rw [← e1, List.length_map, Lib.splitB_all ⟨[c].toArray⟩ (Nat.le_refl 1) 0 _ _ rfl]
  rw [e3] at he
  rw [e2] at hw
  subst hw
  exact ⟨_, he, seg_block w _ _, (Below.refl _ _).alloc (Nat.le_refl _) _⟩
theorem strcell_one (l : List Bs) : ∀ u ∈ l.map SV, u.oneCell' = true := by
  intro u hu
  obtain ⟨b, _, rfl⟩ := List.mem_map.1 hu
  rfl
/-! ### what the walk does to strings -/
theorem sv_append (a b : Bs) : (⟨a.toArray⟩ : ByteArray) ++ ⟨b.toArray⟩ = ⟨(a ++ b).toArray⟩ := by
  apply ByteArray.ext
  rw [ByteArray.data_append]
  simp
theorem sv_ext (s : Bs) (i j : Nat) : (⟨s.toArray⟩ : ByteArray).extract i j = ⟨((s.drop i).take (j - i)).toArray⟩ := by
  apply ByteArray.ext
  rw [ByteArray.data_extract]
  simp
theorem sv_inj {a b : Bs} : ((⟨a.toArray⟩ : ByteArray) = ⟨b.toArray⟩) ↔ a = b := ⟨fun h => by
  have := congrArg (fun s : ByteArray => s.data.toList) h
  simpa using this, fun h => by rw [h]⟩

set_option linter.unusedVariables false

theorem fits_any (n : Int) (w : World) : Calls Tryd.prog 79 #[.int .i64 n] w fun e w' => e = .returned (.bool (decide (0 ≤ n ∧ n ≤ 1099511627776))) ∧ w = w' := by
  obtain ⟨b, hb⟩ : ∃ b, b = decide (0 ≤ n ∧ n ≤ 1099511627776) := ⟨_, rfl⟩
  rw [← hb]
  rcases (by omega : n < 0 ∨ (¬ n < 0 ∧ 1099511627776 < n) ∨ (¬ n < 0 ∧ ¬ 1099511627776 < n)) with h1 | ⟨h1, h2⟩ | ⟨h1, h2⟩
  · have hf : Hid (b = false) := hb.trans (decide_eq_false (by omega))
    clear hb
    go_enter Tryd.func79, Tryd.ntmps79
    go_wp2_with fail
    go_ret
    exact ⟨by rw [hf.out]; first | rfl | (simp; omega), rfl⟩
  · have hf : Hid (b = false) := hb.trans (decide_eq_false (by omega))
    clear hb
    go_enter Tryd.func79, Tryd.ntmps79
    go_wp2_with fail
    go_ret
    exact ⟨by rw [hf.out]; first | rfl | (simp; omega), rfl⟩
  · have hf : Hid (b = true) := hb.trans (decide_eq_true (by omega))
    clear hb
    go_enter Tryd.func79, Tryd.ntmps79
    go_wp2_with fail
    go_ret
    exact ⟨by rw [hf.out]; first | rfl | (simp; omega), rfl⟩
/-- What zscan and zstep hand back. -/
def RZ (r : Option (Nat × Bs)) : Value := .tuple #[.int .i64 ((r.map (·.1)).getD 0 : Nat), SV ((r.map (·.2)).getD []), .bool r.isSome]
theorem valF_lt : ∀ (k : Nat) (l : Bs), l.length = k → (∀ c ∈ l, isDig c = true) → valF 0 l < 10 ^ k := by
  intro k
  induction k with
  | zero => intro l h _; rw [List.length_eq_zero_iff.1 h]; decide
  | succ k ih =>
    intro l hk hall
    have hne : l ≠ [] := fun e => by subst e; cases hk
    obtain ⟨d, c, rfl⟩ : ∃ d c, l = d ++ [c] := ⟨l.dropLast, l.getLast hne, (List.dropLast_concat_getLast hne).symm⟩
    rw [List.length_append, List.length_singleton] at hk
    have h1 := ih d (by omega) fun x hx => hall x (by simp [hx])
    have h2 := isDig_iff.1 (hall c (by simp))
    rw [valF_snoc, Nat.pow_succ]
    omega
theorem pow_mono {a b : Nat} (h : a ≤ b) : (10 : Nat) ^ a ≤ 10 ^ b := Nat.pow_le_pow_right (by decide) h
/-- One more digit. -/
theorem scan_more {s : Bs} {k : Nat} (hk : k < (scanDs s).length) : ∃ h : k < s.length, k < 14 ∧ 48 ≤ s[k].toNat ∧ s[k].toNat ≤ 57 ∧ valF 0 ((scanDs s).take k) < 100000000000000 ∧ valF 0 ((scanDs s).take (k + 1)) = 10 * valF 0 ((scanDs s).take k) + (s[k].toNat - 48) := by
  have hp := scan_pre s
  have hl : k < s.length := by
    have := congrArg List.length hp
    rw [List.length_append] at this
    omega
  have he : s[k] = (scanDs s)[k] := by
    have h1 : s[k]? = (scanDs s)[k]? := by
      conv => lhs; rw [hp]
      rw [List.getElem?_append_left hk]
    rw [List.getElem?_eq_getElem hl, List.getElem?_eq_getElem hk] at h1
    exact Option.some.inj h1
  have h14 := scan_le s
  have hd := isDig_iff.1 (scan_all s (scanDs s)[k] (List.getElem_mem hk))
  have hv := valF_lt _ ((scanDs s).take k) rfl fun c hc => scan_all s c (List.mem_of_mem_take hc)
  rw [List.length_take, Nat.min_eq_left (by omega)] at hv
  refine ⟨hl, by omega, by rw [he]; exact hd.1, by rw [he]; exact hd.2, Nat.lt_of_lt_of_le hv (Nat.le_trans (pow_mono (b := 14) (by omega)) (by decide)), ?_⟩
  rw [List.take_succ_eq_append_getElem hk, valF_snoc, he]
theorem scan_end {s : Bs} (h : (scanDs s).length < s.length) (h14 : (scanDs s).length < 14) : s[(scanDs s).length].toNat < 48 ∨ 57 < s[(scanDs s).length].toNat := by
  have := scan_stop h14 s[(scanDs s).length] (s.drop ((scanDs s).length + 1)) (List.drop_eq_getElem_cons h)
  have h2 : ¬ (48 ≤ s[(scanDs s).length].toNat ∧ s[(scanDs s).length].toNat ≤ 57) := fun e => by rw [isDig_iff.2 e] at this; cases this
  omega
theorem wr64 (x : Int) (h0 : 0 ≤ x) (h1 : x ≤ 9223372036854775807) : wrap64 x = x := by unfold wrap64; omega
theorem get_nat (S : ByteArray) (k : Nat) (h : k < S.size) : S[k] = S.data.toList[k] := rfl
theorem u8w (C : Nat) (h : 48 ≤ C) (h2 : C ≤ 57) : IntKind.u8.wrap ((C : Int) - 48) = ((C - 48 : Nat) : Int) := by
  show ((C : Int) - 48) % 256 = _
  omega
set_option maxRecDepth 20000 in
set_option maxHeartbeats 4000000 in
theorem zscan_core (S : ByteArray) (N D : Nat) (V : Nat → Nat) (C : Nat → Nat) (rz : Option (Nat × Bs)) (hN : S.size = N) (hN2 : N ≤ 281474976710656)
    (hC : ∀ k (h : k < S.size), (S[k]'h).toNat = C k) (hV0 : V 0 = 0) (hD : D ≤ 14) (hDN : D ≤ N)
    (hmore : ∀ k, k < D → 48 ≤ C k ∧ C k ≤ 57 ∧ V k < 100000000000000 ∧ V (k + 1) = 10 * V k + (C k - 48))
    (hend : D < N → D < 14 → C D < 48 ∨ 57 < C D)
    (hrz : rz = if D = 0 ∨ (1 < D ∧ C 0 = 48) ∨ 1099511627776 < V D then none else some (V D, (S.extract D N).data.toList)) (w : World) :
    Calls Tryd.prog 101 #[.string S] w fun e w' => e = .returned (RZ rz) ∧ ∃ m, w' = w.drewN m := by
  have HM := Lib.hid hmore
  have HE := Lib.hid hend
  have HR := Lib.hid hrz
  have HD := Lib.hid (And.intro hD (And.intro hDN hN2))
  have HV0 := Lib.hid hV0
  clear hmore hend hrz hD hDN hN2 hV0
  go_enter Tryd.func101, Tryd.ntmps101
  go_wp2_with fail
  go_loopw [5, 6] (fun s5 s6 wx => ∃ k : Nat, k ≤ D ∧ s6 = .int .i64 k ∧ s5 = .int .i64 (V k : Nat) ∧ wx = w) (fun _ s6 _ => D - (intOf s6).toNat)
  case atStart => exact ⟨0, Nat.zero_le _, rfl, by rw [HV0.out]; rfl, rfl⟩
  case round =>
    obtain ⟨k, hkD, rfl, rfl, rfl⟩ := hrel
    by_cases hlt : k < D
    · obtain ⟨m1, m2, m3, m4⟩ := HM.out k hlt
      have hkN : k < S.size := by have := HD.out; omega
      have hc := hC k hkN
      have i1 : decide ((k : Int) < (N : Int)) = true := decide_eq_true (by have := HD.out; omega)
      have i2 : decide ((k : Int) < 14) = true := decide_eq_true (by have := HD.out; omega)
      have i3 : decide ((48 : Int) ≤ (C k : Nat)) = true := decide_eq_true (by omega)
      have i4 : decide (((C k : Nat) : Int) ≤ 57) = true := decide_eq_true (by omega)
      have HV : Hid (V (k + 1) = 10 * V k + (C k - 48)) := m4
      have hix : (0 : Int) ≤ (k : Int) ∧ (k : Int) < (N : Int) := by have := HD.out; omega
      have u1 : wrap64 (10 * (V k : Nat) + ((C k - 48 : Nat) : Int)) = (V (k + 1) : Nat) := by rw [wr64 _ (by omega) (by omega)]; omega
      have u2 : IntKind.u8.wrap ((C k : Nat) - 48) = ((C k - 48 : Nat) : Int) := u8w _ m1 m2
      have u3 : wrap64 ((k : Int) + 1) = ((k + 1 : Nat) : Int) := by rw [wr64 _ (by omega) (by have := HD.out; omega)]; omega
      have u4 : wrap64 (10 * (V k : Nat)) = 10 * (V k : Nat) := wr64 _ (by omega) (by omega)
      have HK := Lib.hid hlt
      have HC57 := Lib.hid m2
      have HU3 := Lib.hid u3
      have HU1 := Lib.hid u1
      clear hC hkD hlt m1 m2 m3 m4 HV u3 u1
      have u5 : wrap64 ((C k - 48 : Nat) : Int) = ((C k - 48 : Nat) : Int) := wr64 _ (by omega) (by have := HC57.out; omega)
      generalize C k = c at *
      generalize V k = v at *
      generalize c - 48 = d at *
      go_wp2_with fail
      go_roundw
      case rel => exact ⟨k + 1, HK.out, by rw [HU3.out], by rw [HU1.out], trivial⟩
      case measure => rw [HU3.out]; have := HK.out; simp [intOf]; omega
    · obtain rfl : k = D := by omega
      have HT : (¬ (k : Int) < (N : Int)) ∨ (decide ((k : Int) < (N : Int)) = true ∧ decide ((k : Int) < 14) = false) ∨ (decide ((k : Int) < (N : Int)) = true ∧ decide ((k : Int) < 14) = true ∧ decide ((48 : Int) ≤ (C k : Nat)) = false) ∨ (decide ((k : Int) < (N : Int)) = true ∧ decide ((k : Int) < 14) = true ∧ decide ((48 : Int) ≤ (C k : Nat)) = true ∧ ((((C k : Nat) : Int) ≤ 57) = False)) := by
        simp only [decide_eq_false_iff_not, decide_eq_true_eq, eq_iff_iff, iff_false]
        have := HE.out
        omega
      have HB : (((k : Int) == 0) = true ∧ Hid (rz = none)) ∨ (((k : Int) == 0) = false ∧ (0 : Int) < (N : Int) ∧ decide ((1 : Int) < (k : Int)) = true ∧ (((C 0 : Nat) : Int) == 48) = true ∧ Hid (rz = none)) ∨ (((k : Int) == 0) = false ∧ (0 : Int) < (N : Int) ∧ decide ((1 : Int) < (k : Int)) = true ∧ (((C 0 : Nat) : Int) == 48) = false ∧ decide ((1099511627776 : Int) < (V k : Nat)) = true ∧ Hid (rz = none)) ∨ (((k : Int) == 0) = false ∧ (0 : Int) < (N : Int) ∧ decide ((1 : Int) < (k : Int)) = true ∧ (((C 0 : Nat) : Int) == 48) = false ∧ decide ((1099511627776 : Int) < (V k : Nat)) = false ∧ Hid (rz = some (V k, (S.extract k N).data.toList))) ∨ (((k : Int) == 0) = false ∧ decide ((1 : Int) < (k : Int)) = false ∧ decide ((1099511627776 : Int) < (V k : Nat)) = true ∧ Hid (rz = none)) ∨ (((k : Int) == 0) = false ∧ decide ((1 : Int) < (k : Int)) = false ∧ decide ((1099511627776 : Int) < (V k : Nat)) = false ∧ Hid (rz = some (V k, (S.extract k N).data.toList))) := by
        have hr := HR.out
        by_cases a1 : k = 0
        · left
          exact ⟨by simp [a1], hr.trans (if_pos (Or.inl a1))⟩
        · have b1 : ((k : Int) == 0) = false := by rw [beq_eq_false_iff_ne]; omega
          right
          by_cases a2 : 1 < k
          · have b0 : (0 : Int) < (N : Int) := by have := HD.out; omega
            have b2 : decide ((1 : Int) < (k : Int)) = true := decide_eq_true (by omega)
            by_cases a3 : C 0 = 48
            · left
              exact ⟨b1, b0, b2, by rw [beq_iff_eq]; omega, hr.trans (if_pos (Or.inr (Or.inl ⟨a2, a3⟩)))⟩
            · have b3 : (((C 0 : Nat) : Int) == 48) = false := by rw [beq_eq_false_iff_ne]; omega
              right
              by_cases a4 : 1099511627776 < V k
              · left
                exact ⟨b1, b0, b2, b3, decide_eq_true (by omega), hr.trans (if_pos (Or.inr (Or.inr a4)))⟩
              · right; left
                exact ⟨b1, b0, b2, b3, decide_eq_false (by omega), hr.trans (if_neg (by omega))⟩
          · have b2 : decide ((1 : Int) < (k : Int)) = false := decide_eq_false (by omega)
            right; right; right
            by_cases a4 : 1099511627776 < V k
            · left
              exact ⟨b1, b2, decide_eq_true (by omega), hr.trans (if_pos (Or.inr (Or.inr a4)))⟩
            · right
              exact ⟨b1, b2, decide_eq_false (by omega), hr.trans (if_neg (by omega))⟩
      have hkN : k ≤ S.size := by have := HD.out; omega
      have hc0 : ∀ h : 0 < S.size, (S[0]'h).toNat = C 0 := hC 0
      have hck : ∀ h : k < S.size, (S[k]'h).toNat = C k := hC k
      have hix : (0 : Int) ≤ (k : Int) ∧ (k : Int) ≤ (N : Int) := by have := HD.out; omega
      clear hC hlt hkD
      rcases HT with i1 | ⟨i1, i2⟩ | ⟨i1, i2, i3⟩ | ⟨i1, i2, i3, i4⟩
      all_goals (rcases HB with ⟨j1, hr⟩ | ⟨j1, j0, j2, j3, hr⟩ | ⟨j1, j0, j2, j3, j4, hr⟩ | ⟨j1, j0, j2, j3, j4, hr⟩ | ⟨j1, j2, j3, hr⟩ | ⟨j1, j2, j3, hr⟩)
      all_goals go_wp2_with fail
      all_goals (try go_ret3)
      all_goals first | exact ⟨by rw [hr.out]; rfl, 0, rfl⟩ | skip
      all_goals go_quiet (fail)
      all_goals go_wp2_with fail
      all_goals go_ret3
      all_goals exact ⟨by rw [hr.out]; show _ = Ending.returned (.tuple #[_, SV (S.extract k N).data.toList, _]); rw [← sv_of]; rfl, _, rfl⟩
theorem ite_cc {α : Type} {p q : Prop} [Decidable p] [Decidable q] (h : p ↔ q) {a b c : α} (e : b = c) : (if p then a else b) = (if q then a else c) := by
  by_cases hp : p
  · rw [if_pos hp, if_pos (h.1 hp)]
  · rw [if_neg hp, if_neg (fun hq => hp (h.2 hq)), e]
theorem zscan_any (s : Bs) (hs : s.length ≤ 281474976710656) (w : World) : Calls Tryd.prog 101 #[SV s] w fun e w' => e = .returned (RZ (zscanR s)) ∧ ∃ m, w' = w.drewN m := by
  have hdn : (scanDs s).length ≤ s.length := by
    have := congrArg List.length (scan_pre s)
    rw [List.length_append] at this
    omega
  refine zscan_core ⟨s.toArray⟩ s.length (scanDs s).length (fun k => valF 0 ((scanDs s).take k)) (fun k => (s.getD k 0).toNat) (zscanR s) rfl hs ?_ rfl (scan_le s) hdn ?_ ?_ ?_ w
  · intro k h
    have h' : k < s.length := h
    show s[k].toNat = (s.getD k 0).toNat
    rw [List.getD_eq_getElem?_getD, List.getElem?_eq_getElem h']
    rfl
  · intro k hk
    obtain ⟨h, _, h1, h2, h3, h4⟩ := scan_more hk
    have e : s.getD k 0 = s[k] := by rw [List.getD_eq_getElem?_getD, List.getElem?_eq_getElem h]; rfl
    simp only [e]
    exact ⟨h1, h2, h3, h4⟩
  · intro h h14
    have e : s.getD (scanDs s).length 0 = s[(scanDs s).length] := by rw [List.getD_eq_getElem?_getD, List.getElem?_eq_getElem h]; rfl
    simp only [e]
    exact scan_end h h14
  · unfold zscanR
    simp only [List.take_length]
    have e1 : (1 < (scanDs s).length ∧ s.head? = some 48) ↔ (1 < (scanDs s).length ∧ (s.getD 0 0).toNat = 48) := by
      refine and_congr_right fun h => ?_
      cases s with
      | nil => simp [scanDs] at h
      | cons c t =>
        show some c = some 48 ↔ c.toNat = 48
        rw [Option.some.injEq]
        exact ⟨fun h => by rw [h]; rfl, fun h => UInt8.toNat_inj.1 h⟩
    refine ite_cc (by rw [e1]) ?_
    rw [sv_ext]
    show _ = some (_, (s.drop (scanDs s).length).take (s.length - (scanDs s).length))
    rw [List.take_of_length_le (by rw [List.length_drop]; exact Nat.le_refl _)]

set_option linter.unusedVariables false

set_option maxRecDepth 20000 in
set_option maxHeartbeats 4000000 in
theorem zstep_core (S W : ByteArray) (n m : Nat) (rz : Option (Nat × Bs)) (hS : S.size = n) (hW : W.size = m) (hn : n ≤ 281474976710656)
    (hz : ∀ u, m ≤ n → Calls Tryd.prog 101 #[.string (S.extract m n)] u fun e w' => e = .returned (RZ (zscanR (S.extract m n).data.toList)) ∧ ∃ m, w' = u.drewN m)
    (hrz : rz = if m ≤ n ∧ ((S.extract 0 m).toList == W.toList) = true then zscanR (S.extract m n).data.toList else none) (w : World) :
    Calls Tryd.prog 84 #[.string S, .string W] w fun e w' => e = .returned (RZ rz) ∧ ∃ m, w' = w.drewN m := by
  have HZ := Lib.hid hz
  have HR := Lib.hid hrz
  clear hz hrz
  by_cases h1 : n < m
  · have hr : Hid (rz = none) := HR.out.trans (if_neg (by omega))
    have i1 : (n : Int) < (m : Int) := by omega
    go_enter Tryd.func84, Tryd.ntmps84
    go_wp2_with fail
    go_ret3
    exact ⟨by rw [hr.out]; rfl, 0, rfl⟩
  · have i1 : ¬ (n : Int) < (m : Int) := by omega
    have i2 : (m : Int) ≤ (n : Int) := by omega
    by_cases h2 : ((S.extract 0 m).toList == W.toList) = true
    · go_enter Tryd.func84, Tryd.ntmps84
      go_wp2_with fail
      refine (HZ.out _ (by omega)).mono ?_
      rintro e w2 ⟨rfl, m2, rfl⟩
      have hr : Hid (rz = zscanR (S.extract m n).data.toList) := HR.out.trans (if_pos ⟨by omega, h2⟩)
      rw [← hr.out]
      unfold RZ
      go_wp2_with fail
      go_ret3
      exact ⟨rfl, _, rfl⟩
    · have hr : Hid (rz = none) := HR.out.trans (if_neg fun h => h2 h.2)
      have i3 : ((S.extract 0 m).toList == W.toList) = false := by simpa using h2
      clear h2
      go_enter Tryd.func84, Tryd.ntmps84
      go_wp2_with fail
      go_ret3
      exact ⟨by rw [hr.out]; rfl, 0, rfl⟩
theorem zstep_any (s word : Bs) (hs : s.length ≤ 281474976710656) (w : World) : Calls Tryd.prog 84 #[SV s, SV word] w fun e w' => e = .returned (RZ (zstepR s word)) ∧ ∃ m, w' = w.drewN m := by
  have e1 : ((⟨s.toArray⟩ : ByteArray).extract word.length s.length).data.toList = s.drop word.length := by
    rw [sv_ext]
    show (s.drop word.length).take (s.length - word.length) = _
    rw [List.take_of_length_le (by rw [List.length_drop]; exact Nat.le_refl _)]
  have e0 : ((⟨s.toArray⟩ : ByteArray).extract word.length s.length) = ⟨(s.drop word.length).toArray⟩ := by
    rw [sv_ext, List.take_of_length_le (by rw [List.length_drop]; exact Nat.le_refl _)]
  refine zstep_core ⟨s.toArray⟩ ⟨word.toArray⟩ s.length word.length (zstepR s word) rfl rfl hs ?_ ?_ w
  · intro u _
    rw [e1, e0]
    exact zscan_any _ (by rw [List.length_drop]; omega) u
  · rw [e1]
    unfold zstepR
    have e2 : (word.isPrefixOf s = true) ↔ (word.length ≤ s.length ∧ (((⟨s.toArray⟩ : ByteArray).extract 0 word.length).toList == (⟨word.toArray⟩ : ByteArray).toList) = true) := by
      rw [Lib.toList_data, Lib.toList_data, sv_ext, beq_iff_eq]
      show _ ↔ _ ∧ (s.drop 0).take (word.length - 0) = word
      rw [List.drop_zero, Nat.sub_zero, List.isPrefixOf_iff_prefix]
      constructor
      · rintro ⟨t, rfl⟩
        exact ⟨by simp, List.take_left⟩
      · rintro ⟨h1, h2⟩
        exact ⟨s.drop word.length, by conv => lhs; lhs; rw [← h2]
                                      exact List.take_append_drop _ _⟩
    by_cases h : word.isPrefixOf s = true
    · rw [if_pos h, if_pos (e2.1 h)]
    · rw [if_neg h, if_neg (fun g => h (e2.2 g))]
end Go.Proofs.YtmibifmabkaakaaDoor
