/- The reference's VSums walked: it calls itself, and keeps what it had in a map. No condition. -/
import Derived.Test.YtakjcodfcoaadabUrnQ
import Derived.Test.YtakjcodfcoaadabMapI
import Derived.Maps.OwnSet
import Derived.WalkArith
import Derived.IntWalk
namespace Go.Proofs.Ytakjcodfcoaadab
open Go.ChangeShapes Go.WideShapes Go.ChangeAt Go.RowKit Go.Maps Go.WideMaps

theorem keyOf_three {P : Program} {k e : TypeId} {q : IntKind} (A : ArrKey P k e 3) (he : P.underlying e = some (.int q)) (hsz : ∃ m, P.types.size = m + 1) {a b c : Int} (wa : (Lit.int q a).wf = true) (wb : (Lit.int q b).wf = true) (wc : (Lit.int q c).wf = true) :
    ∃ kl, keyOf P k (.agg #[.int q a, .int q b, .int q c]) = some kl := by
  have hkt := A.keyType hsz
  obtain ⟨m, hm⟩ := hsz
  refine ⟨.string (keyBytes [.int q a, .int q b, .int q c]), ?_⟩
  unfold keyOf
  simp only [A.hu]
  rw [if_pos (by simp [hkt, Value.formed, A.hu, A.size]), hm]
  unfold Program.keyLits
  simp only [A.hu, Value.cells]
  rw [if_pos (by rw [A.size]; rfl), show List.range 3 = [0, 1, 2] from rfl, List.mapM_cons, List.mapM_cons, List.mapM_cons, List.mapM_nil]
  simp [A.one, Program.keyLits, he, wa, wb, wc]
theorem arr3 : ArrKey Try.prog 76 3 3 := ⟨Try.underlying76, by kernel_rfl, by kernel_rfl, by kernel_rfl⟩
theorem key3 : Keyed Try.prog 76 := Keyed.of_law arr3.law
theorem key3_at (a b c : Int) (h1 : -9223372036854775808 ≤ a ∧ a ≤ 9223372036854775807) (h2 : -9223372036854775808 ≤ b ∧ b ≤ 9223372036854775807) (h3 : -9223372036854775808 ≤ c ∧ c ≤ 9223372036854775807) : ∃ kl, keyOf Try.prog 76 (.agg #[.int .i64 a, .int .i64 b, .int .i64 c]) = some kl :=
  keyOf_three arr3 Try.underlying3 ⟨_, rfl⟩ (WalkArith.wf_i64 h1) (WalkArith.wf_i64 h2) (WalkArith.wf_i64 h3)

theorem grown_refl (w : World) (row : Option Nat) : w.grownBy w row := ⟨rfl, rfl, rfl, Nat.le_refl _, fun _ _ _ => rfl⟩
/-- What the map remembers is right. -/
def Memo (w : World) (b n : Nat) (good : Value → Int → Prop) : Prop :=
  ∃ D : DataW Unit, w.ownsMap Try.prog 76 (plainElem Try.prog 3) b n D ∧ IsMap D ∧
    ∀ key kl c, keyOf Try.prog 76 key = some kl → Maps.has D kl = true → D.atKey kl (.lit (.int .i64 0)) = .lit (.int .i64 c) → good key c
section
variable {w w' : World} {b n : Nat} {good : Value → Int → Prop}
theorem Memo.made (w : World) (good : Value → Int → Prop) : Memo (w.alloc (.map #[] 0)) w.heap.size 0 good := ⟨_, World.ownsMap_made _ _ _ _, isMap_empty, fun _ _ _ _ h => by simp [has_eq] at h⟩
theorem Memo.drew (h : Memo w b n good) : Memo w.drew b n good := h
theorem Memo.alloc (h : Memo w b n good) (o : Obj) : Memo (w.alloc o) b n good := by
  obtain ⟨D, h1, h2⟩ := h
  exact ⟨D, h1.alloc o, h2⟩
theorem Memo.kept (h : Memo w b n good) {row : Option Nat} (hg : w.grownBy w' row) (hne : some b ≠ row) : Memo w' b n good := by
  obtain ⟨D, h1, h2⟩ := h
  exact ⟨D, h1.kept hg hne, h2⟩
theorem Memo.lt (h : Memo w b n good) : b < w.heap.size := by
  obtain ⟨D, h1, _⟩ := h
  exact h1.lt
theorem Memo.mono (h : Memo w b n good) {m : Nat} (hm : n ≤ m) : Memo w b m good := by
  obtain ⟨D, h1, h2⟩ := h
  exact ⟨D, h1.mono hm, h2⟩
theorem wpList_memo_look (w : World) {ops : Array Oper} {rest : List Oper} {o : Oper} {a : Act} {Q : Exit → Act → World → Prop}
    (hg : o.guard = none) (m x : Operand) (t : TypeId) (hop : o.op = Op.lookup t m x true) (ht : Try.prog.underlying t = some (.map 76 3)) (b n : Nat) (good : Value → Int → Prop)
    (hm : a.eval m = .map (some b)) (h : Memo w b n good) (key : Value) (hx : a.eval x = key) (hk : ∃ kl, keyOf Try.prog 76 key = some kl)
    (hK : ∀ (c : Int) (ok : Bool), Hid (ok = true → good key c) → wpList Try.prog ops Q rest (a.put o.dst (.tuple #[.int .i64 c, .bool ok])) w) : wpList Try.prog ops Q (o :: rest) a w := by
  obtain ⟨D, h1, h2, h3⟩ := h
  obtain ⟨kl, hkl⟩ := hk
  refine wpList_lookup_own_ok_int (H := Unit) w hg m x t hop 76 3 .i64 key3 ht Try.underlying3 (by kernel_rfl) b n D hm h1 key kl hx hkl fun c hat _ => hK c _ fun hh => h3 key kl c hkl hh hat
theorem wpList_memo_store (w : World) {ops : Array Oper} {rest : List Oper} {o : Oper} {a : Act} {Q : Exit → Act → World → Prop}
    (hg : o.guard = none) (m x v : Operand) (t : TypeId) (hop : o.op = Op.mapUpdate t m x v) (ht : Try.prog.underlying t = some (.map 76 3)) (b n : Nat) (good : Value → Int → Prop)
    (hm : a.eval m = .map (some b)) (h : Memo w b n good) (hn : n < maxLen) (key : Value) (c : Int) (hx : a.eval x = key) (hv : a.eval v = .int .i64 c) (hk : ∃ kl, keyOf Try.prog 76 key = some kl) (hc : (Lit.int .i64 c).wf = true)
    (h1 : good key c)
    (hK : ∀ w', Memo w' b (n + 1) good → w.grownBy w' (some b) → wpList Try.prog ops Q rest (a.put o.dst undef) w') : wpList Try.prog ops Q (o :: rest) a w := by
  refine wpList_plain hg fun K' hK' => ?_
  obtain ⟨D, hD, hm2, h3⟩ := h
  obtain ⟨kl, hkl⟩ := hk
  obtain ⟨w', hrun, ho, hgr⟩ := hD.update key3 ht hn hkl (plainElem_int Try.underlying3 hc)
  unfold Oper.wp
  simp [execOp, hop, hm, hx, hv, hrun, Result.andThen]
  refine hK' _ _ (hK w' ⟨_, ho, ?_, fun y yl d hy hh hat => ?_⟩ hgr)
  · obtain ⟨es, rfl⟩ := hm2
    exact ⟨_, DataW.put_eq ..⟩
  · by_cases e1 : y = key
    · subst e1
      rw [hkl] at hy
      injection hy with hy
      subst hy
      rw [atKey_put_same hm2 (key3.key hkl)] at hat
      injection hat with hat
      injection hat with _ hat
      rw [← hat]; exact h1
    · have hne : yl ≠ kl := fun e2 => e1 (key3.inj hy (by rw [e2]; exact hkl))
      rw [atKey_put_other hne] at hat
      rw [has_put_other hne] at hh
      exact h3 y yl d hy hh hat
end
/-- What VSums remembers. -/
def vgood : Value → Int → Prop := fun key c => ∀ n k m : Nat, key = .agg #[.int .i64 n, .int .i64 k, .int .i64 m] → c = (vs k n m : Nat)
theorem vgood_mk (n k m : Nat) (c : Int) (h : c = (vs k n m : Nat)) : vgood (.agg #[.int .i64 n, .int .i64 k, .int .i64 m]) c := by
  intro n' k' m' e
  injection e with e
  simp at e
  obtain ⟨e1, e2, e3⟩ := e
  obtain rfl : n = n' := by omega
  obtain rfl : k = k' := by omega
  obtain rfl : m = m' := by omega
  exact h
theorem ret_vs {a b : Int} (h : a = b) : Ending.returned (.int .i64 a) = .returned (.int .i64 b) := by rw [h]
/-- What a call of VSums leaves. -/
def VLeft (w : World) (b m : Nat) (w' : World) : Prop := Memo w' b m vgood ∧ w.grownBy w' (some b)
set_option maxRecDepth 20000 in
set_option maxHeartbeats 2000000 in
theorem vsums_any (K : Nat) : ∀ (N M m : Nat) (b : Nat) (w : World), Memo w b m vgood → N ≤ 60 → K ≤ 60 → M ≤ 60 → m + 2 ^ N ≤ 2305843009213693952 →
    Calls Try.prog 41 #[.int .i64 N, .int .i64 K, .int .i64 M, .map (some b)] w fun e w' => e = .returned (.int .i64 (vs K N M : Nat)) ∧ ∃ m', m' ≤ m + 2 ^ N ∧ VLeft w b m' w' := by
  induction K with
  | zero =>
    intro N M m b w hm hN hK hM hs
    have HM := Lib.hid hm
    clear hm hs
    by_cases h : N = 0
    · subst h
      have hf : Hid (vs 0 0 M = 1) := rfl
      go_enter Try.func41, Try.ntmps41
      go_wp2
      go_ret
      exact ⟨ret_vs (by rw [hf.out]; rfl), m, Nat.le_add_right _ _, HM.out, grown_refl _ _⟩
    · have hf : Hid (vs 0 N M = 0) := if_neg h
      have d1 : ((N : Int) == 0) = false := by simp; omega
      clear h
      go_enter Try.func41, Try.ntmps41
      go_wp2
      go_ret
      exact ⟨ret_vs (by rw [hf.out]; rfl), m, Nat.le_add_right _ _, HM.out, grown_refl _ _⟩
  | succ K ih =>
    intro N M m b w hm hN hK hM hs
    have HM := Lib.hid hm
    have HS := Lib.hid hs
    have IH := Lib.hid ih
    clear hm hs ih
    go_enter Try.func41, Try.ntmps41
    have hkey := key3_at N ((K : Int) + 1) M (by omega) (by omega) (by omega)
    have HK := Lib.hid hkey
    clear hkey
    have d0 : ((K : Int) + 1 == 0) = false := by simp; omega
    have ek : ((K + 1 : Nat) : Int) = (K : Int) + 1 := by omega
    rw [ek]
    have hbl := HM.out.lt
    have HBL := Lib.hid hbl
    clear hbl
    go_wp2_with (at_lookup; go_must (refine wpList_memo_look _ rfl _ _ _ rfl Try.underlying54 b m vgood rfl (HM.out.alloc _) (.agg #[.int .i64 N, .int .i64 ((K : Int) + 1), .int .i64 M]) rfl HK.out ?_); intro c ok hgood; cases ok)
    · go_loopw [13, 12] (fun s5 s4 wr => ∃ (g m1 : Nat), g ≤ M ∧ g ≤ N ∧ s5 = .int .i64 ((g : Int) + 1) ∧ s4 = .int .i64 (sumto (fun g => if g ≤ N then vs K (N - g) g else 0) g : Nat) ∧ m1 + 2 ^ (N - g) ≤ m + 2 ^ N ∧ VLeft w b m1 wr ∧ Blk wr w.heap.size 76 #[.int .i64 N, .int .i64 ((K : Int) + 1), .int .i64 M]) (fun s5 _ _ => N + 1 - (intOf s5).toNat)
      case atStart => exact ⟨0, m, Nat.zero_le _, Nat.zero_le _, rfl, rfl, Nat.le_refl _, ⟨HM.out.alloc _, World.grownBy_alloc _ _ _⟩, Blk.new _ _ _⟩
      case round =>
        obtain ⟨g, m1, hgM, hgN, rfl, rfl, hm1, hv, hblk⟩ := hrel
        have H1 := Lib.hid hm1
        have HV := Lib.hid hv
        have HB := Lib.hid hblk
        have b1 := vs_part K N M g hgM
        have b2 : 2 ^ N ≤ 1152921504606846976 := Nat.pow_le_pow_right (n := 2) (by decide) hN
        have b3 : sumto (fun g => if g ≤ N then vs K (N - g) g else 0) g ≤ 1152921504606846976 := by omega
        clear hm1 hv hblk b1
        by_cases c1 : g < M
        · have d1 : decide ((g : Int) + 1 ≤ (M : Int)) = true := decide_eq_true (by omega)
          by_cases c2 : g < N
          · have d2 : decide ((g : Int) + 1 ≤ (N : Int)) = true := decide_eq_true (by omega)
            go_wp2_with fail
            have hI := IH.out (N - (g + 1)) (g + 1) m1 b _ HV.out.1 (by omega) (by omega) (by omega) (by have := H1.out; have : 2 ^ (N - (g + 1)) ≤ 2 ^ (N - g) := Nat.pow_le_pow_right (by decide) (by omega); have := HS.out; omega)
            rw [show ((N - (g + 1) : Nat) : Int) = (N : Int) - ((g : Int) + 1) by omega, show ((g + 1 : Nat) : Int) = (g : Int) + 1 by omega] at hI
            have HI := Lib.hid hI
            clear hI
            have HX : Hid (sumto (fun g => if g ≤ N then vs K (N - g) g else 0) (g + 1) = sumto (fun g => if g ≤ N then vs K (N - g) g else 0) g + vs K (N - (g + 1)) (g + 1)) := by unfold Hid; rw [sumto_succ]; simp only [if_pos (show g + 1 ≤ N by omega)]
            have b4 : vs K (N - (g + 1)) (g + 1) ≤ 1152921504606846976 := vs_small (by omega)
            refine HI.out.mono ?_
            rintro e w1 ⟨rfl, m2, hm2, hv2⟩
            have HM2 := Lib.hid hm2
            have HV2 := Lib.hid hv2
            clear hm2 hv2
            generalize hx : vs K (N - (g + 1)) (g + 1) = x at *
            generalize hy : sumto (fun g => if g ≤ N then vs K (N - g) g else 0) g = y at *
            clear hx hy
            go_wp2_with fail
            go_roundw
            case rel =>
              refine ⟨g + 1, m2, by omega, by omega, by go_num, by rw [HX.out]; rfl, ?_, ⟨HV2.out.1, HV.out.2.trans HV2.out.2⟩, HB.out.grown HV2.out.2 (by have := HBL.out; omega)⟩
              have h1 := HM2.out
              have h2 := H1.out
              have h3 : 2 ^ (N - g) = 2 ^ (N - (g + 1)) + 2 ^ (N - (g + 1)) := by rw [show N - g = N - (g + 1) + 1 by omega, Nat.pow_succ]; omega
              omega
            case measure => simp [intOf]; omega
          · obtain rfl : g = N := by omega
            have d2 : decide ((g : Int) + 1 ≤ (g : Int)) = false := decide_eq_false (by omega)
            have HE : Hid (sumto (fun x => if x ≤ g then vs K (g - x) x else 0) g = vs (K + 1) g M) := by
              unfold Hid; rw [vs_succ]; exact (sumto_more (by omega) fun i h1 _ => if_neg (by omega)).symm
            generalize hy : sumto _ g = y at *
            have HZ : Hid (m1 + 1 ≤ m + 2 ^ g) := by
              have h1 := H1.out
              have h2 : 0 < 2 ^ (g - g) := Nat.pow_pos (by decide)
              unfold Hid; omega
            have HY := Lib.hid hy
            clear hy
            have hkk := HB.out
            go_wp2_with (first
              | ((refine wpList_load_blk rfl _ _ rfl w.heap.size rfl 76 #[.int .i64 g, .int .i64 ((K : Int) + 1), .int .i64 M] _ HB.out Try.underlying76 rfl (by kernel_rfl) ?_))
              | (at_mapUpdate; go_must (refine wpList_memo_store _ rfl _ _ _ _ rfl Try.underlying54 b m1 vgood rfl HV.out.1 (by unfold maxLen; have := HZ.out; have := HS.out; omega) _ y rfl rfl HK.out (WalkArith.wf_i64 (by omega)) (vgood_mk g (K + 1) M _ (by rw [HE.out])) ?_); intro w3 h31 h32; have H31 := Lib.hid h31; have H32 := Lib.hid h32; clear h31 h32)
              | fail)
            go_ret
            exact ⟨ret_vs (by rw [HE.out]), m1 + 1, HZ.out, H31.out, HV.out.2.trans H32.out⟩
        · obtain rfl : g = M := by omega
          have d1 : decide ((g : Int) + 1 ≤ (g : Int)) = false := decide_eq_false (by omega)
          have HE : Hid (sumto (fun x => if x ≤ N then vs K (N - x) x else 0) g = vs (K + 1) N g) := rfl
          generalize hy : sumto _ g = y at *
          have HZ : Hid (m1 + 1 ≤ m + 2 ^ N) := by
            have h1 := H1.out
            have h2 : 0 < 2 ^ (N - g) := Nat.pow_pos (by decide)
            unfold Hid; omega
          have HY := Lib.hid hy
          clear hy
          have hkk := HB.out
          go_wp2_with (first
            | ((refine wpList_load_blk rfl _ _ rfl w.heap.size rfl 76 #[.int .i64 N, .int .i64 ((K : Int) + 1), .int .i64 g] _ HB.out Try.underlying76 rfl (by kernel_rfl) ?_))
            | (at_mapUpdate; go_must (refine wpList_memo_store _ rfl _ _ _ _ rfl Try.underlying54 b m1 vgood rfl HV.out.1 (by unfold maxLen; have := HZ.out; have := HS.out; omega) _ y rfl rfl HK.out (WalkArith.wf_i64 (by omega)) (vgood_mk N (K + 1) g _ (by rw [HE.out])) ?_); intro w3 h31 h32; have H31 := Lib.hid h31; have H32 := Lib.hid h32; clear h31 h32)
            | fail)
          go_ret
          exact ⟨ret_vs (by rw [HE.out]), m1 + 1, HZ.out, H31.out, HV.out.2.trans H32.out⟩
    · go_ret
      exact ⟨ret_vs (hgood.out (by trivial) N (K + 1) M (by rw [show ((K + 1 : Nat) : Int) = (K : Int) + 1 by omega])), m, Nat.le_add_right _ _, HM.out.alloc _, World.grownBy_alloc _ _ _⟩
end Go.Proofs.Ytakjcodfcoaadab
