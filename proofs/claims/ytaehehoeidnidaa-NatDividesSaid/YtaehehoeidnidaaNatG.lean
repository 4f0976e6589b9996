/- Words divided by a word: plain; nat.Div, walked. No condition but that the words are words. -/
import Derived.Test.YtaehehoeidnidaaNatF
import Derived.Test.YtaehehoeidnidaaNatX
namespace Go.Proofs.Ytaehehoeidnidaa
open Go.ChangeShapes Go.WideShapes Go.ChangeAt Go.RowKit
set_option linter.unusedVariables false

theorem div64_any (hi lo y : Nat) (w : World) (hy : hi < y) (hyb : y < 18446744073709551616) (hl : lo < 18446744073709551616) :
    Calls Try.prog 138 #[u64v hi, u64v lo, u64v y] w fun e w' => e = .returned (.tuple #[u64v ((hi * 18446744073709551616 + lo) / y), u64v ((hi * 18446744073709551616 + lo) % y)]) ∧ ∃ m, w' = w.drewN m := by
  rcases Nat.eq_zero_or_pos hi with h | h
  · subst h
    have := div64_low lo y w (by omega) hl
    rw [Nat.zero_mul, Nat.zero_add]
    exact this
  · exact div64_high hi lo y w h hy hyb hl
def WInv (f out : Nat → Nat) (y N K r : Nat) : Prop := gok out N ∧ (∀ i, i < K → out i = 0) ∧ r < y ∧ y * gv out N + r * wB ^ K + gv f K = gv f N
section
variable {f out : Nat → Nat} {y N k r : Nat}
theorem WInv.first (f : Nat → Nat) (N : Nat) (hy : 0 < y) : WInv f (fun _ => 0) y N N 0 := ⟨fun _ _ => (show 0 < wB by decide), fun _ _ => rfl, hy, by rw [gv_zero fun _ _ => rfl]; simp⟩
theorem WInv.step (h : WInv f out y N (k + 1) r) (hk : k < N) (hf : f k < 18446744073709551616) :
    (r * 18446744073709551616 + f k) / y < 18446744073709551616 ∧ WInv f (upd out k ((r * 18446744073709551616 + f k) / y)) y N k ((r * 18446744073709551616 + f k) % y) := by
  obtain ⟨h1, h2, h3, h4⟩ := h
  have h5 : (r * 18446744073709551616 + f k) / y < 18446744073709551616 := by
    rw [Nat.div_lt_iff_lt_mul (by omega)]
    have : (r + 1) * 18446744073709551616 ≤ y * 18446744073709551616 := Nat.mul_le_mul_right _ h3
    omega
  refine ⟨h5, updw_ok h1 h5, fun i hi => ?_, Nat.mod_lt _ (by omega), ?_⟩
  · rw [upd_other (by omega)]; exact h2 i (by omega)
  · have e2 := upd_gv (h := out) (v := (r * 18446744073709551616 + f k) / y) hk
    rw [h2 k (by omega), Nat.zero_mul, Nat.add_zero] at e2
    rw [← h4, e2, wp_succ']
    show _ = _ + (gv f k + f k * wB ^ k)
    have e3 := Nat.div_add_mod (r * 18446744073709551616 + f k) y
    generalize (r * 18446744073709551616 + f k) / y = q at *
    generalize (r * 18446744073709551616 + f k) % y = r' at *
    have e4 : (y * q + r') * wB ^ k = (r * 18446744073709551616 + f k) * wB ^ k := by rw [e3]
    rw [Nat.add_mul, Nat.add_mul, Nat.mul_assoc, Nat.mul_assoc r, Nat.mul_comm 18446744073709551616 (wB ^ k)] at e4
    rw [Nat.mul_add]
    omega
theorem WInv.last (h : WInv f out y N 0 r) : gv out N = gv f N / y ∧ r = gv f N % y := by
  obtain ⟨h1, h2, h3, h4⟩ := h
  have e : y * gv out N + r = gv f N := by rw [← h4]; simp [gv]
  rw [← e, Nat.mul_add_div (by omega), Nat.div_eq_of_lt h3, Nat.mul_add_mod, Nat.mod_eq_of_lt h3]
  exact ⟨rfl, rfl⟩
end
set_option maxRecDepth 20000 in
set_option maxHeartbeats 1000000 in
theorem ndiv_form (A : Option Addr) (a : List Nat) (b c B : Nat) (w : World) (hs : Seg w B A (u64s a)) (h : ¬ nright a) :
    Calls Try.prog 65 #[.slice A a.length c, u64v b] w fun e w' => e = .returned (.tuple #[.slice none 0 0, u64v 0, .int .i64 1]) ∧ w' = w := by
  have HR := Lib.hid (nright_any A a c B w hs)
  rw [decide_eq_false h] at HR
  clear hs h
  go_enter Try.func65, Try.ntmps65
  go_wp2_with fail
  refine HR.out.mono ?_
  rintro e w1 ⟨rfl, rfl⟩
  go_wp2_with fail
  go_ret3
  exact ⟨rfl, rfl⟩
set_option maxRecDepth 20000 in
set_option maxHeartbeats 1000000 in
theorem ndiv_zero (A : Option Addr) (a : List Nat) (c B : Nat) (w : World) (hs : Seg w B A (u64s a)) (h : nright a) :
    Calls Try.prog 65 #[.slice A a.length c, u64v 0] w fun e w' => e = .returned (.tuple #[.slice none 0 0, u64v 0, .int .i64 2]) ∧ w' = w := by
  have HR := Lib.hid (nright_any A a c B w hs)
  rw [decide_eq_true h] at HR
  clear hs h
  go_enter Try.func65, Try.ntmps65
  go_wp2_with fail
  refine HR.out.mono ?_
  rintro e w1 ⟨rfl, rfl⟩
  go_wp2_with fail
  go_ret3
  exact ⟨rfl, rfl⟩
set_option maxRecDepth 20000 in
set_option maxHeartbeats 4000000 in
theorem ndiv_ok (A : Option Addr) (a : List Nat) (b c : Nat) (w : World) (hs : Seg w w.heap.size A (u64s a)) (ka : wok a) (ra : nright a) (h0 : 0 < b) (hb : b < 18446744073709551616) :
    Calls Try.prog 65 #[.slice A a.length c, u64v b] w fun e w' => ∃ A' c', e = .returned (.tuple #[.slice A' (wd (nv a / b)).length c', u64v (nv a % b), .int .i64 0]) ∧ Seg w' w'.heap.size A' (u64s (wd (nv a / b))) ∧ Below w.heap.size w w' := by
  have HS := Lib.hid hs
  have HRa := Lib.hid (nright_any A a c w.heap.size w hs)
  rw [decide_eq_true ra] at HRa
  have la : a.length ≤ 64 := ra.1
  have HK := Lib.hid (And.intro ka (And.intro la (And.intro h0 hb)))
  have b0 : ((b : Int) == 0) = false := by simp; omega
  have i0 : ¬ (b : Int) = 0 := by omega
  have uL : Hid (wrap64 ((a.length : Int) - 1) = (a.length : Int) - 1) := by unfold Hid wrap64; omega
  have hmk := run_make_row' (P := Try.prog) 51 tQ (.int .u64 0) 8 Try.underlying51 (by kernel_rfl) rfl .i64 .i64 a.length (by omega) (by omega)
  have uL2 := uL.out
  clear hs ka ra h0 hb
  go_enter Try.func65, Try.ntmps65
  go_wp2_with fail
  refine HRa.out.mono ?_
  rintro e w1 ⟨rfl, rfl⟩
  go_wp2_with fail
  --LOOK1
  clear hmk uL2 b0 i0
  go_loopw [8, 9] (fun s8 s9 wr => ∃ (n r : Nat) (h : Nat → Nat), n ≤ a.length ∧ s9 = .int .i64 ((n : Int) - 1) ∧ s8 = u64v r ∧ Hid (WInv (wo a) h b a.length n r) ∧ wr.rowIs w1.heap.size tQ a.length (fun k => u64v (h k)) ∧ Below w1.heap.size w1 wr) (fun _ s9 _ => (intOf s9 + 1).toNat)
  case atStart => exact ⟨a.length, 0, fun _ => 0, Nat.le_refl _, by first | rfl | rw [uL.out], rfl, WInv.first _ _ HK.out.2.2.1, (World.rowIs_made w1 (.int .u64 0) a.length tQ).congr (fun _ _ => rfl), (Below.refl _ _).alloc (Nat.le_refl _) _⟩
  case round =>
    obtain ⟨n, r, h, hn, rfl, rfl, hi, hrow, hbel⟩ := hrel
    have HR := Lib.hid hrow
    have HB := Lib.hid hbel
    cases n with
    | zero =>
      have hl := hi.out.last
      rw [nv_gv (Nat.le_refl _)] at hl
      have hv : nv (fl h a.length) = nv a / b := by rw [nv_fl]; exact hl.1
      have hok := wok_fl hi.out.1
      have hsg := gok_row hrow
      have hln : (fl h a.length).length = a.length := fl_len _ _
      have h1 := take_wlen hok
      rw [hv] at h1
      have h2 : (wd (nv a / b)).length = wlen (fl h a.length) (fl h a.length).length := by
        rw [← h1]; have := wlen_le (fl h a.length) (fl h a.length).length; simp; omega
      have HSG := Lib.hid hsg
      have HTW := Lib.hid (trim_words (some ⟨w1.heap.size, 0, none⟩) (fl h a.length) a.length wr.heap.size wr hsg (by rw [hln]; exact Nat.le_refl _) (by rw [hln]; omega))
      have HW := Lib.hid (And.intro h1 (And.intro h2 hl.2))
      rw [hln] at HTW
      have HL := Lib.hid hln
      clear hrow hbel hv hok hsg hln h1 h2 hl
      go_wp2_with fail
      refine HTW.out.mono ?_
      rintro e u1 ⟨rfl, m, rfl⟩
      have h2 := HW.out.2.1
      rw [HL.out] at h2
      rw [← h2, HW.out.2.2]
      clear h2
      go_wp2_with fail
      go_ret3
      refine ⟨some ⟨w1.heap.size, 0, none⟩, _, rfl, ?_, below_drewN HB.out _⟩
      have h3 := HSG.out.pre (wlen (fl h a.length) (fl h a.length).length)
      rw [← List.map_take, HW.out.1] at h3
      exact h3
    | succ k =>
      obtain ⟨ad, rfl, hab, hca0⟩ := HS.out.wo (k := k) (by omega)
      have hca := (hbel.cell (block_lt hca0)).trans hca0
      have e1 : ((k + 1 : Nat) : Int) - 1 = (k : Int) := by omega
      rw [e1]
      have i0 : (k : Int) < (a.length : Int) := by omega
      have hwk : wo a k < 18446744073709551616 := HK.out.1.all k
      obtain ⟨hq, hst⟩ := hi.out.step (show k < a.length by omega) hwk
      have hf := hrow.frozen k
      have ho := hrow.cell (show k < a.length by omega)
      have HDV := Lib.hid (fun u => div64_any r (wo a k) b u hi.out.2.2.1 HK.out.2.2.2 hwk)
      obtain ⟨Q, hQ⟩ : ∃ z, z = (r * 18446744073709551616 + wo a k) / b := ⟨_, rfl⟩
      obtain ⟨R, hR⟩ : ∃ z, z = (r * 18446744073709551616 + wo a k) % b := ⟨_, rfl⟩
      rw [← hQ, ← hR] at HDV hst
      obtain ⟨y, hy⟩ : ∃ z, z = wo a k := ⟨_, rfl⟩
      rw [← hy] at HDV hca
      have HST := Lib.hid hst
      have HCA := Lib.hid (And.intro hca0 hn)
      have uk : Hid (wrap64 ((k : Int) - 1) = (k : Int) - 1) := by have := HK.out; unfold Hid wrap64; omega
      have huk := uk.out
      clear hst hca0 hn hq hQ hR hy hwk e1 hi hbel
      go_wp2_with fail
      refine (HDV.out _).mono ?_
      rintro e u1 ⟨rfl, m, rfl⟩
      have hf2 : (wr.drewN m).frozen? ⟨w1.heap.size, k, none⟩ = false := hf
      have ho2 : (wr.drewN m).cell? ⟨w1.heap.size, k, none⟩ = some (u64v (h k)) := ho
      clear hf ho
      go_wp2_with fail
      --LOOK2
      go_roundw
      case rel =>
        refine ⟨k, R, _, by have := HCA.out.2; omega, by first | rfl | rw [uk.out], rfl, HST, ((rowIs_drewN HR.out m).set k _).congr (fun i _ => ?_), (below_drewN HB.out m).setCell (Nat.le_refl _) _⟩
        by_cases h1 : i = k
        · subst h1; rw [if_pos rfl, upd_same]
        · rw [if_neg h1, upd_other h1]
      case measure => (try rw [uk.out]); simp [intOf]
end Go.Proofs.Ytaehehoeidnidaa
