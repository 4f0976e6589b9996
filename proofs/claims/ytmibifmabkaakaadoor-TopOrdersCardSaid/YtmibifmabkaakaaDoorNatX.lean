/- Words multiplied: plain; nat.Mul, walked. No condition but that the words are words. -/
import Derived.Test.YtmibifmabkaakaaDoorNatU
import Derived.Test.YtmibifmabkaakaaDoorBigX
namespace Go.Proofs.YtmibifmabkaakaaDoor
open Go.ChangeShapes Go.WideShapes Go.ChangeAt Go.RowKit
set_option linter.unusedVariables false

theorem wp_succ' (n : Nat) : wB ^ (n + 1) = wB ^ n * 18446744073709551616 := wp_succ n
theorem gv_zero {g : Nat → Nat} {n : Nat} (h : ∀ i, i < n → g i = 0) : gv g n = 0 := by
  rw [gv_cut (k := 0) (fun i _ hi => h i hi) (Nat.zero_le _)]; rfl
theorem updw_ok {h : Nat → Nat} {k v n : Nat} (hh : gok h n) (hv : v < wB) : gok (upd h k v) n := fun i hi => by
  unfold upd; split
  · exact hv
  · exact hh i hi
theorem upd_gv {h : Nat → Nat} {k v n : Nat} (hk : k < n) : gv (upd h k v) n + h k * (wB ^ k) = gv h n + v * (wB ^ k) := by
  have := gv_upd (g := h) (f := upd h k v) hk (fun i _ hne => upd_other hne)
  rw [upd_same] at this; exact this
/-- How the product stands, behind i rows and j places of the next one. -/
def NInv (f g h : Nat → Nat) (m N i j c : Nat) : Prop :=
  gok h N ∧ (∀ k, i + m ≤ k → h k = 0) ∧ c < 18446744073709551616 ∧ gv h N + c * (wB ^ (i + j)) = gv f i * gv g m + f i * gv g j * (wB ^ i)
/-- .. between two rows. -/
def NRow (f g h : Nat → Nat) (m N i : Nat) : Prop := gok h N ∧ (∀ k, i + m ≤ k → h k = 0) ∧ gv h N = gv f i * gv g m
section
variable {f g h : Nat → Nat} {m N i j c : Nat}
theorem NRow.first (f g : Nat → Nat) (m N : Nat) : NRow f g (fun _ => 0) m N 0 := ⟨fun _ _ => (show 0 < wB by decide), fun _ _ => rfl, by rw [gv_zero fun _ _ => rfl]; simp [gv]⟩
theorem NRow.begin (h1 : NRow f g h m N i) : NInv f g h m N i 0 0 := ⟨h1.1, h1.2.1, by decide, by rw [h1.2.2]; simp [gv]⟩
theorem NInv.sum_lt (h1 : NInv f g h m N i j c) (hf : f i < 18446744073709551616) (hg : g j < 18446744073709551616) (hk : i + j < N) : c + (f i * g j + h (i + j)) < 340282366920938463463374607431768211456 := by
  have h2 : h (i + j) < 18446744073709551616 := h1.1 (i + j) hk
  have h3 := h1.2.2.1
  have h4 : f i * g j ≤ 18446744073709551615 * 18446744073709551615 := Nat.mul_le_mul (by omega) (by omega)
  omega
theorem NInv.step (h1 : NInv f g h m N i j c) (hj : j < m) (hk : i + j < N) (hb : c + (f i * g j + h (i + j)) < 340282366920938463463374607431768211456) :
    NInv f g (upd h (i + j) ((c + (f i * g j + h (i + j))) % 18446744073709551616)) m N i (j + 1) ((c + (f i * g j + h (i + j))) / 18446744073709551616) := by
  obtain ⟨h2, h3, h4, h5⟩ := h1
  generalize hs : c + (f i * g j + h (i + j)) = s at *
  refine ⟨updw_ok h2 (Nat.mod_lt _ (by decide)), fun k hk2 => ?_, by omega, ?_⟩
  · rw [upd_other (by omega)]; exact h3 k hk2
  · have e1 := upd_gv (h := h) (v := s % 18446744073709551616) hk
    have e2 : s * (wB ^ (i + j)) = s % 18446744073709551616 * (wB ^ (i + j)) + s / 18446744073709551616 * (wB ^ (i + (j + 1))) := by
      rw [show i + (j + 1) = i + j + 1 by omega, wp_succ']
      have := Nat.div_add_mod s 18446744073709551616
      generalize s / 18446744073709551616 = q at *
      generalize s % 18446744073709551616 = r at *
      subst this
      rw [Nat.add_mul, Nat.mul_comm 18446744073709551616 q, Nat.mul_assoc q, Nat.mul_comm 18446744073709551616 ((wB ^ (i + j)))]
      omega
    have e3 : s * (wB ^ (i + j)) = c * (wB ^ (i + j)) + (f i * g j * (wB ^ (i + j)) + h (i + j) * (wB ^ (i + j))) := by rw [← hs, Nat.add_mul, Nat.add_mul]
    have e4 : f i * gv g (j + 1) * (wB ^ i) = f i * gv g j * (wB ^ i) + f i * g j * (wB ^ (i + j)) := by
      show f i * (gv g j + g j * (wB ^ j)) * (wB ^ i) = _
      rw [Nat.mul_add, Nat.add_mul, Nat.pow_add, ← Nat.mul_assoc (f i), Nat.mul_assoc (f i * g j), Nat.mul_comm ((wB ^ j))]
    rw [e4]
    omega
theorem NInv.last (h1 : NInv f g h m N i m c) (hk : i + m < N) : NRow f g (upd h (i + m) c) m N (i + 1) := by
  obtain ⟨h2, h3, h4, h5⟩ := h1
  refine ⟨updw_ok h2 h4, fun k hk2 => ?_, ?_⟩
  · rw [upd_other (by omega)]; exact h3 k (by omega)
  · have e1 := upd_gv (h := h) (v := c) hk
    rw [h3 (i + m) (Nat.le_refl _), Nat.zero_mul, Nat.add_zero] at e1
    rw [e1, h5]
    show _ = (gv f i + f i * (wB ^ i)) * gv g m
    rw [Nat.add_mul, Nat.mul_assoc (f i), Nat.mul_comm (gv g m) ((wB ^ i)), ← Nat.mul_assoc]
end
theorem mul_word {P c o : Nat} (hc : c < 18446744073709551616) (ho : o < 18446744073709551616) (hP : c + (P + o) < 340282366920938463463374607431768211456) :
    (o + (P % 18446744073709551616 + c) % 18446744073709551616) % 18446744073709551616 = (c + (P + o)) % 18446744073709551616 ∧
    P / 18446744073709551616 + (P % 18446744073709551616 + c) / 18446744073709551616 + (o + (P % 18446744073709551616 + c) % 18446744073709551616) / 18446744073709551616 = (c + (P + o)) / 18446744073709551616 ∧
    (c + (P + o)) / 18446744073709551616 < 18446744073709551616 := by omega
theorem gok_row {w : World} {g n : Nat} {h : Nat → Nat} (hr : w.rowIs g tQ n (fun k => u64v (h k))) : Seg w w.heap.size (some ⟨g, 0, none⟩) (u64s (fl h n)) := by
  refine rowIs_seg hr (fun i u hu => ?_) (by simp [fl_len])
  rw [List.getElem?_map] at hu
  unfold fl at hu
  rw [List.getElem?_map] at hu
  by_cases hi : i < n
  · simp [hi] at hu; exact hu
  · simp [hi] at hu
theorem wo_fl (g : Nat → Nat) {n i : Nat} (h : i < n) : wo (fl g n) i = g i := by
  rw [wo_lt (by rw [fl_len]; exact h)]; simp [fl]
theorem nv_fl (g : Nat → Nat) (n : Nat) : nv (fl g n) = gv g n := by
  unfold nv; rw [fl_len]; exact gv_congr fun i hi => wo_fl g hi
theorem wok_fl {g : Nat → Nat} {n : Nat} (h : gok g n) : wok (fl g n) := fun i hi => by
  rw [fl_len] at hi; rw [wo_fl g hi]; exact h i hi
set_option maxRecDepth 20000 in
set_option maxHeartbeats 4000000 in
theorem nmul_ok (A C : Option Addr) (a b : List Nat) (c d : Nat) (w : World) (hs : Seg w w.heap.size A (u64s a)) (ht : Seg w w.heap.size C (u64s b)) (ka : wok a) (kb : wok b) (ra : nright a) (rb : nright b) :
    Calls Tryd.prog 16 #[.slice A a.length c, .slice C b.length d] w fun e w' => NOut w w' e (nfits (nv a * nv b)).1 (nfits (nv a * nv b)).2 := by
  have HS := Lib.hid hs
  have HT := Lib.hid ht
  have HRa := Lib.hid (nright_any A a c w.heap.size w hs)
  have HRb := Lib.hid (nright_any C b d w.heap.size w ht)
  rw [decide_eq_true ra] at HRa
  rw [decide_eq_true rb] at HRb
  have HK := Lib.hid (And.intro ka (And.intro kb (And.intro ra.1 rb.1)))
  have HE : Hid (nfits (nv a * nv b) = if 64 < (wd (nv a * nv b)).length then ([], 4) else (wd (nv a * nv b), 0)) := rfl
  clear hs ht ka kb ra rb
  have la : a.length ≤ 64 := HK.out.2.2.1
  have lb : b.length ≤ 64 := HK.out.2.2.2
  have hmk := run_make_row' (P := Tryd.prog) 31 tQ (.int .u64 0) 8 Tryd.underlying31 (by kernel_rfl) rfl .i64 .i64 (a.length + b.length) (by omega) (by omega)
  rw [Int.natCast_add] at hmk
  go_enter Tryd.func16, Tryd.ntmps16
  go_wp2_with fail
  refine HRa.out.mono ?_
  rintro e w1 ⟨rfl, rfl⟩
  go_wp2_with fail
  refine HRb.out.mono ?_
  rintro e w2 ⟨rfl, rfl⟩
  have m1 : IntKind.i64.wrap ((a.length : Int) + (b.length : Int)) = (a.length : Int) + (b.length : Int) := IntWalk.i64_in _ (by omega)
  go_wp2_with fail
  --LOOK1
  clear hmk m1
  go_loopw [31] (fun s31 wr => ∃ (i : Nat) (h : Nat → Nat), i ≤ a.length ∧ s31 = .int .i64 i ∧ Hid (NRow (wo a) (wo b) h b.length (a.length + b.length) i) ∧ wr.rowIs w2.heap.size tQ (a.length + b.length) (fun k => u64v (h k)) ∧ Below w2.heap.size w2 wr) (fun s31 _ => a.length - (intOf s31).toNat)
  case atStart => exact ⟨0, fun _ => 0, Nat.zero_le _, rfl, NRow.first _ _ _ _, (World.rowIs_made w2 (.int .u64 0) (a.length + b.length) tQ).congr (fun _ _ => rfl), (Below.refl _ _).alloc (Nat.le_refl _) _⟩
  case round =>
    obtain ⟨i, h, hi, rfl, hm, hrow, hbel⟩ := hrel
    have HR := Lib.hid hrow
    have HB := Lib.hid hbel
    by_cases hlt : i < a.length
    · obtain ⟨ad, rfl, hab, hca0⟩ := HS.out.wo hlt
      have hca := (hbel.cell (block_lt hca0)).trans hca0
      have ha := HK.out.1 i hlt
      have i1 : (i : Int) < (a.length : Int) := by omega
      clear hrow hbel hca0
      obtain ⟨wl, rfl⟩ : ∃ wl : World, wl = wr := ⟨_, rfl⟩
      obtain ⟨x, hx⟩ : ∃ x, x = wo a i := ⟨_, rfl⟩
      rw [← hx] at ha hca
      have HGA := Lib.hid hx
      have hxlt : x < 18446744073709551616 := ha
      clear hx ha
      go_wp2_with fail
      clear hca
      go_loopw [38, 9] (fun s38 s9 wr => ∃ (j cr : Nat) (h : Nat → Nat), j ≤ b.length ∧ s38 = .int .i64 j ∧ s9 = .int .u64 cr ∧ cr < 18446744073709551616 ∧ Hid (NInv (wo a) (wo b) h b.length (a.length + b.length) i j cr) ∧ wr.rowIs w2.heap.size tQ (a.length + b.length) (fun k => u64v (h k)) ∧ Below w2.heap.size w2 wr) (fun s38 _ _ => b.length - (intOf s38).toNat)
      case atStart => exact ⟨0, 0, h, Nat.zero_le _, rfl, rfl, by decide, hm.out.begin, HR.out, HB.out⟩
      case round =>
        obtain ⟨j, cr, h, hj, rfl, rfl, hcr, hm, hrow, hbel⟩ := hrel
        have HR := Lib.hid hrow
        have HB := Lib.hid hbel
        by_cases hjlt : j < b.length
        · obtain ⟨ae, rfl, hbb, hcb0⟩ := HT.out.wo hjlt
          have hcb := (hbel.cell (block_lt hcb0)).trans hcb0
          have ho := hrow.cell (show i + j < a.length + b.length by omega)
          have hf := hrow.frozen (i + j)
          have hb : wo b j < 18446744073709551616 := HK.out.2.1 j hjlt
          have hk : h (i + j) < 18446744073709551616 := hm.out.1 (i + j) (by omega)
          have i2 : (j : Int) < (b.length : Int) := by omega
          have i3 : (i : Int) + (j : Int) < (a.length : Int) + (b.length : Int) := by omega
          have i4 : ((i : Int) + (j : Int)).toNat = i + j := by omega
          have hs := hm.out.sum_lt (i := i) (j := j) (by rw [← HGA.out]; exact hxlt) hb (by omega)
          have HM := Lib.hid (hm.out.step hjlt (by omega) hs)
          rw [← HGA.out] at hs HM
          obtain ⟨y, hy⟩ : ∃ y, y = wo b j := ⟨_, rfl⟩
          obtain ⟨o, hoo⟩ : ∃ o, o = h (i + j) := ⟨_, rfl⟩
          rw [← hy, ← hoo] at hs HM
          rw [← hy] at hb hcb
          rw [← hoo] at hk ho
          have HMU := Lib.hid (fun u => mul64_any x y hxlt hb u)
          obtain ⟨hw1, hw2, hw3⟩ := mul_word (P := x * y) hcr hk hs
          obtain ⟨hi_, hhi⟩ : ∃ q, q = x * y / 18446744073709551616 := ⟨_, rfl⟩
          obtain ⟨lo_, hlo⟩ : ∃ q, q = x * y % 18446744073709551616 := ⟨_, rfl⟩
          rw [← hhi, ← hlo] at HMU
          have hr1 := fun u => add64_run0 lo_ cr u
          rw [← hhi, ← hlo] at hw2
          rw [← hlo] at hw1
          obtain ⟨l1, hl1⟩ : ∃ q, q = (lo_ + cr) % 18446744073709551616 := ⟨_, rfl⟩
          obtain ⟨c1, hc1⟩ : ∃ q, q = (lo_ + cr) / 18446744073709551616 := ⟨_, rfl⟩
          rw [← hl1, ← hc1] at hr1
          rw [← hl1, ← hc1] at hw2
          rw [← hl1] at hw1
          have hr2 := fun u => add64_run0 o l1 u
          obtain ⟨c2, hc2⟩ : ∃ q, q = (o + l1) / 18446744073709551616 := ⟨_, rfl⟩
          rw [hw1, ← hc2] at hr2
          rw [← hc2] at hw2
          obtain ⟨Q, hQ⟩ : ∃ q, q = (cr + (x * y + o)) / 18446744073709551616 := ⟨_, rfl⟩
          obtain ⟨R, hR⟩ : ∃ q, q = (cr + (x * y + o)) % 18446744073709551616 := ⟨_, rfl⟩
          rw [← hQ] at hw2 hw3 HM
          rw [← hR] at hr2 HM
          have e1 : IntKind.u64.wrap ((hi_ : Int) + (c1 : Int)) = (hi_ : Int) + (c1 : Int) := by simp [IntKind.wrap, IntKind.bits, IntKind.signed]; omega
          have e2 : IntKind.u64.wrap ((hi_ : Int) + (c1 : Int) + (c2 : Int)) = (Q : Int) := by simp [IntKind.wrap, IntKind.bits, IntKind.signed]; omega
          have hjj := Lib.hid (And.intro hjlt hw3)
          clear hrow hbel hy hoo hhi hlo hl1 hc1 hc2 hQ hR hw1 hw2 hw3 hs hcb0 hb hk
          go_wp2_with fail
          refine (HMU.out _).mono ?_
          rintro e u1 ⟨rfl, rfl⟩
          --LOOK2
          go_wp2_with fail
          --LOOK3
          go_roundw
          case rel =>
            refine ⟨j + 1, Q, _, by have := hjj.out; omega, by go_num, ?_, hjj.out.2, HM.out, (HR.out.set (i + j) _).congr (fun k _ => ?_), HB.out.setCell (Nat.le_refl _) _⟩
            · simp
            · by_cases h1 : k = i + j
              · subst h1; rw [if_pos rfl, upd_same]
              · rw [if_neg h1, upd_other h1]
          case measure => have := hjj.out; simp [intOf]; omega
        · obtain rfl : j = b.length := by omega
          have ho := hrow.cell (show i + b.length < a.length + b.length by omega)
          have hf := hrow.frozen (i + b.length)
          have i3 : (i : Int) + (b.length : Int) < (a.length : Int) + (b.length : Int) := by omega
          have i4 : ((i : Int) + (b.length : Int)).toNat = i + b.length := by omega
          have HM := Lib.hid (hm.out.last (by omega))
          clear hrow hbel
          go_wp2_with fail
          go_roundw
          case rel =>
            refine ⟨i + 1, _, by omega, by go_num, HM.out, (HR.out.set (i + b.length) _).congr (fun k _ => ?_), HB.out.setCell (Nat.le_refl _) _⟩
            by_cases h1 : k = i + b.length
            · subst h1; rw [if_pos rfl, upd_same]
            · rw [if_neg h1, upd_other h1]
          case measure => simp [intOf]; omega
    · obtain rfl : i = a.length := by omega
      have hv : nv (fl h (a.length + b.length)) = nv a * nv b := by rw [nv_fl, hm.out.2.2]; rfl
      have hok := wok_fl hm.out.1
      have hsg := gok_row hrow
      have hln : (fl h (a.length + b.length)).length = a.length + b.length := fl_len _ _
      have h1 := take_wlen hok
      rw [hv] at h1
      have h2 : (wd (nv a * nv b)).length = wlen (fl h (a.length + b.length)) (fl h (a.length + b.length)).length := by
        rw [← h1]; have := wlen_le (fl h (a.length + b.length)) (fl h (a.length + b.length)).length; simp; omega
      have HSG := Lib.hid hsg
      have HTW := Lib.hid (trim_words (some ⟨w2.heap.size, 0, none⟩) (fl h (a.length + b.length)) (a.length + b.length) wr.heap.size wr hsg (by rw [hln]; exact Nat.le_refl _) (by rw [hln]; omega))
      have HW := Lib.hid (And.intro h1 h2)
      rw [hln] at HTW
      have HL := Lib.hid hln
      clear hrow hbel hv hok hsg hln h1 h2 hlt hi
      go_wp2_with fail
      --LOOK4
      refine HTW.out.mono ?_
      rintro e u1 ⟨rfl, m, rfl⟩
      have h2 := HW.out.2
      rw [HL.out] at h2
      rw [← h2]
      clear h2
      by_cases h64 : 64 < (wd (nv a * nv b)).length
      · have HF : Hid (nfits (nv a * nv b) = ([], 4)) := by unfold Hid; rw [HE.out, if_pos h64]
        go_wp2_with fail
        refine (fits_no _ _ _ _ h64).mono ?_
        rintro e u2 ⟨rfl, rfl⟩
        go_wp2_with fail
        go_ret2
        rw [HF.out]
        exact NOut.nil_ (below_drewN HB.out _)
      · have HF : Hid (nfits (nv a * nv b) = (wd (nv a * nv b), 0)) := by unfold Hid; rw [HE.out, if_neg h64]
        go_wp2_with fail
        refine (fits_ok _ _ _ _ h64).mono ?_
        rintro e u2 ⟨rfl, rfl⟩
        go_wp2_with fail
        go_ret2
        rw [HF.out]
        refine ⟨some ⟨w2.heap.size, 0, none⟩, _, rfl, Nat.le_refl _, ?_, below_drewN HB.out _⟩
        have h3 := HSG.out.pre (wlen (fl h (a.length + b.length)) (fl h (a.length + b.length)).length)
        rw [← List.map_take, HW.out.1] at h3
        exact h3
end Go.Proofs.YtmibifmabkaakaaDoor
