/- Whole numbers in memory: digits shifted to the right. No condition. -/
import Derived.Test.YtkffakekakhgdaaBigL
import Derived.Test.YtkffakekakhgdaaBigJ
namespace Go.Proofs.Ytkffakekakhgdaa
open Go.ChangeShapes Go.WideShapes Go.ChangeAt Go.RowKit
set_option linter.unusedVariables false

theorem TSeg.drop {w : World} {e : TypeId} {ad : Addr} {xs : List Value} (h : TSeg w e (some ad) xs) (q : Nat) : TSeg w e (some (ad.add q)) (xs.drop q) := by
  refine ⟨fun h0 => ?_, fun h0 => ?_⟩
  · rw [List.length_drop] at h0
    obtain ⟨ad', e1, hlt, hc⟩ := h.1 (by omega)
    injection e1 with e1
    subst e1
    refine ⟨_, rfl, by rw [addr_block]; exact hlt, fun k u hk => ?_⟩
    rw [addr_add]
    exact hc _ _ (by rw [List.getElem?_drop] at hk; exact hk)
  · rw [List.length_drop] at h0
    obtain ⟨ad', cs, e1, hc⟩ := h.2 (by omega)
    injection e1 with e1
    subst e1
    exact ⟨_, cs, rfl, by rw [addr_block]; exact hc⟩
theorem u32s_drop (ds : List Nat) (k : Nat) : u32s (ds.drop k) = (u32s ds).drop k := by simp [u32s]
theorem gd_drop (ds : List Nat) (q i : Nat) : gd (ds.drop q) i = gd ds (q + i) := by simp [gd, List.getD, List.getElem?_drop]
theorem Digs.drop {w : World} {ad : Addr} {ds : List Nat} (h : Digs w (some ad) ds) (q : Nat) : Digs w (some (ad.add q)) (ds.drop q) := by
  unfold Digs; rw [u32s_drop]; exact TSeg.drop h q
theorem Digs.at_ {w : World} {ad : Addr} {ds : List Nat} (h : Digs w (some ad) ds) {k : Nat} (hk : k < ds.length) : w.cell? (ad.add k) = some (dgt (gd ds k)) := by
  obtain ⟨ad', e1, hc⟩ := TSeg.cell h (u32s_get hk)
  injection e1 with e1
  subst e1
  exact hc

theorem shr_word (a r : Nat) : (a : Int) / 2 ^ r = ((a / 2 ^ r : Nat) : Int) := by
  rw [Int.natCast_ediv, Int.natCast_pow]; rfl
theorem shr_val (a b r : Nat) (hr : r < 32) (ha : a < 4294967296) : bits .or .u32 ((a : Int) / 2 ^ r) ((b : Int) * 2 ^ (32 - r) % 4294967296) = ((a / 2 ^ r + b % 2 ^ r * 2 ^ (32 - r) : Nat) : Int) := by
  obtain ⟨e, p1, p2⟩ := pow_r hr
  have h1 : (b : Int) * 2 ^ (32 - r) % 4294967296 = ((b % 2 ^ r * 2 ^ (32 - r) : Nat) : Int) := by
    have h2 : b * 2 ^ (32 - r) % 4294967296 = b % 2 ^ r * 2 ^ (32 - r) := by rw [← e, Nat.mul_mod_mul_right]
    rw [← h2, Int.natCast_emod, Int.natCast_mul, Int.natCast_pow]; rfl
  obtain ⟨h3, h4⟩ := rdig_lt (b := b) hr ha
  rw [h1, shr_word, u32_or_nat _ _ (by omega) (by omega), Nat.or_comm, nat_join (32 - r) _ _ (Nat.mul_mod_left _ _) h4, Nat.add_comm]

set_option maxRecDepth 20000 in
set_option maxHeartbeats 4000000 in
theorem shr_some (ad : Addr) (xs : List Nat) (cx n q r m : Nat) (w : World) (hx : Digs w (some ad) xs) (kx : dok xs) (hc : xs.length ≤ cx) (lx : xs.length ≤ capMax) (hn : n = 32 * q + r) (hr : r < 32) (hm : xs.length = q + m) (h0 : 0 < m) (ln : n < 140737488355328) :
    Calls Try.prog 103 #[.slice (some ad) xs.length cx, .int .i64 n] w fun e w' => NewDigs w e w' fun ds => ds.length = m ∧ dv ds = fv (rdig (fun i => gd xs (q + i)) r) m := by
  have lx' : xs.length ≤ 17592186044416 := lx
  have iq : (n : Int) / 32 = (q : Int) := by omega
  have ir : (n : Int) % 32 = (r : Int) := by omega
  have hcq : ¬ cx = q := by omega
  have HX := Lib.hid (hx.drop q)
  have HF : Hid (∀ i, gd (xs.drop q) i = gd xs (q + i)) := fun i => gd_drop xs q i
  have HLD : Hid ((xs.drop q).length = m) := by unfold Hid; rw [List.length_drop]; omega
  have HK := Lib.hid (gd_lt32 kx)
  have HZ : Hid (gd xs (q + m) = 0) := gd_ge (by omega)
  have hmk := run_make_row' (P := Try.prog) 71 tU (.int .u32 0) 4 Try.underlying71 (by kernel_rfl) rfl .i64 .i64 m (by omega) (by omega)
  rw [hm]
  have lm : m ≤ 17592186044416 := by omega
  have m1 : q + m - q = m := by omega
  have m2 : (q : Int) ≤ (q : Int) + (m : Int) := by omega
  have m3 : ¬ (m : Int) ≤ 0 := by omega
  clear hx kx lx hn hm lx'
  go_enter Try.func103, Try.ntmps103
  go_wp2_with fail
  clear hmk m1 m2 m3 hcq iq
  go_loopw [22] (fun s22 wr => ∃ k : Nat, k ≤ m ∧ s22 = .int .i64 k ∧ wr.rowIs w.heap.size tU m (fun i => dgt (if i < k then rdig (fun i => gd xs (q + i)) r i else 0)) ∧ Below w.heap.size w wr) (fun s22 _ => m - (intOf s22).toNat)
  case atStart => exact ⟨0, Nat.zero_le _, rfl, (World.rowIs_made w (.int .u32 0) m tU).congr (fun i _ => by rw [if_neg (by omega)]; rfl), (Below.refl _ _).alloc (Nat.le_refl _) _⟩
  case round =>
    obtain ⟨k, hk, rfl, hrow, hbel⟩ := hrel
    have HR := Lib.hid hrow
    have HB := Lib.hid hbel
    by_cases hlt : k < m
    · have hca := Digs.at_ (HX.out.below hbel) (show k < (xs.drop q).length by rw [HLD.out]; exact hlt)
      rw [HF.out k] at hca
      have ha := HK.out (q + k)
      have i1 : (k : Int) < (m : Int) := by omega
      have ho := hrow.frozen k
      have hoc := hrow.cell hlt
      have HO : Hid (∀ i, i < m → i ≠ k → (if i < k then rdig (fun i => gd xs (q + i)) r i else 0) = if i < k + 1 then rdig (fun i => gd xs (q + i)) r i else 0) := fun i _ hne => by
        by_cases h : i < k
        · rw [if_pos h, if_pos (by omega)]
        · rw [if_neg h, if_neg (by omega)]
      by_cases hn1 : k + 1 < m
      · have hcb := Digs.at_ (HX.out.below hbel) (show k + 1 < (xs.drop q).length by rw [HLD.out]; exact hn1)
        rw [HF.out (k + 1)] at hcb
        have i2 : (k : Int) + 1 < (m : Int) := by omega
        have hb := HK.out (q + (k + 1))
        have HRD : Hid (rdig (fun i => gd xs (q + i)) r k = gd xs (q + k) / 2 ^ r + gd xs (q + (k + 1)) % 2 ^ r * 2 ^ (32 - r)) := rfl
        clear hrow hbel
        generalize gd xs (q + k) = a at *
        generalize hgb : gd xs (q + (k + 1)) = b at *
        have HGB := Lib.hid hgb
        clear hgb
        by_cases hr0 : 0 < r
        · go_wp2_with fail
          obtain ⟨w2, hw2⟩ : ∃ w2, w2 = wr.setCell ⟨w.heap.size, k, none⟩ (.int .u32 ((a : Int) / 2 ^ r)) := ⟨_, rfl⟩
          rw [← hw2]
          have HB2 : Hid (Below w.heap.size w w2) := hw2 ▸ HB.out.setCell (Nat.le_refl _) _
          have hcb2 := Digs.at_ (HX.out.below HB2.out) (show k + 1 < (xs.drop q).length by rw [HLD.out]; exact hn1)
          rw [HF.out (k + 1), HGB.out, Addr.add_succ'] at hcb2
          have HR2 : Hid (w2.rowIs w.heap.size tU m (fun i => if i = k then .int .u32 ((a : Int) / 2 ^ r) else dgt (if i < k then rdig (fun i => gd xs (q + i)) r i else 0))) := hw2 ▸ HR.out.set k _
          have hcc2 := HR2.out.cell (show k < m from hlt)
          rw [if_pos rfl] at hcc2
          have ho2 := HR2.out.frozen k
          clear hw2 hca hcb ho hoc
          go_region
          go_wp2_with fail
          go_roundw
          case rel =>
            refine ⟨k + 1, by omega, by go_num, ((HR2.out.set k _).congr (fun i hi => ?_)).drew, Below.drew (HB2.out.setCell (Nat.le_refl _) _)⟩
            by_cases h : i = k
            · subst h
              rw [if_pos rfl, if_pos (by omega), HRD.out, shr_val a b r hr ha]
            · rw [if_neg h, if_neg h, HO.out i hi h]
          case measure => simp [intOf]; omega
        · have HRE : Hid (rdig (fun i => gd xs (q + i)) r k = a / 2 ^ r) := by
            unfold Hid; rw [HRD.out, show r = 0 by omega]; simp [Nat.mod_one]
          have i4 : ¬ (0 : Int) < (r : Int) := by omega
          go_wp2_with fail
          go_roundw
          case rel =>
            refine ⟨k + 1, by omega, by go_num, (HR.out.set k _).congr (fun i hi => ?_), HB.out.setCell (Nat.le_refl _) _⟩
            by_cases h : i = k
            · subst h
              rw [if_pos rfl, if_pos (by omega), HRE.out]
              exact val_32 (shr_word a r)
            · rw [if_neg h, HO.out i hi h]
          case measure => simp [intOf]; omega
      · have HRD : Hid (rdig (fun i => gd xs (q + i)) r k = gd xs (q + k) / 2 ^ r) := by
          unfold Hid
          show gd xs (q + k) / 2 ^ r + gd xs (q + (k + 1)) % 2 ^ r * 2 ^ (32 - r) = _
          rw [show k + 1 = m by omega, HZ.out, Nat.zero_mod, Nat.zero_mul, Nat.add_zero]
        have i2 : ¬ (k : Int) + 1 < (m : Int) := by omega
        clear hrow hbel
        generalize gd xs (q + k) = a at *
        go_wp2_with fail
        go_roundw
        case rel =>
          refine ⟨k + 1, by omega, by go_num, (HR.out.set k _).congr (fun i hi => ?_), HB.out.setCell (Nat.le_refl _) _⟩
          by_cases h : i = k
          · subst h
            rw [if_pos rfl, if_pos (by omega), HRD.out]
            exact val_32 (shr_word a r)
          · rw [if_neg h, HO.out i hi h]
        case measure => simp [intOf]; omega
    · obtain rfl : k = m := by omega
      have HD : Hid (Digs wr (some ⟨w.heap.size, 0, none⟩) (fl (rdig (fun i => gd xs (q + i)) r) k)) := digs_of_row hrow (fun i hi => by rw [if_pos hi])
      have HOK : Hid (fok (rdig (fun i => gd xs (q + i)) r) k) := rdig_ok hr (fun i _ => HK.out _)
      clear hrow hbel
      go_wp2_with fail
      go_ret
      exact NewDigs.mk_ rfl HD.out HOK.out ⟨fl_len _ _, dv_fl _ _⟩ HB.out
theorem shr_any (Ax : Option Addr) (xs : List Nat) (cx n : Nat) (w : World) (hx : Digs w Ax xs) (kx : dok xs) (hc : xs.length ≤ cx) (lx : xs.length ≤ capMax) (ln : n < 140737488355328) :
    Calls Try.prog 103 #[.slice Ax xs.length cx, .int .i64 n] w fun e w' => NewDigs w e w' fun ds => ds.length = xs.length - n / 32 ∧ dv ds = dv xs / 2 ^ n := by
  have hn : n = 32 * (n / 32) + n % 32 := by omega
  by_cases hq : n / 32 < xs.length
  · obtain ⟨ad, rfl, _⟩ := hx.1 (by rw [u32s_len]; omega)
    refine (shr_some ad xs cx n (n / 32) (n % 32) (xs.length - n / 32) w hx kx hc lx hn (by omega) (by omega) (by omega) ln).mono ?_
    rintro e w' ⟨A, c, ds, he, h1, h2, h3, ⟨h4, h5⟩, h6⟩
    exact ⟨A, c, ds, he, h1, h2, h3, ⟨h4, by rw [h5, shr_dv kx hq (by omega), ← hn]⟩, h6⟩
  · have hv : Hid (dv [] = dv xs / 2 ^ n) := by
      unfold Hid
      rw [hn, shr_none kx (by omega)]; rfl
    have iq : (xs.length : Int) ≤ (n : Int) / 32 := by omega
    have hl : Hid (([] : List Nat).length = xs.length - n / 32) := by unfold Hid; rw [List.length_nil]; omega
    clear hn hq hx
    generalize hm : xs.length = m at *
    clear hm
    go_enter Try.func103, Try.ntmps103
    go_wp2_with fail
    go_ret
    exact ⟨none, 0, [], rfl, Nat.le_refl _, TSeg.nil, fun i hi => absurd hi (Nat.not_lt_zero i), ⟨hl.out, hv.out⟩, Below.refl _ _⟩
end Go.Proofs.Ytkffakekakhgdaa
