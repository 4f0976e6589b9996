/- Numbers of words: Cmp and Sub, walked. No condition but that the words are words. -/
import Derived.Test.YtaehehoeidnidaaNatU
namespace Go.Proofs.Ytaehehoeidnidaa
open Go.ChangeShapes Go.WideShapes Go.ChangeAt Go.RowKit
set_option linter.unusedVariables false

set_option maxRecDepth 20000 in
set_option maxHeartbeats 1000000 in
theorem ncmp_ok (A C : Option Addr) (a b : List Nat) (c d B : Nat) (w : World) (hs : Seg w B A (u64s a)) (ht : Seg w B C (u64s b)) (ka : wok a) (kb : wok b) (ra : nright a) (rb : nright b) :
    Calls Try.prog 43 #[.slice A a.length c, .slice C b.length d] w fun e w' => e = .returned (.tuple #[.int .i64 (ncmp (nv a) (nv b)), .int .i64 0]) ∧ ∃ m, w' = w.drewN m := by
  have HRa := Lib.hid (nright_any A a c B w hs)
  have HRb := Lib.hid (nright_any C b d B w ht)
  have HC := Lib.hid (compare_any A C a b c d B w hs ht ka kb ra.norm rb.norm ra.1 rb.1)
  rw [decide_eq_true ra] at HRa
  rw [decide_eq_true rb] at HRb
  clear hs ht ka kb ra rb
  go_enter Try.func43, Try.ntmps43
  go_wp2_with fail
  refine HRa.out.mono ?_
  rintro e w1 ⟨rfl, rfl⟩
  go_wp2_with fail
  refine HRb.out.mono ?_
  rintro e w2 ⟨rfl, rfl⟩
  go_wp2_with fail
  refine HC.out.mono ?_
  rintro e w3 ⟨rfl, m, rfl⟩
  go_wp2_with fail
  go_ret2
  exact ⟨rfl, m, rfl⟩
set_option maxRecDepth 20000 in
set_option maxHeartbeats 1000000 in
theorem nsub_less (A C : Option Addr) (a b : List Nat) (c d B : Nat) (w : World) (hs : Seg w B A (u64s a)) (ht : Seg w B C (u64s b)) (ka : wok a) (kb : wok b) (ra : nright a) (rb : nright b) (h : nv a < nv b) :
    Calls Try.prog 45 #[.slice A a.length c, .slice C b.length d] w fun e w' => e = .returned (.tuple #[.slice none 0 0, .int .i64 2]) ∧ ∃ m, w' = w.drewN m := by
  have HRa := Lib.hid (nright_any A a c B w hs)
  have HRb := Lib.hid (nright_any C b d B w ht)
  have HC := Lib.hid (compare_any A C a b c d B w hs ht ka kb ra.norm rb.norm ra.1 rb.1)
  rw [decide_eq_true ra] at HRa
  rw [decide_eq_true rb] at HRb
  rw [show ncmp (nv a) (nv b) = -1 from if_pos h] at HC
  clear hs ht ka kb ra rb h
  go_enter Try.func45, Try.ntmps45
  go_wp2_with fail
  refine HRa.out.mono ?_
  rintro e w1 ⟨rfl, rfl⟩
  go_wp2_with fail
  refine HRb.out.mono ?_
  rintro e w2 ⟨rfl, rfl⟩
  go_wp2_with fail
  refine HC.out.mono ?_
  rintro e w3 ⟨rfl, m, rfl⟩
  go_wp2_with fail
  go_ret2
  exact ⟨rfl, m, rfl⟩
theorem Own.drewN64 {w : World} {base : Nat} {e : TypeId} {v : Value} {xs : List Value} (h : Own w base e v xs) (n : Nat) : Own (w.drewN n) base e v xs := Own.below h (below_drewN (Below.refl w.heap.size w) n) (Nat.le_refl _)
theorem sub_word {x y br : Nat} (hx : x < wB) (hy : y < wB) (hb : br ≤ 1) : (x + wB - y - br) % wB + y + br = x + (if x < y + br then 1 else 0) * wB ∧ (x + wB - y - br) % wB < wB := by
  have hx' : x < 18446744073709551616 := hx
  have hy' : y < 18446744073709551616 := hy
  show (x + 18446744073709551616 - y - br) % 18446744073709551616 + y + br = x + (if x < y + br then 1 else 0) * 18446744073709551616 ∧ (x + 18446744073709551616 - y - br) % 18446744073709551616 < 18446744073709551616
  split <;> omega
theorem sub_step {a b : List Nat} {o : List Nat} {br k : Nat} (ka : wok a) (kb : wok b) (ho : o.length = k) (hk : wok o) (hc : br ≤ 1) (he : nv o + gv (wo b) k = gv (wo a) k + br * wB ^ k) :
    wok (o ++ [(wo a k + wB - wo b k - br) % wB]) ∧ (if wo a k < wo b k + br then 1 else 0) ≤ 1 ∧ nv (o ++ [(wo a k + wB - wo b k - br) % wB]) + gv (wo b) (k + 1) = gv (wo a) (k + 1) + (if wo a k < wo b k + br then 1 else 0) * wB ^ (k + 1) := by
  obtain ⟨h1, h2⟩ := sub_word (ka.all k) (kb.all k) hc
  refine ⟨wok_snoc hk h2, by split <;> omega, ?_⟩
  rw [nv_snoc, ho, gv, gv, wp_succ]
  generalize (wo a k + wB - wo b k - br) % wB = s at *
  generalize (if wo a k < wo b k + br then 1 else 0) = q at *
  have h4 : (s + wo b k + br) * wB ^ k = (wo a k + q * wB) * wB ^ k := by rw [h1]
  rw [Nat.add_mul, Nat.add_mul, Nat.add_mul, Nat.mul_assoc, Nat.mul_comm wB (wB ^ k)] at h4
  omega
theorem sub_last {a b : List Nat} {o : List Nat} {br : Nat} (ho : o.length = a.length) (hk : wok o) (lb : b.length ≤ a.length) (h : nv b ≤ nv a) (he : nv o + gv (wo b) a.length = gv (wo a) a.length + br * wB ^ a.length) : nv o = nv a - nv b := by
  rw [nv_gv (Nat.le_refl _), nv_gv lb] at he
  have h1 := nv_lt hk
  rw [ho] at h1
  generalize wB ^ a.length = P at *
  have h4 : br = 0 := by
    rcases Nat.eq_zero_or_pos br with h | h
    · exact h
    · have : 1 * P ≤ br * P := Nat.mul_le_mul_right _ h
      omega
  subst h4
  omega
set_option maxRecDepth 20000 in
set_option maxHeartbeats 2000000 in
theorem nsub_ok (A C : Option Addr) (a b : List Nat) (c d : Nat) (w : World) (hs : Seg w w.heap.size A (u64s a)) (ht : Seg w w.heap.size C (u64s b)) (ka : wok a) (kb : wok b) (ra : nright a) (rb : nright b) (h : nv b ≤ nv a) :
    Calls Try.prog 45 #[.slice A a.length c, .slice C b.length d] w fun e w' => NOut w w' e (wd (nv a - nv b)) 0 := by
  have lb : b.length ≤ a.length := by
    rcases Nat.lt_or_ge a.length b.length with h1 | h1
    · have := nv_len_lt ka rb.norm h1; omega
    · exact h1
  have HS := Lib.hid hs
  have HT := Lib.hid ht
  have HRa := Lib.hid (nright_any A a c w.heap.size w hs)
  have HRb := Lib.hid (nright_any C b d w.heap.size w ht)
  have HC := Lib.hid (compare_any A C a b c d w.heap.size w hs ht ka kb ra.norm rb.norm ra.1 rb.1)
  rw [decide_eq_true ra] at HRa
  rw [decide_eq_true rb] at HRb
  have hcm : ¬ ncmp (nv a) (nv b) < 0 := by unfold ncmp; rw [if_neg (by omega)]; split <;> omega
  have HK := Lib.hid (And.intro ka (And.intro kb (And.intro lb (And.intro h ra.1))))
  generalize ncmp (nv a) (nv b) = z at *
  clear hs ht ka kb ra rb h lb
  go_enter Try.func45, Try.ntmps45
  go_wp2_with fail
  refine HRa.out.mono ?_
  rintro e w1 ⟨rfl, rfl⟩
  go_wp2_with fail
  refine HRb.out.mono ?_
  rintro e w2 ⟨rfl, rfl⟩
  go_wp2_with fail
  refine HC.out.mono ?_
  rintro e w3 ⟨rfl, m0, rfl⟩
  go_wp2_with fail
  --LOOK1
  go_loopw [6, 7, 26] (fun s7 s8 s26 wx => ∃ (k br : Nat) (o : List Nat), k ≤ a.length ∧ s26 = .int .i64 k ∧ s8 = u64v br ∧ Hid (o.length = k ∧ wok o ∧ br ≤ 1 ∧ nv o + gv (wo b) k = gv (wo a) k + br * wB ^ k) ∧ Hid (Own wx w2.heap.size tQ s7 (u64s o)) ∧ Hid (Below w2.heap.size w2 wx)) (fun _ _ s26 _ => a.length - (intOf s26).toNat)
  case atStart => exact ⟨0, 0, [], Nat.zero_le _, rfl, rfl, Lib.hid (And.intro rfl (And.intro wok_nil (And.intro (by decide) rfl))), Own.none_, below_drewN (Below.refl _ _) _⟩
  case round =>
    obtain ⟨k, br, o, hk, rfl, rfl, hi, ho, hb⟩ := hrel
    by_cases hlt : k < a.length
    · have i1 : (k : Int) < (a.length : Int) := by omega
      obtain ⟨ad, rfl, hab, hca⟩ := HS.out.wo hlt
      have hca2 := (hb.out.cell (block_lt hca)).trans hca
      have HB := Lib.hid (fun u (h : Below w2.heap.size w2 u) => word_any C b k d w2.heap.size u (HT.out.below h))
      have hsub := fun u => sub64_run (wo a k) (wo b k) br hi.out.2.2.1 u
      have HST := Lib.hid (sub_step HK.out.1 HK.out.2.1 hi.out.1 hi.out.2.1 hi.out.2.2.1 hi.out.2.2.2)
      have HKN := Lib.hid (And.intro hk hlt)
      have uk : Hid (wrap64 ((k : Int) + 1) = ((k + 1 : Nat) : Int)) := w64s (by have := HK.out; omega)
      have HPL : Hid (((u64s o).length + 1) * 8 ≤ 140737488355328 ∧ (u64s o).length + 1 ≤ maxLen) := by
        have h1 := hi.out.1; have h2 := HK.out
        unfold Hid maxLen; rw [List.length_map]; omega
      have HSZ := Lib.hid hb.out.size
      clear hlt hk hca
      obtain ⟨X, hX⟩ : ∃ X, X = (wo a k + 18446744073709551616 - wo b k - br) % 18446744073709551616 := ⟨_, rfl⟩
      obtain ⟨Y, hY⟩ : ∃ Y, Y = (if wo a k < wo b k + br then 1 else 0) := ⟨_, rfl⟩
      rw [← hX, ← hY] at HST
      rw [← hX, ← hY] at hsub
      clear hX hY
      obtain ⟨x, hx⟩ : ∃ x, x = wo a k := ⟨_, rfl⟩
      obtain ⟨y, hy⟩ : ∃ y, y = wo b k := ⟨_, rfl⟩
      rw [← hx, ← hy] at hsub
      rw [← hx] at hca2
      rw [← hy] at HB
      clear hx hy
      have HWB := Lib.hid (HB.out wr hb.out)
      go_wp2_with fail
      --LOOK2
      go_quiet (first | (go_at_call_of 119 (Value.int .i64 (k : Int)); exact Calls.quiet_of_same (HB.out _ (below_drewN hb.out _))))
      go_wp2_with (first
        | (at_builtin; go_must (refine wpList_push _ rfl _ _ 51 tQ 8 elem_u64s rfl w2.heap.size _ _ rfl (Own.alloc' (Own.drewN64 ho.out _) _) (u64v X) ⟨(wr.drewN nq).heap.size, 0, none⟩ 1 rfl (cell_new1 _ _ _) rfl HPL.out.1 HPL.out.2 (by simp; exact Nat.le_succ_of_le HSZ.out) ?_); intro v6 w6 hown6 hbel6; have HO6 := Lib.hid hown6; have HB6 := Lib.hid hbel6; clear hown6 hbel6)
        | fail)
      --LOOK3
      go_roundw
      case rel => exact ⟨k + 1, Y, o ++ [X], by have := HKN.out; omega, by rw [uk.out], rfl, Lib.hid (And.intro (by simp [hi.out.1]) HST.out), by have := HO6.out; unfold Hid; simpa using this, ((below_drewN hb.out _).alloc HSZ.out _).trans HB6.out⟩
      case measure => rw [uk.out]; have := HKN.out; simp [intOf]; omega
    · obtain rfl : k = a.length := by omega
      have hv := sub_last hi.out.1 hi.out.2.1 HK.out.2.2.1 HK.out.2.2.2.1 hi.out.2.2.2
      obtain ⟨A', c', rfl, hc', ho2⟩ := ho.out.res2
      have e1 : (u64s o).length = o.length := by simp
      rw [e1] at ho2 hc'
      rw [e1]
      have HO := Lib.hid ho2
      have HTR := Lib.hid (fun m => trim_own ho2 hi.out.2.1 m)
      rw [hv] at HTR
      have HTW := Lib.hid (fun u (h : Seg u wr.heap.size A' (u64s o)) => trim_words A' o c' wr.heap.size u h hc' (by have := hi.out.1; have := HK.out; omega))
      clear ho2 hc' hk hlt hv e1
      go_wp2_with fail
      refine (HTW.out _ HO.out.seg).mono ?_
      rintro e u1 ⟨rfl, m, rfl⟩
      rw [← (HTR.out m).2]
      go_wp2_with fail
      go_ret2
      exact ⟨A', _, rfl, Nat.le_refl _, (HTR.out m).1, below_drewN hb.out _⟩
end Go.Proofs.Ytaehehoeidnidaa
