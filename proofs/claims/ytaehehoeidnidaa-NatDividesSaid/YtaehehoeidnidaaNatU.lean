/- Numbers of words: Add, walked. No condition but that the words are words. -/
import Derived.Test.YtaehehoeidnidaaNatR
import Derived.Test.YtaehehoeidnidaaNatB
namespace Go.Proofs.Ytaehehoeidnidaa
open Go.ChangeShapes Go.WideShapes Go.ChangeAt Go.RowKit
set_option linter.unusedVariables false

abbrev tQ : TypeId := 52
theorem w64n {n : Nat} (h : n ≤ 9223372036854775807) : wrap64 (n : Int) = (n : Int) := by unfold wrap64; omega
theorem w64s {n : Nat} (h : n < 9223372036854775807) : wrap64 ((n : Int) + 1) = ((n + 1 : Nat) : Int) := by unfold wrap64; omega
theorem wok_nil : wok [] := fun i hi => by cases hi
theorem add_step {a b : List Nat} {o : List Nat} {cr k : Nat} (ka : wok a) (kb : wok b) (ho : o.length = k) (hk : wok o) (hc : cr ≤ 1) (he : nv o + cr * wB ^ k = gv (wo a) k + gv (wo b) k) :
    wok (o ++ [(wo a k + wo b k + cr) % wB]) ∧ (wo a k + wo b k + cr) / wB ≤ 1 ∧ nv (o ++ [(wo a k + wo b k + cr) % wB]) + (wo a k + wo b k + cr) / wB * wB ^ (k + 1) = gv (wo a) (k + 1) + gv (wo b) (k + 1) := by
  have h1 := ka.all k
  have h2 := kb.all k
  refine ⟨wok_snoc hk (Nat.mod_lt _ (by decide)), ?_, ?_⟩
  · show (wo a k + wo b k + cr) / 18446744073709551616 ≤ 1
    have h1' : wo a k < 18446744073709551616 := h1
    have h2' : wo b k < 18446744073709551616 := h2
    omega
  rw [nv_snoc, ho, gv, gv, wp_succ]
  have h3 := Nat.mod_add_div (wo a k + wo b k + cr) wB
  generalize (wo a k + wo b k + cr) % wB = s at *
  generalize (wo a k + wo b k + cr) / wB = q at *
  have h4 : (s + wB * q) * wB ^ k = (wo a k + wo b k + cr) * wB ^ k := by rw [h3]
  rw [Nat.add_mul, Nat.add_mul, Nat.add_mul, Nat.mul_comm wB q, Nat.mul_assoc, Nat.mul_comm wB (wB ^ k)] at h4
  omega
theorem add_last {a b : List Nat} {o : List Nat} {cr N : Nat} (ka : wok a) (kb : wok b) (hk : wok o) (la : a.length ≤ N) (lb : b.length ≤ N) (he : nv o + cr * wB ^ (N + 1) = gv (wo a) (N + 1) + gv (wo b) (N + 1)) : nv o = nv a + nv b := by
  rw [nv_gv (by omega), nv_gv (by omega)] at he
  have h1 : nv a < wB ^ N := Nat.lt_of_lt_of_le (nv_lt ka) (Nat.pow_le_pow_right (by decide) la)
  have h2 : nv b < wB ^ N := Nat.lt_of_lt_of_le (nv_lt kb) (Nat.pow_le_pow_right (by decide) lb)
  have h3 : wB ^ (N + 1) = wB ^ N * 18446744073709551616 := wp_succ N
  generalize wB ^ N = P at *
  rw [h3] at he
  have h4 : cr = 0 := by
    rcases Nat.eq_zero_or_pos cr with h | h
    · exact h
    · have : 1 * (P * 18446744073709551616) ≤ cr * (P * 18446744073709551616) := Nat.mul_le_mul_right _ h
      omega
  subst h4
  omega
/-- What is handed back: words that are cut to the last one that is not 0. -/
theorem trim_own {A : Option Addr} {o : List Nat} {c : Nat} {u : World} {B : Nat} (ho : Own u B tQ (.slice A o.length c) (u64s o)) (hk : wok o) (m : Nat) :
    Seg (u.drewN m) (u.drewN m).heap.size A (u64s (wd (nv o))) ∧ (wd (nv o)).length = wlen o o.length := by
  have h1 := ho.seg.pre (wlen o o.length)
  rw [← List.map_take, take_wlen hk] at h1
  refine ⟨h1, ?_⟩
  rw [← take_wlen hk]
  have := wlen_le o o.length
  simp; omega
set_option maxRecDepth 20000 in
set_option maxHeartbeats 2000000 in
theorem nadd_ok (A C : Option Addr) (a b : List Nat) (c d B : Nat) (w : World) (hs : Seg w w.heap.size A (u64s a)) (ht : Seg w w.heap.size C (u64s b)) (ka : wok a) (kb : wok b) (ra : nright a) (rb : nright b) :
    Calls Try.prog 44 #[.slice A a.length c, .slice C b.length d] w fun e w' => NOut w w' e (nfits (nv a + nv b)).1 (nfits (nv a + nv b)).2 := by
  have HS := Lib.hid hs
  have HT := Lib.hid ht
  have dra := decide_eq_true ra
  have drb := decide_eq_true rb
  have HRa := Lib.hid (fun u (h : Seg u w.heap.size A (u64s a)) => nright_any A a c w.heap.size u h)
  have HRb := Lib.hid (fun u (h : Seg u w.heap.size C (u64s b)) => nright_any C b d w.heap.size u h)
  rw [dra] at HRa
  rw [drb] at HRb
  clear dra drb hs ht
  obtain ⟨N, hN⟩ : ∃ N, N = max a.length b.length := ⟨_, rfl⟩
  have HN : Hid (a.length ≤ N ∧ b.length ≤ N ∧ N ≤ 64) := by have := ra.1; have := rb.1; unfold Hid; omega
  have HK := Lib.hid (And.intro ka kb)
  have HE : Hid (nfits (nv a + nv b) = if 64 < (wd (nv a + nv b)).length then ([], 4) else (wd (nv a + nv b), 0)) := rfl
  obtain ⟨M, hM⟩ : ∃ M, M = N + 1 := ⟨_, rfl⟩
  have u1 : Hid (wrap64 ((N : Int) + 1) = (M : Int)) := by rw [hM]; exact w64s (by have := HN.out; omega)
  have HM := Lib.hid hM
  clear hM
  have hcase : ((a.length : Int) < (b.length : Int) ∧ Hid (wrap64 ((b.length : Int) + 1) = (M : Int))) ∨ (¬ (a.length : Int) < (b.length : Int) ∧ Hid (wrap64 ((a.length : Int) + 1) = (M : Int))) := by
    by_cases h : a.length < b.length
    · exact .inl ⟨by omega, by unfold Hid; rw [show ((b.length : Nat) : Int) = (N : Int) by omega]; exact u1.out⟩
    · exact .inr ⟨by omega, by unfold Hid; rw [show ((a.length : Nat) : Int) = (N : Int) by omega]; exact u1.out⟩
  clear hN ka kb ra rb
  rcases hcase with ⟨hc1, HC2⟩ | ⟨hc1, HC2⟩
  all_goals
    go_enter Try.func44, Try.ntmps44
    go_wp2_with fail
    refine (HRa.out _ HS.out).mono ?_
    rintro e w1 ⟨rfl, rfl⟩
    go_wp2_with fail
    refine (HRb.out _ HT.out).mono ?_
    rintro e w2 ⟨rfl, rfl⟩
    go_wp2_with fail
    --LOOK1
    rw [HC2.out]
    clear hc1
    go_loopw [6, 7, 24] (fun s6 s7 s24 wx => ∃ (k cr : Nat) (o : List Nat), k ≤ M ∧ s24 = .int .i64 k ∧ s7 = u64v cr ∧ Hid (o.length = k ∧ wok o ∧ cr ≤ 1 ∧ nv o + cr * wB ^ k = gv (wo a) k + gv (wo b) k) ∧ Hid (Own wx w2.heap.size tQ s6 (u64s o)) ∧ Hid (Below w2.heap.size w2 wx)) (fun _ _ s24 _ => M - (intOf s24).toNat)
    case atStart => exact ⟨0, 0, [], Nat.zero_le _, rfl, rfl, Lib.hid (And.intro rfl (And.intro wok_nil (And.intro (by decide) rfl))), Own.none_, Below.refl _ _⟩
    case round =>
      obtain ⟨k, cr, o, hk, rfl, rfl, hi, ho, hb⟩ := hrel
      by_cases hlt : k < M
      · have i1 : (k : Int) < (M : Int) := by omega
        have HA := Lib.hid (fun u (h : Below w2.heap.size w2 u) => word_any A a k c w2.heap.size u (HS.out.below h))
        have HB := Lib.hid (fun u (h : Below w2.heap.size w2 u) => word_any C b k d w2.heap.size u (HT.out.below h))
        have hadd := fun u => add64_run (wo a k) (wo b k) cr hi.out.2.2.1 u
        have HST := Lib.hid (add_step HK.out.1 HK.out.2 hi.out.1 hi.out.2.1 hi.out.2.2.1 hi.out.2.2.2)
        have HKN := Lib.hid (And.intro hk hlt)
        have uk : Hid (wrap64 ((k : Int) + 1) = ((k + 1 : Nat) : Int)) := w64s (by have := HN.out; have := HM.out; omega)
        have HPL : Hid (((u64s o).length + 1) * 8 ≤ 140737488355328 ∧ (u64s o).length + 1 ≤ maxLen) := by
          have h1 := hi.out.1; have h2 := HN.out; have h3 := HM.out
          unfold Hid maxLen; rw [List.length_map]; omega
        have HSZ := Lib.hid hb.out.size
        clear hlt hk
        obtain ⟨X, hX⟩ : ∃ X, X = (wo a k + wo b k + cr) % 18446744073709551616 := ⟨_, rfl⟩
        obtain ⟨Y, hY⟩ : ∃ Y, Y = (wo a k + wo b k + cr) / 18446744073709551616 := ⟨_, rfl⟩
        rw [← hX, ← hY] at HST
        rw [← hX, ← hY] at hadd
        clear hX hY
        obtain ⟨x, hx⟩ : ∃ x, x = wo a k := ⟨_, rfl⟩
        obtain ⟨y, hy⟩ : ∃ y, y = wo b k := ⟨_, rfl⟩
        rw [← hx, ← hy] at hadd
        rw [← hx] at HA
        rw [← hy] at HB
        clear hx hy
        --LOOK2
        go_wp2_with fail
        refine (HA.out _ hb.out).mono ?_
        rintro e u1 ⟨rfl, rfl⟩
        go_wp2_with fail
        refine (HB.out _ hb.out).mono ?_
        rintro e u2 ⟨rfl, rfl⟩
        go_wp2_with (first
          | (at_builtin; go_must (refine wpList_push _ rfl _ _ 51 tQ 8 elem_u64s rfl w2.heap.size _ _ rfl (Own.alloc' ho.out _) (u64v X) ⟨u2.heap.size, 0, none⟩ 1 rfl (cell_new1 _ _ _) rfl HPL.out.1 HPL.out.2 (by simp; exact Nat.le_succ_of_le HSZ.out) ?_); intro v6 w6 hown6 hbel6; have HO6 := Lib.hid hown6; have HB6 := Lib.hid hbel6; clear hown6 hbel6)
          | fail)
        go_roundw
        --LOOKr
        case rel => exact ⟨k + 1, Y, o ++ [X], by have := HKN.out; omega, by rw [uk.out], rfl, Lib.hid (And.intro (by simp [hi.out.1]) HST.out), by have := HO6.out; unfold Hid; simpa using this, (hb.out.alloc HSZ.out _).trans HB6.out⟩
        case measure => rw [uk.out]; have := HKN.out; simp [intOf]; omega
      · obtain rfl : k = M := by omega
        have hiM := hi.out.2.2.2
        rw [HM.out] at hiM
        have hv := add_last HK.out.1 HK.out.2 hi.out.2.1 HN.out.1 HN.out.2.1 hiM
        obtain ⟨A', c', rfl, hc', ho2⟩ := ho.out.res2
        have e1 : (u64s o).length = o.length := by simp
        rw [e1] at ho2 hc'
        rw [e1]
        have HO := Lib.hid ho2
        have HTR := Lib.hid (fun m => trim_own ho2 hi.out.2.1 m)
        rw [hv] at HTR
        have HTW := Lib.hid (fun u (h : Seg u wr.heap.size A' (u64s o)) => trim_words A' o c' wr.heap.size u h hc' (by have := hi.out.1; have := HN.out; have := HM.out; omega))
        clear ho2 hc' hk hlt hv e1 hiM
        go_wp2_with fail
        refine (HTW.out _ HO.out.seg).mono ?_
        rintro e u1 ⟨rfl, m, rfl⟩
        rw [← (HTR.out m).2]
        by_cases h64 : 64 < (wd (nv a + nv b)).length
        · have HF : Hid (nfits (nv a + nv b) = ([], 4)) := by unfold Hid; rw [HE.out, if_pos h64]
          go_wp2_with fail
          refine (fits_no _ _ _ _ h64).mono ?_
          rintro e u2 ⟨rfl, rfl⟩
          go_wp2_with fail
          go_ret2
          rw [HF.out]
          exact NOut.nil_ (below_drewN hb.out _)
        · have HF : Hid (nfits (nv a + nv b) = (wd (nv a + nv b), 0)) := by unfold Hid; rw [HE.out, if_neg h64]
          go_wp2_with fail
          refine (fits_ok _ _ _ _ h64).mono ?_
          rintro e u2 ⟨rfl, rfl⟩
          go_wp2_with fail
          go_ret2
          rw [HF.out]
          exact ⟨A', _, rfl, Nat.le_refl _, (HTR.out m).1, below_drewN hb.out _⟩
end Go.Proofs.Ytaehehoeidnidaa
