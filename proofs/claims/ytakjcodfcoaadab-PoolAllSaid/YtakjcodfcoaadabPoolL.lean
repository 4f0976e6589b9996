/- The law PoolAll walked. No condition. -/
import Derived.Test.YtakjcodfcoaadabPoolI
import Derived.Test.YtakjcodfcoaadabPoolK
import Derived.Test.YtakjcodfcoaadabPoolF
import Derived.Lib.SmallJoins
namespace Go.Proofs.Ytakjcodfcoaadab
open Go.ChangeShapes Go.WideShapes Go.ChangeAt Go.RowKit

set_option maxRecDepth 20000 in
set_option maxHeartbeats 2000000 in
theorem small_bad (A : Option Addr) (zs ds : List Int) (C : Option Addr) (r k room : Int) (c c' : Nat) (w : World) (h : ¬ (fright r k zs.length ∧ 1 ≤ room ∧ room ≤ r)) :
    Calls Try.prog 24 #[PoolV r k (.slice A zs.length c), .int .i64 room, .slice C ds.length c'] w fun e w' => (∃ v, e = .returned (.tuple #[v, .int .i64 (psmall r k zs room ds).2]) ∧ PoolIs w' v (psmall r k zs room ds).1) ∧ Below w.heap.size w w' := by
  have hend : ∀ (w1 w2 : World), Below w.heap.size w w1 → w1.grownBy w2 (some (w.heap.size + 1)) → Below w.heap.size w w2 := fun w1 w2 h1 h2 => h1.grown h2 h1.size (by simp)
  have HEND := Lib.hid hend
  clear hend
  by_cases h0 : fright r k zs.length
  · have hr : decide (fright r k zs.length) = true := decide_eq_true h0
    have h3 : room < 1 ∨ r < room := by
      rcases Int.lt_or_le room 1 with a | a
      · exact .inl a
      · exact .inr (Int.not_le.1 fun b => h ⟨h0, a, b⟩)
    have hf : Hid (psmall r k zs room ds = ((0, 0, []), 2)) := by unfold Hid psmall; rw [if_pos h0, if_pos h3]
    have HD := Lib.hid h3
    clear h h0 h3
    by_cases hd0 : room < 1
    all_goals
      try have hd1 : r < room := by have := HD.out; omega
      go_enter Try.func24, Try.ntmps24
      go_wp2_with fail
      refine (right_any A r k _ c _).mono ?_
      rintro e w1 ⟨rfl, hb⟩
      rw [hr]
      obtain ⟨B0, B1, hb⟩ := two_blocks (by simpa using hb)
      have HB1 := Lib.hid B1
      have HB := Lib.hid hb
      have c0 := B0.cell 0 (u := .int .i64 r) rfl
      clear B0 B1 hb hr
      go_wp2_with (first | (refine wpList_store_blk rfl _ _ _ rfl (w.heap.size + 1) (pcells 0 0 (.slice none 0 0)) rfl rfl _ _ HB1.out (by kernel_rfl) rfl (pcells_one _ _ _ _ _) ?_; intro w2 hb2 hg2 hs2; have HS2 := Lib.hid hs2; have HB2 := Lib.hid hb2; have HG2 := Lib.hid hg2; clear hs2 hb2 hg2) | fail)
      refine bodyPost_ret (v := .tuple #[PoolV 0 0 (.slice none 0 0), .int .i64 2]) (results_ct (a := 7) Try.results24 _ rfl HB2.out Try.underlying35 rfl (by kernel_rfl)) rfl ⟨pool_is hf.out (nil_is _ _ _), HEND.out _ _ HB.out HG2.out⟩
  · have hf : Hid (psmall r k zs room ds = ((0, 0, []), 1)) := by unfold Hid psmall; rw [if_neg h0]
    have hr : decide (fright r k zs.length) = false := decide_eq_false h0
    clear h h0
    go_enter Try.func24, Try.ntmps24
    go_wp2_with fail
    refine (right_any A r k _ c _).mono ?_
    rintro e w1 ⟨rfl, hb⟩
    rw [hr]
    obtain ⟨B0, B1, hb⟩ := two_blocks (by simpa using hb)
    have HB1 := Lib.hid B1
    have HB := Lib.hid hb
    clear B0 B1 hb hr
    go_wp2_with (first | (refine wpList_store_blk rfl _ _ _ rfl (w.heap.size + 1) (pcells 0 0 (.slice none 0 0)) rfl rfl _ _ HB1.out (by kernel_rfl) rfl (pcells_one _ _ _ _ _) ?_; intro w2 hb2 hg2 hs2; have HS2 := Lib.hid hs2; have HB2 := Lib.hid hb2; have HG2 := Lib.hid hg2; clear hs2 hb2 hg2) | fail)
    refine bodyPost_ret (v := .tuple #[PoolV 0 0 (.slice none 0 0), .int .i64 1]) (results_ct (a := 7) Try.results24 _ rfl HB2.out Try.underlying35 rfl (by kernel_rfl)) rfl ⟨pool_is hf.out (nil_is _ _ _), HEND.out _ _ HB.out HG2.out⟩

set_option maxRecDepth 20000 in
set_option maxHeartbeats 2000000 in
theorem fsmall_bad (A : Option Addr) (zs ds : List Int) (C : Option Addr) (r k room : Int) (c c' : Nat) (w : World) (h : ¬ (fright r k zs.length ∧ 1 ≤ room ∧ room ≤ r)) :
    Calls Try.prog 25 #[PoolV r k (.slice A zs.length c), .int .i64 room, .slice C ds.length c'] w fun e w' => (∃ v, e = .returned (.tuple #[v, .int .i64 (psmall r k zs room ds).2]) ∧ PoolIs w' v (psmall r k zs room ds).1) ∧ Below w.heap.size w w' := by
  have hend : ∀ (w1 w2 : World), Below w.heap.size w w1 → w1.grownBy w2 (some (w.heap.size + 1)) → Below w.heap.size w w2 := fun w1 w2 h1 h2 => h1.grown h2 h1.size (by simp)
  have HEND := Lib.hid hend
  clear hend
  by_cases h0 : fright r k zs.length
  · have hr : decide (fright r k zs.length) = true := decide_eq_true h0
    have h3 : room < 1 ∨ r < room := by
      rcases Int.lt_or_le room 1 with a | a
      · exact .inl a
      · exact .inr (Int.not_le.1 fun b => h ⟨h0, a, b⟩)
    have hf : Hid (psmall r k zs room ds = ((0, 0, []), 2)) := by unfold Hid psmall; rw [if_pos h0, if_pos h3]
    have HD := Lib.hid h3
    clear h h0 h3
    by_cases hd0 : room < 1
    all_goals
      try have hd1 : r < room := by have := HD.out; omega
      go_enter Try.func25, Try.ntmps25
      go_wp2_with fail
      refine (rright_any A r k _ c _).mono ?_
      rintro e w1 ⟨rfl, hb⟩
      rw [hr]
      obtain ⟨B0, B1, hb⟩ := two_blocks (by simpa using hb)
      have HB1 := Lib.hid B1
      have HB := Lib.hid hb
      have c0 := B0.cell 0 (u := .int .i64 r) rfl
      clear B0 B1 hb hr
      go_wp2_with (first | (refine wpList_store_blk rfl _ _ _ rfl (w.heap.size + 1) (pcells 0 0 (.slice none 0 0)) rfl rfl _ _ HB1.out (by kernel_rfl) rfl (pcells_one _ _ _ _ _) ?_; intro w2 hb2 hg2 hs2; have HS2 := Lib.hid hs2; have HB2 := Lib.hid hb2; have HG2 := Lib.hid hg2; clear hs2 hb2 hg2) | fail)
      refine bodyPost_ret (v := .tuple #[PoolV 0 0 (.slice none 0 0), .int .i64 2]) (results_ct (a := 7) Try.results25 _ rfl HB2.out Try.underlying35 rfl (by kernel_rfl)) rfl ⟨pool_is hf.out (nil_is _ _ _), HEND.out _ _ HB.out HG2.out⟩
  · have hf : Hid (psmall r k zs room ds = ((0, 0, []), 1)) := by unfold Hid psmall; rw [if_neg h0]
    have hr : decide (fright r k zs.length) = false := decide_eq_false h0
    clear h h0
    go_enter Try.func25, Try.ntmps25
    go_wp2_with fail
    refine (rright_any A r k _ c _).mono ?_
    rintro e w1 ⟨rfl, hb⟩
    rw [hr]
    obtain ⟨B0, B1, hb⟩ := two_blocks (by simpa using hb)
    have HB1 := Lib.hid B1
    have HB := Lib.hid hb
    clear B0 B1 hb hr
    go_wp2_with (first | (refine wpList_store_blk rfl _ _ _ rfl (w.heap.size + 1) (pcells 0 0 (.slice none 0 0)) rfl rfl _ _ HB1.out (by kernel_rfl) rfl (pcells_one _ _ _ _ _) ?_; intro w2 hb2 hg2 hs2; have HS2 := Lib.hid hs2; have HB2 := Lib.hid hb2; have HG2 := Lib.hid hg2; clear hs2 hb2 hg2) | fail)
    refine bodyPost_ret (v := .tuple #[PoolV 0 0 (.slice none 0 0), .int .i64 1]) (results_ct (a := 7) Try.results25 _ rfl HB2.out Try.underlying35 rfl (by kernel_rfl)) rfl ⟨pool_is hf.out (nil_is _ _ _), HEND.out _ _ HB.out HG2.out⟩

theorem small_any (A C : Option Addr) (zs ds : List Int) (r k room : Int) (c c' : Nat) (w : World) (hs : Seg w w.heap.size A (zs.map (.int .i64))) (ht : Seg w w.heap.size C (ds.map (.int .i64))) (hdc : ds.length ≤ c') (hcm : c' ≤ maxLen) :
    Calls Try.prog 24 #[PoolV r k (.slice A zs.length c), .int .i64 room, .slice C ds.length c'] w fun e w' => (∃ v, e = .returned (.tuple #[v, .int .i64 (psmall r k zs room ds).2]) ∧ PoolIs w' v (psmall r k zs room ds).1) ∧ Below w.heap.size w w' := by
  by_cases h : fright r k zs.length ∧ 1 ≤ room ∧ room ≤ r
  · exact small_good A C zs ds r k room c c' w hs ht hdc hcm h.1 h.2.1 h.2.2
  · exact small_bad A zs ds C r k room c c' w h
theorem fsmall_any (A C : Option Addr) (zs ds : List Int) (r k room : Int) (c c' : Nat) (w : World) (hA : A = none → c = 0) (hs : Seg w w.heap.size A (zs.map (.int .i64))) (ht : Seg w w.heap.size C (ds.map (.int .i64))) (hdc : ds.length ≤ maxLen) :
    Calls Try.prog 25 #[PoolV r k (.slice A zs.length c), .int .i64 room, .slice C ds.length c'] w fun e w' => (∃ v, e = .returned (.tuple #[v, .int .i64 (psmall r k zs room ds).2]) ∧ PoolIs w' v (psmall r k zs room ds).1) ∧ Below w.heap.size w w' := by
  by_cases h : fright r k zs.length ∧ 1 ≤ room ∧ room ≤ r
  · exact fsmall_good A C zs ds r k room c c' w hA hs ht hdc h.1 h.2.1 h.2.2
  · exact fsmall_bad A zs ds C r k room c c' w h
theorem all_any (A C : Option Addr) (l ds : List Int) (room : Int) (c c' : Nat) (w : World) (hs : Seg w w.heap.size A (l.map (.int .i64))) (ht : Seg w w.heap.size C (ds.map (.int .i64))) (hm : l.length ≤ maxLen) :
    Calls Try.prog 22 #[.int .i64 room, .slice A l.length c, .slice C ds.length c'] w fun e w' => (∃ v, e = .returned (.tuple #[v, .int .i64 (pall room l ds).2]) ∧ PoolIs w' v (pall room l ds).1) ∧ Below w.heap.size w w' := by
  by_cases h : 1 ≤ room ∧ room ≤ 400 ∧ l.length = ds.length
  · exact all_good A C l ds room c c' w hs ht hm h.1 h.2.1 h.2.2
  · exact all_bad A C l ds room c c' w h
theorem fall_any (A C : Option Addr) (l ds : List Int) (room : Int) (c c' : Nat) (w : World) (hs : Seg w w.heap.size A (l.map (.int .i64))) (ht : Seg w w.heap.size C (ds.map (.int .i64))) (hm : l.length ≤ maxLen) :
    Calls Try.prog 23 #[.int .i64 room, .slice A l.length c, .slice C ds.length c'] w fun e w' => (∃ v, e = .returned (.tuple #[v, .int .i64 (pall room l ds).2]) ∧ PoolIs w' v (pall room l ds).1) ∧ Below w.heap.size w w' := by
  by_cases h : 1 ≤ room ∧ room ≤ 400 ∧ l.length = ds.length
  · exact fall_good A C l ds room c c' w hs ht hm h.1 h.2.1 h.2.2
  · exact fall_bad A C l ds room c c' w h

theorem padd_good_len (r k x d : Int) (zs : List Int) (h : (padd r k zs x d).2 = 0) : (padd r k zs x d).1.2.2.length ≤ 400 := by
  unfold padd at h ⊢
  by_cases h0 : padde r k d zs.length = 0
  · rw [if_pos h0]
    obtain ⟨⟨_, _, _, _, h5⟩, _⟩ := padde_zero h0
    unfold paddl
    split
    · simp; omega
    · split <;> simp <;> omega
  · rw [if_neg h0] at h; exact absurd h h0
theorem pgo_len (l : List Int) : ∀ (p : Int × Int × List Int) (ds : List Int), p.2.2.length ≤ 400 → (pgo p l ds).1.2.2.length ≤ 400 := by
  induction l with
  | nil => intro p ds h; cases ds <;> exact h
  | cons x l ih =>
    intro p ds h
    cases ds with
    | nil => exact h
    | cons d ds =>
      show (if (padd p.1 p.2.1 p.2.2 x d).2 = 0 then pgo (padd p.1 p.2.1 p.2.2 x d).1 l ds else ((0, 0, []), (padd p.1 p.2.1 p.2.2 x d).2)).1.2.2.length ≤ 400
      by_cases hq : (padd p.1 p.2.1 p.2.2 x d).2 = 0
      · rw [if_pos hq]; exact ih _ _ (padd_good_len _ _ _ _ _ hq)
      · rw [if_neg hq]; simp
theorem pall_len (room : Int) (l ds : List Int) : (pall room l ds).1.2.2.length ≤ 400 := by
  unfold pall
  split
  · split
    · exact pgo_len _ _ _ (by simp)
    · simp
  · simp
theorem pdel_len (room : Int) (ds : List Int) : ∀ zs : List Int, (pdel room ds zs).1.length ≤ zs.length := by
  induction ds with
  | nil => intro zs; simp only [pdel]; split <;> simp
  | cons d ds ih =>
    intro zs
    simp only [pdel]
    split
    · exact Nat.le_refl _
    · split
      · simp
      · exact Nat.le_trans (ih _) (List.length_eraseIdx_le _ _)
theorem psmall_len (r k : Int) (zs : List Int) (room : Int) (ds : List Int) : (psmall r k zs room ds).1.2.2.length ≤ 400 := by
  unfold psmall
  by_cases h : fright r k zs.length
  · rw [if_pos h]
    obtain ⟨_, _, _, _, h5⟩ := h
    split
    · simp
    · split
      · have := pdel_len room ds zs; simp only; omega
      · simp
  · rw [if_neg h]; simp

set_option maxRecDepth 20000 in
set_option maxHeartbeats 4000000 in
theorem PoolAll_core (A C P : Option Addr) (l ds zs : List Int) (r k room : Int) (c c' n : Nat) (w : World) (hs : Seg w w.heap.size A (l.map (.int .i64))) (ht : Seg w w.heap.size C (ds.map (.int .i64))) (hp : Seg w w.heap.size P (zs.map (.int .i64)))
    (hc : l.length ≤ c) (hcm : c ≤ maxLen) (hdc : ds.length ≤ c') (hdm : c' ≤ maxLen) (hP : P = none → n = 0) :
    Calls Try.prog 5 #[.int .i64 room, .slice A l.length c, .slice C ds.length c', PoolV r k (.slice P zs.length n)] w fun e w' => e = .returned (.bool true) ∧ Below w.heap.size w w' := by
  have HS := Lib.hid hs
  have HT := Lib.hid ht
  have HP := Lib.hid hp
  have M1 : Hid (l.length ≤ maxLen) := Nat.le_trans hc hcm
  have M2 : Hid (ds.length ≤ maxLen) := Nat.le_trans hdc hdm
  have M3 := Lib.hid hdc
  have M4 := Lib.hid hdm
  have M5 := Lib.hid hP
  have L1 := Lib.hid (pall_len room l ds)
  have L2 := Lib.hid (psmall_len r k zs room ds)
  clear hs ht hp hc hcm hdc hdm hP
  go_enter Try.func5, Try.ntmps5
  go_wp2_with fail
  have HE0 : Hid (Below w.heap.size w (w.alloc (.cells (pcells r k (.slice P zs.length n)) 35))) := (Below.refl _ _).alloc (Nat.le_refl _) _
  refine (all_any A C l ds room c c' _ ((HS.out.below HE0.out).more HE0.out.size) ((HT.out.below HE0.out).more HE0.out.size) M1.out).mono ?_
  rintro e w1 ⟨⟨v1, rfl, hp1⟩, hb1⟩
  have B7 : Hid (Blk w1 w.heap.size 35 (pcells r k (.slice P zs.length n))) := (Blk.new w _ _).below hb1 (by simp)
  have HE1 : Hid (Below w.heap.size w w1) := HE0.out.trans (hb1.mono HE0.out.size)
  have HP1 := Lib.hid hp1
  generalize hpa : pall room l ds = pa at *
  obtain ⟨⟨qr, qk, ql⟩, qe⟩ := pa
  have HPA := Lib.hid hpa
  obtain ⟨A1, c1, rfl, s1⟩ := hp1
  have k0 := B7.out.cell 0 (u := .int .i64 r) rfl
  have k1 := B7.out.cell 1 (u := .int .i64 k) rfl
  have k2 := B7.out.cell 2 (u := .slice P zs.length n) rfl
  have hl7 := B7.out.lt
  clear hb1 s1 hpa
  dsimp only
  go_wp2_with fail
  have HE2 : Hid (Below w.heap.size w (w1.alloc (.cells (pcells qr qk (.slice A1 ql.length c1)) 35))) := HE1.out.alloc HE1.out.size _
  refine (fall_any A C l ds room c c' _ ((HS.out.below HE2.out).more HE2.out.size) ((HT.out.below HE2.out).more HE2.out.size) M1.out).mono ?_
  rintro e w2 ⟨⟨v2, rfl, hp2⟩, hb2⟩
  rw [HPA.out] at hp2
  rw [HPA.out]
  have C7 : Hid (Blk w2 w.heap.size 35 (pcells r k (.slice P zs.length n))) := (B7.out.alloc _).below hb2 (by simp; omega)
  have C9 : Hid (Blk w2 w1.heap.size 35 (pcells qr qk (.slice A1 ql.length c1))) := (Blk.new w1 _ _).below hb2 (by simp)
  have HE3 : Hid (Below w1.heap.size w1 w2) := ((Below.refl _ _).alloc (Nat.le_refl _) _).trans (hb2.mono (by simp))
  have HE4 : Hid (Below w.heap.size w w2) := HE1.out.trans (HE3.out.mono HE1.out.size)
  have HP1' := Lib.hid (HP1.out.below HE3.out)
  have HP2 := Lib.hid hp2
  obtain ⟨A2, c2, rfl, s2⟩ := hp2
  clear hb2 s2 k0 k1 k2 hl7
  have k0 := C7.out.cell 0 (u := .int .i64 r) rfl
  have k1 := C7.out.cell 1 (u := .int .i64 k) rfl
  have k2 := C7.out.cell 2 (u := .slice P zs.length n) rfl
  have hl7 := C7.out.lt
  dsimp only
  go_wp2_with fail
  have HE5 : Hid (Below w.heap.size w (w2.alloc (.cells (pcells qr qk (.slice A2 ql.length c2)) 35))) := HE4.out.alloc HE4.out.size _
  refine (small_any P C zs ds r k room n c' _ ((HP.out.below HE5.out).more HE5.out.size) ((HT.out.below HE5.out).more HE5.out.size) M3.out M4.out).mono ?_
  rintro e w3 ⟨⟨v3, rfl, hp3⟩, hb3⟩
  have D7 : Hid (Blk w3 w.heap.size 35 (pcells r k (.slice P zs.length n))) := (C7.out.alloc _).below hb3 (by simp; omega)
  have D9 : Hid (Blk w3 w1.heap.size 35 (pcells qr qk (.slice A1 ql.length c1))) := (C9.out.alloc _).below hb3 (by have := C9.out.lt; simp; omega)
  have D11 : Hid (Blk w3 w2.heap.size 35 (pcells qr qk (.slice A2 ql.length c2))) := (Blk.new w2 _ _).below hb3 (by simp)
  have HE6 : Hid (Below w2.heap.size w2 w3) := ((Below.refl _ _).alloc (Nat.le_refl _) _).trans (hb3.mono (by simp))
  have HE7 : Hid (Below w.heap.size w w3) := HE4.out.trans (HE6.out.mono HE4.out.size)
  have HP1a := Lib.hid (HP1'.out.below HE6.out)
  have HP2a := Lib.hid (HP2.out.below HE6.out)
  have HP3 := Lib.hid hp3
  generalize hpb : psmall r k zs room ds = pb at *
  obtain ⟨⟨sr, sk, sl⟩, se⟩ := pb
  have HPB := Lib.hid hpb
  obtain ⟨A3, c3, rfl, s3⟩ := hp3
  clear hb3 s3 k0 k1 k2 hl7 hpb
  have k0 := D7.out.cell 0 (u := .int .i64 r) rfl
  have k1 := D7.out.cell 1 (u := .int .i64 k) rfl
  have k2 := D7.out.cell 2 (u := .slice P zs.length n) rfl
  have hl7 := D7.out.lt
  dsimp only
  go_wp2_with fail
  have HE8 : Hid (Below w.heap.size w (w3.alloc (.cells (pcells sr sk (.slice A3 sl.length c3)) 35))) := HE7.out.alloc HE7.out.size _
  refine (fsmall_any P C zs ds r k room n c' _ M5.out ((HP.out.below HE8.out).more HE8.out.size) ((HT.out.below HE8.out).more HE8.out.size) M2.out).mono ?_
  rintro e w4 ⟨⟨v4, rfl, hp4⟩, hb4⟩
  rw [HPB.out] at hp4
  rw [HPB.out]
  have F9 : Hid (Blk w4 w1.heap.size 35 (pcells qr qk (.slice A1 ql.length c1))) := (D9.out.alloc _).below hb4 (by have := D9.out.lt; simp; omega)
  have F11 : Hid (Blk w4 w2.heap.size 35 (pcells qr qk (.slice A2 ql.length c2))) := (D11.out.alloc _).below hb4 (by have := D11.out.lt; simp; omega)
  have F13 : Hid (Blk w4 w3.heap.size 35 (pcells sr sk (.slice A3 sl.length c3))) := (Blk.new w3 _ _).below hb4 (by simp)
  have HE9 : Hid (Below w3.heap.size w3 w4) := ((Below.refl _ _).alloc (Nat.le_refl _) _).trans (hb4.mono (by simp))
  have HE10 : Hid (Below w.heap.size w w4) := HE7.out.trans (HE9.out.mono HE7.out.size)
  have HP1b := Lib.hid (HP1a.out.below HE9.out)
  have HP2b := Lib.hid (HP2a.out.below HE9.out)
  have HP3b := Lib.hid (HP3.out.below HE9.out)
  have HP4 := Lib.hid hp4
  obtain ⟨A4, c4, rfl, s4⟩ := hp4
  clear hb4 s4 k0 k1 k2 hl7
  have a0 := F9.out.cell 0 (u := .int .i64 qr) rfl
  have a1 := F9.out.cell 1 (u := .int .i64 qk) rfl
  have a2 := F9.out.cell 2 (u := .slice A1 ql.length c1) rfl
  have b0 := F11.out.cell 0 (u := .int .i64 qr) rfl
  have b1 := F11.out.cell 1 (u := .int .i64 qk) rfl
  have b2 := F11.out.cell 2 (u := .slice A2 ql.length c2) rfl
  have hl9 := F9.out.lt
  have hl11 := F11.out.lt
  have e1 : (qe == qe) = true := by simp
  have e2 : (se == se) = true := by simp
  have HK : Hid (Below w4.heap.size w4 (w4.alloc (.cells (pcells sr sk (.slice A4 sl.length c4)) 35))) := (Below.refl _ _).alloc (Nat.le_refl _) _
  dsimp only
  go_wp2_with fail
  refine (same_refl _ _ _ _ (HP1b.out.below HK.out) (HP2b.out.below HK.out) (by have := L1.out; simp; omega)).mono ?_
  rintro e w5 ⟨rfl, hb5⟩
  have HE11 : Hid (Below w4.heap.size w4 w5) := HK.out.trans (hb5.mono HK.out.size)
  have G13 := Lib.hid (F13.out.below HE11.out F13.out.lt)
  have G15 : Hid (Blk w5 w4.heap.size 35 (pcells sr sk (.slice A4 sl.length c4))) := (Blk.new w4 _ _).below hb5 (by simp)
  have HP3c := Lib.hid (HP3b.out.below HE11.out)
  have HP4c := Lib.hid (HP4.out.below HE11.out)
  clear hb5 a0 a1 a2 b0 b1 b2 hl9 hl11
  have a0 := G13.out.cell 0 (u := .int .i64 sr) rfl
  have a1 := G13.out.cell 1 (u := .int .i64 sk) rfl
  have a2 := G13.out.cell 2 (u := .slice A3 sl.length c3) rfl
  have b0 := G15.out.cell 0 (u := .int .i64 sr) rfl
  have b1 := G15.out.cell 1 (u := .int .i64 sk) rfl
  have b2 := G15.out.cell 2 (u := .slice A4 sl.length c4) rfl
  go_wp2_with fail
  refine (same_refl _ _ _ _ HP3c.out HP4c.out (by have := L2.out; simp; omega)).mono ?_
  rintro e w6 ⟨rfl, hb6⟩
  have HE12 : Hid (Below w.heap.size w w6) := (HE10.out.trans (HE11.out.mono HE10.out.size)).trans (hb6.mono (Nat.le_trans HE10.out.size HE11.out.size))
  clear hb6
  go_wp2
  go_ret
  exact ⟨rfl, HE12.out⟩

section
variable {H : Type} {enc : TypeId × Value → H} {P : Program} {W : World}
theorem open_seg_ints2 {t e : TypeId} {k : IntKind} {v : Value} {d : DataW H} {ps : List MemPlace} (ht : P.underlying t = some (.slice e)) (he : P.underlying e = some (.int k)) (hc : P.cellsOf e = 1)
    (h : DataW.Trod enc P W 0 (fun _ => true) true t v d ps) (hv : ∃ a len cap, v = .slice a len cap) :
    ∃ (A : Option Addr) (zs : List Int) (c : Nat), v = .slice A zs.length c ∧ zs.length ≤ c ∧ c ≤ maxLen ∧ (A = none → c = 0) ∧ Seg W W.heap.size A (zs.map (.int k)) := by
  obtain ⟨fuel, hf⟩ := h
  obtain ⟨a, len, cap, rfl⟩ := hv
  rcases open_ints ht he hc hf with ⟨hcs, _⟩ | ⟨x, l, c, zs, hcs, _, hl, hm, hz, hx, hcell, hwz⟩
  · simp [Value.cells] at hcs
    obtain ⟨rfl, rfl, rfl⟩ := hcs
    exact ⟨none, [], 0, rfl, by simp, by simp, fun _ => rfl, Seg.nil⟩
  · obtain ⟨A, ys, q, e, h1, h2, _, hs⟩ := open_seg_ints ht he hc ⟨fuel, hf⟩ ⟨a, len, cap, rfl⟩
    refine ⟨A, ys, q, e, h1, h2, fun hA => ?_, hs⟩
    simp [Value.cells] at hcs
    injection e with e1 e2 e3
    rw [← e1, hcs.1] at hA
    cases hA
end
theorem open_pool2 {H : Type} {enc : TypeId × Value → H} {W : World} {v : Value} {d : DataW H} {ps : List MemPlace} {r : Reach} {b0 : Nat}
    (h : DataW.Trod enc Try.prog W 0 (fun _ => true) true 35 v d ps) (hv : Value.okWide Try.prog W r b0 35 v) :
    ∃ p : Int × Int × Option Addr × List Int × Nat, v = PoolV p.1 p.2.1 (.slice p.2.2.1 p.2.2.2.1.length p.2.2.2.2) ∧ (Seg W W.heap.size p.2.2.1 (p.2.2.2.1.map (.int .i64)) ∧ (p.2.2.1 = none → p.2.2.2.2 = 0)) := by
  obtain ⟨v0, v1, v2, y0, y1, y2, n, rfl, rfl, rfl, h0, h1, h2⟩ := Joins.open_agg3 Try.underlying35 (by kernel_rfl) (by kernel_rfl) hv h
  obtain ⟨r, e0, _, _⟩ := DataW.trod_int Try.underlying3 h0
  obtain ⟨k, e1, _, _⟩ := DataW.trod_int Try.underlying3 h1
  obtain ⟨a, l, c, e2⟩ := Joins.slice_form Try.underlying22 h2
  simp at e0 e1 e2
  subst e0 e1 e2
  obtain ⟨A, zs, c', e, _, _, hA, hs⟩ := open_seg_ints2 (v := .slice a l c) Try.underlying22 Try.underlying3 (by kernel_rfl) ⟨n, by simpa [Value.cells] using h2⟩ ⟨a, l, c, rfl⟩
  injection e with ea el ec
  subst ea el ec
  exact ⟨(r, k, a, zs, c), rfl, hs, hA⟩
theorem PoolAll_walk (a0 : Int) (A1 : Option Addr) (z1 : List Int) (c1 : Nat) (A2 : Option Addr) (z2 : List Int) (c2 : Nat) (p : Int × Int × Option Addr × List Int × Nat) (w : World) (_w0 : (Lit.int .i64 a0).wf = true)
    (hc1 : z1.length ≤ c1) (hm1 : c1 ≤ maxLen) (_hw1 : ∀ n ∈ z1, (Lit.int .i64 n).wf = true) (s1 : Seg w w.heap.size A1 (z1.map (.int .i64))) (hc2 : z2.length ≤ c2) (hm2 : c2 ≤ maxLen) (_hw2 : ∀ n ∈ z2, (Lit.int .i64 n).wf = true) (s2 : Seg w w.heap.size A2 (z2.map (.int .i64)))
    (s3 : Seg w w.heap.size p.2.2.1 (p.2.2.2.1.map (.int .i64)) ∧ (p.2.2.1 = none → p.2.2.2.2 = 0)) :
    Calls Try.prog 5 #[.int .i64 a0, .slice A1 z1.length c1, .slice A2 z2.length c2, PoolV p.1 p.2.1 (.slice p.2.2.1 p.2.2.2.1.length p.2.2.2.2)] w fun e w' => e = .returned (.bool true) ∧ Below w.heap.size w w' :=
  PoolAll_core A1 A2 p.2.2.1 z1 z2 p.2.2.2.1 p.1 p.2.1 a0 c1 c2 p.2.2.2.2 w s1 s2 s3.1 hc1 hm1 hc2 hm2 s3.2
end Go.Proofs.Ytakjcodfcoaadab
