/- Draws by places and levels: the reference's Make, walked. Printed by alihgen.py. No condition. -/
import Derived.Test.YtmcbkjepjijfjaaAliO
namespace Go.Proofs.Ytmcbkjepjijfjaa
open Go.ChangeShapes Go.WideShapes Go.ChangeAt Go.RowKit
set_option linter.unusedVariables false

theorem find_lowP (P : Nat → Bool) (L V T : Nat → Int) (D : Nat → Bool) (S : Int) (n cap g gl gs : Nat) (w : World) (hP : ∀ k, k < n → P k = (D k && decide (L k < S))) (hn : n ≤ 400) (hq : QRow w g n L V T D) (hl : Blk w gl 85 #[.slice (some ⟨g, 0, none⟩) n cap]) (hs : Blk w gs 3 #[.int .i64 S]) :
    Calls Try.prog 77 #[.func (.func 78) #[] #[.pointer (some ⟨gs, 0, none⟩)], .pointer (some ⟨gl, 0, none⟩)] w fun e w' => e = .returned (.int .i64 (lowf P n)) ∧ Below w.heap.size w w' :=
  (find_low L V T D S n cap g gl gs w hn hq hl hs).mono fun e w' h => ⟨by rw [h.1, lowf_congr n fun k hk => (hP k hk).symm], h.2⟩
theorem find_highP (P : Nat → Bool) (L V T : Nat → Int) (D : Nat → Bool) (S : Int) (n cap g gl gs : Nat) (w : World) (hP : ∀ k, k < n → P k = (D k && decide (S < L k))) (hn : n ≤ 400) (hq : QRow w g n L V T D) (hl : Blk w gl 85 #[.slice (some ⟨g, 0, none⟩) n cap]) (hs : Blk w gs 3 #[.int .i64 S]) :
    Calls Try.prog 77 #[.func (.func 79) #[] #[.pointer (some ⟨gs, 0, none⟩)], .pointer (some ⟨gl, 0, none⟩)] w fun e w' => e = .returned (.int .i64 (lowf P n)) ∧ Below w.heap.size w w' :=
  (find_high L V T D S n cap g gl gs w hn hq hl hs).mono fun e w' h => ⟨by rw [h.1, lowf_congr n fun k hk => (hP k hk).symm], h.2⟩

theorem cells4_grown (w : World) (g o : Nat) (a b c d : Value) : w.grownBy (w.setCells g o [a, b, c, d]) (some g) := by
  refine ⟨rfl, rfl, rfl, by simp [World.setCells], fun q _ hne => ?_⟩
  have hq : q ≠ g := fun e => hne (by rw [e])
  simp only [World.setCells]
  rw [Below.heap_setCell _ _ _ q hq, Below.heap_setCell _ _ _ q hq, Below.heap_setCell _ _ _ q hq, Below.heap_setCell _ _ _ q hq]
set_option maxRecDepth 20000 in
set_option maxHeartbeats 4000000 in
theorem hmake_any (l : List Int) (A : Option Addr) (c : Nat) (w : World) (hs : Seg w w.heap.size A (l.map (.int .i64))) (hm : l.length ≤ 9223372036854775807) :
    Calls Try.prog 46 #[.slice A l.length c] w fun e w' => POut w w' e (amakeL l) (asumR l).2 := by
  have HS := Lib.hid hs
  have HSUM := Lib.hid (hsum_any l A c _ w hs hm)
  clear hs
  by_cases he : (asumR l).2 = 0
  · obtain ⟨hn1, hn2, hok, hS0, hS1⟩ := asum_good he
    have HL : Hid (amakeL l = ptab (amakeF l).V (amakeF l).T l.length) := if_pos he
    have hS2 := (asum_bd hok l.length (Nat.le_refl _)).2
    have HST : Hid (amakeF l = AS.run (asum l l.length) l.length l.length (AS.start l l.length (asum l l.length))) := rfl
    have HX : Hid (∀ j, j < l.length → 0 ≤ pat l j ∧ pat l j ≤ 1048576) := aokc_at hok
    rw [he]
    rw [show asumR l = (asum l l.length, 0) from Prod.ext hS1 he] at HSUM
    have HE := Lib.hid he
    clear he hok hS1
    generalize asum l l.length = S at *
    go_enter Try.func46, Try.ntmps46
    go_wp2_with fail
    refine HSUM.out.mono ?_
    rintro e w1 ⟨rfl, rfl⟩
    go_wp2_with fail
    go_loopw [26] (fun s26 wr => ∃ (j : Nat) (v : Value), j ≤ l.length ∧ s26 = .int .i64 j ∧ Blk wr w.heap.size 3 #[.int .i64 S] ∧ Blk wr (w.heap.size + 1) 85 #[v] ∧ wr.ownsRow (w.heap.size + 2) 87 4 v j (qstart l l.length S j) ∧ Below w.heap.size w wr ∧ w.heap.size + 2 ≤ wr.heap.size) (fun s26 _ => l.length - (intOf s26).toNat)
    case atStart =>
      refine ⟨0, _, Nat.zero_le _, rfl, (Blk.new w _ _).alloc _, ?_, orow_none, ((Below.refl _ _).alloc (Nat.le_refl _) _).alloc (by simp) _, by simp⟩
      have h := Blk.new (w.alloc (.cells #[.int .i64 S] 3)) 85 #[.slice none 0 0]
      rwa [show (w.alloc (.cells #[.int .i64 S] 3)).heap.size = w.heap.size + 1 by simp] at h
    case round =>
      obtain ⟨j, v, hj, rfl, hbs, hbl, hown, hbel, hsz⟩ := hrel
      have HBS := Lib.hid hbs
      have HBL := Lib.hid hbl
      have HO := Lib.hid hown
      have HB := Lib.hid hbel
      have HSZ := Lib.hid hsz
      clear hbs hbl hown hbel hsz
      by_cases hlt : j < l.length
      · have i2 : (j : Int) < (l.length : Int) := by omega
        obtain ⟨ad, rfl, _, hcell⟩ := (HS.out.below HB.out).pat hlt
        have hx := HX.out j hlt
        obtain ⟨y, hy⟩ : ∃ y, pat l j * l.length = y := ⟨_, rfl⟩
        have hyb : 0 ≤ y ∧ y ≤ 419430400 := by
          rw [← hy]
          have h1 : pat l j * l.length ≤ 1048576 * l.length := Int.mul_le_mul_of_nonneg_right hx.2 (by omega)
          exact ⟨Int.mul_nonneg hx.1 (by omega), by omega⟩
        have HQS : Hid (qstart l l.length S (j + 1) = qstart l l.length S j ++ [.int .i64 y, .int .i64 S, .int .i64 j, .bool true]) := by unfold Hid; rw [qstart, hy]
        have cs := HBS.out.cell 0 rfl
        have cl := HBL.out.cell 0 rfl
        have hj4 : j ≤ 400 := by omega
        have HLO : Hid (∀ k, v.ownBlock = some k → w.heap.size + 2 ≤ k) := orow_block HO.out
        clear hx
        generalize pat l j = x at *
        go_wp2_with (first | (refine wpList_push4 _ rfl _ _ rfl (w.heap.size + 2) _ j _ rfl (World.ownsRow.alloc HO.out _) y S j true ⟨wr.heap.size, 0, none⟩ 1 rfl (orow_new4 _ _ _ _ _ _) hj4 (by simp; have := HSZ.out; omega) ?_; intro v2 w2 hown2 hgr2; obtain ⟨A9, c9, rfl⟩ := orow_shape hown2; have HO2 := Lib.hid hown2; have HBS2 := Lib.hid (Blk.row (HBS.out.alloc _) hgr2 (fun k hk => by have := HLO.out k hk; omega)); have HBL2 := Lib.hid (Blk.row (HBL.out.alloc _) hgr2 (fun k hk => by have := HLO.out k hk; omega)); have HB2 : Hid (Below w.heap.size w w2) := Below.grown (HB.out.alloc (by have := HSZ.out; omega) _) hgr2 (by simp; have := HSZ.out; omega) (fun k hk => by have := HLO.out k hk; omega); have HSZ2 : Hid (w.heap.size + 2 ≤ w2.heap.size) := Nat.le_trans (by simp; have := HSZ.out; omega) hgr2.size; have f2 := HBL2.out.frozen 0; have c2 := HBL2.out.cell 0 rfl; clear hown2 hgr2 cl cs) | fail)
        go_roundw
        case rel => exact ⟨j + 1, _, by omega, by go_num, HBS2.out.far (by simp) _, HBL2.out.set_ 0 _, by rw [HQS.out]; exact ownsRow_setCell_below HO2.out (by show w.heap.size + 1 < w.heap.size + 2; omega) _, HB2.out.setCell (by show w.heap.size ≤ w.heap.size + 1; omega) _, by simpa using HSZ2.out⟩
        case measure => simp [intOf]; omega
      · have i2 : ¬ (j : Int) < (l.length : Int) := by omega
        obtain rfl : j = l.length := by omega
        obtain ⟨g, cap, rfl, hg, hq⟩ := orow_quads HO.out hn1
        have HQ0 : Hid (QRow wr g l.length (AS.start l l.length S).L (AS.start l l.length S).V (AS.start l l.length S).T (fun k => !(AS.start l l.length S).D k)) := hq
        have HK0 : Hid ((AS.start l l.length S).ok S l.length) := AS.start_ok HX.out hn2 (by omega) (by omega)
        have cl := HBL.out.cell 0 rfl
        have HG := Lib.hid hg
        clear hq hg HO
        obtain ⟨wo, rfl⟩ : ∃ wo : World, wo = wr := ⟨_, rfl⟩
        go_wp2_with fail
        clear cl
        skip --LOOK1
        go_loopw [45] (fun s45 wr => ∃ (i : Nat) (s : AS) (L' : Nat → Int), i ≤ l.length ∧ s45 = .int .i64 i ∧ Hid (AS.run S l.length (l.length - i) s = amakeF l) ∧ Hid (s.ok S l.length) ∧ Hid (∀ k, k < l.length → s.D k = false → L' k = s.L k) ∧ QRow wr g l.length L' s.V s.T (fun k => !s.D k) ∧ Blk wr w.heap.size 3 #[.int .i64 S] ∧ Blk wr (w.heap.size + 1) 85 #[.slice (some ⟨g, 0, none⟩) l.length cap] ∧ Below w.heap.size w wr) (fun s45 _ => l.length - (intOf s45).toNat)
        case atStart => exact ⟨0, _, _, Nat.zero_le _, rfl, HST.out.symm, HK0, fun _ _ _ => rfl, HQ0.out, HBS.out, HBL.out, HB.out⟩
        case round =>
          clear HBS HBL HB HQ0 HK0
          obtain ⟨i, s, L', hi, rfl, hrun, hsok, hag, hq, hbs, hbl, hbel⟩ := hrel
          have HQ := Lib.hid hq
          have HBS := Lib.hid hbs
          have HBL := Lib.hid hbl
          have HB := Lib.hid hbel
          clear hq hbs hbl hbel
          by_cases hlt : i < l.length
          · have i3 : (i : Int) < (l.length : Int) := by omega
            have hP1 : ∀ k, k < l.length → s.low S k = ((fun k => !s.D k) k && decide (L' k < S)) := fun k hk => by
              show (!s.D k && decide (s.L k < S)) = (!s.D k && decide (L' k < S))
              cases hd : s.D k
              · rw [hag.out k hk hd]
              · rfl
            have hP2 : ∀ k, k < l.length → s.high S k = ((fun k => !s.D k) k && decide (S < L' k)) := fun k hk => by
              show (!s.D k && decide (S < s.L k)) = (!s.D k && decide (S < L' k))
              cases hd : s.D k
              · rw [hag.out k hk hd]
              · rfl
            have HF1 := Lib.hid (find_lowP (s.low S) L' s.V s.T (fun k => !s.D k) S l.length cap g (w.heap.size + 1) w.heap.size wr hP1 hn2 HQ.out HBL.out HBS.out)
            have HF2 : Hid (∀ u, QRow u g l.length L' s.V s.T (fun k => !s.D k) → Blk u (w.heap.size + 1) 85 #[.slice (some ⟨g, 0, none⟩) l.length cap] → Blk u w.heap.size 3 #[.int .i64 S] → Calls Try.prog 77 #[.func (.func 79) #[] #[.pointer (some ⟨w.heap.size, 0, none⟩)], .pointer (some ⟨w.heap.size + 1, 0, none⟩)] u fun e w' => e = .returned (.int .i64 (lowf (s.high S) l.length)) ∧ Below u.heap.size u w') := fun u h1 h2 h3 => find_highP (s.high S) L' s.V s.T (fun k => !s.D k) S l.length cap g (w.heap.size + 1) w.heap.size u hP2 hn2 h1 h2 h3
            have HSTOP : Hid (lowf (s.low S) l.length < 0 ∨ lowf (s.high S) l.length < 0 → amakeF l = s) := fun h => hrun.out.symm.trans (AS.run_stop h _)
            have HLI := Lib.hid (fun a => lowf_is (P := s.low S) l.length a)
            have HHJ := Lib.hid (fun a => lowf_is (P := s.high S) l.length a)
            have HNX : Hid (∀ (a b f : Nat), lowf (s.low S) l.length = a → lowf (s.high S) l.length = b → AS.run S l.length (f + 1) s = AS.run S l.length f (s.step S a b)) := fun a b f h1 h2 => AS.run_next h1 h2
            clear hP1 hP2
            generalize lowf (s.low S) l.length = lo at *
            generalize lowf (s.high S) l.length = hi2 at *
            go_wp2_with fail
            refine HF1.out.mono ?_
            rintro e w2 ⟨rfl, hb2⟩
            have HQ2 := Lib.hid (HQ.out.below hb2 HQ.out.lt)
            have HBS2 := Lib.hid (HBS.out.below hb2 HBS.out.lt)
            have HBL2 := Lib.hid (HBL.out.below hb2 HBL.out.lt)
            have HB2 : Hid (Below w.heap.size w w2) := HB.out.trans (hb2.mono HB.out.size)
            clear hb2 HQ HBS HBL HB
            go_wp2_with fail
            refine (HF2.out w2 HQ2.out HBL2.out HBS2.out).mono ?_
            rintro e w3 ⟨rfl, hb3⟩
            have HQ3 := Lib.hid (HQ2.out.below hb3 HQ2.out.lt)
            have HBS3 := Lib.hid (HBS2.out.below hb3 HBS2.out.lt)
            have HBL3 := Lib.hid (HBL2.out.below hb3 HBL2.out.lt)
            have HB3 : Hid (Below w.heap.size w w3) := HB2.out.trans (hb3.mono HB2.out.size)
            clear hb3 HQ2 HBS2 HBL2 HB2 HF1 HF2
            have cl := HBL3.out.cell 0 rfl
            rcases (by omega : lo < 0 ∨ (¬ lo < 0 ∧ hi2 < 0) ∨ (¬ lo < 0 ∧ ¬ hi2 < 0)) with h1 | ⟨h1, h2⟩ | ⟨h1, h2⟩
            · have HF := Lib.hid (HSTOP.out (.inl h1))
              go_wp2_with fail
              have HQE := Lib.hid (HQ3.out.lt)
              go_loopw [13, 88] (fun s13 s88 wr => ∃ k : Nat, k ≤ l.length ∧ s88 = .int .i64 k ∧ wr.ownsRow w3.heap.size 59 2 s13 k (flat (ptab s.V s.T k)) ∧ Below w3.heap.size w3 wr) (fun _ s88 _ => l.length - (intOf s88).toNat)
              case atStart => exact ⟨0, Nat.zero_le _, rfl, orow_none, Below.refl _ _⟩
              case round =>
                obtain ⟨k, hk, rfl, hown, hbel⟩ := hrel
                have HO := Lib.hid hown
                have HBK := Lib.hid hbel
                clear hown hbel
                by_cases hlt : k < l.length
                · have i3 : (k : Int) < (l.length : Int) := by omega
                  have HQ5 := Lib.hid (HQ3.out.below HBK.out HQE.out)
                  have c0 := HQ5.out.c0 hlt
                  have c1 := HQ5.out.c1 hlt
                  have c2 := HQ5.out.c2 hlt
                  have c3 := HQ5.out.c3 hlt
                  have HFL : Hid (flat (ptab s.V s.T (k + 1)) = flat (ptab s.V s.T k) ++ [.int .i64 (s.V k), .int .i64 (s.T k)]) := by unfold Hid; rw [ptab_succ, flat_app]; rfl
                  have HSZ : Hid (w3.heap.size ≤ wr.heap.size) := HBK.out.size
                  have hk4 : k ≤ 400 := by omega
                  generalize L' k = xl at *
                  generalize s.V k = xv at *
                  generalize s.T k = xt at *
                  generalize (!s.D k) = xd at *
                  have HNW : Hid (∀ (o : Obj) (j : Nat) (u : Value), [Value.int .i64 xv, .int .i64 xt][j]? = some u → ((wr.alloc o).alloc (.cells #[.int .i64 xv, .int .i64 xt] 59)).cell? ((⟨wr.heap.size + 1, 0, none⟩ : Addr).add j) = some u) := fun o j u h => by
                    have h1 := orow_new2 (wr.alloc o) 59 (.int .i64 xv) (.int .i64 xt) j u h
                    rwa [show (wr.alloc o).heap.size = wr.heap.size + 1 by simp] at h1
                  go_wp2_with (first | (refine wpList_push2p _ rfl _ _ rfl w3.heap.size _ k _ rfl (World.ownsRow.alloc (World.ownsRow.alloc HO.out _) _) xv xt ⟨wr.heap.size + 1, 0, none⟩ 1 rfl (HNW.out _) hk4 (by simp; have := HSZ.out; omega) ?_; intro v6 w6 hown6 hgr6; have HO6 := Lib.hid hown6; have HB6 : Hid (Below w3.heap.size w3 w6) := Below.grown ((HBK.out.alloc HSZ.out _).alloc (by simp; have := HSZ.out; omega) _) hgr6 (by simp; have := HSZ.out; omega) (fun q hq => orow_block HO.out q hq); clear hown6 hgr6) | fail)
                  go_roundw
                  case rel => exact ⟨k + 1, by omega, by go_num, by rw [HFL.out]; exact HO6.out, HB6.out⟩
                  case measure => simp [intOf]; omega
                · have i3 : ¬ (k : Int) < (l.length : Int) := by omega
                  obtain rfl : k = l.length := by omega
                  obtain ⟨A2, c2, rfl, hc2, hsg⟩ := orow_pairs HO.out
                  have HC2 := Lib.hid hc2
                  have HSG := Lib.hid hsg
                  clear hc2 hsg
                  go_wp2_with fail
                  go_ret2
                  rw [HL.out, HF.out]
                  exact ⟨A2, c2, rfl, HC2.out, HSG.out, HB3.out.trans (HBK.out.mono HB3.out.size)⟩
            · have HF := Lib.hid (HSTOP.out (.inr h2))
              go_wp2_with fail
              have HQE := Lib.hid (HQ3.out.lt)
              go_loopw [13, 88] (fun s13 s88 wr => ∃ k : Nat, k ≤ l.length ∧ s88 = .int .i64 k ∧ wr.ownsRow w3.heap.size 59 2 s13 k (flat (ptab s.V s.T k)) ∧ Below w3.heap.size w3 wr) (fun _ s88 _ => l.length - (intOf s88).toNat)
              case atStart => exact ⟨0, Nat.zero_le _, rfl, orow_none, Below.refl _ _⟩
              case round =>
                obtain ⟨k, hk, rfl, hown, hbel⟩ := hrel
                have HO := Lib.hid hown
                have HBK := Lib.hid hbel
                clear hown hbel
                by_cases hlt : k < l.length
                · have i3 : (k : Int) < (l.length : Int) := by omega
                  have HQ5 := Lib.hid (HQ3.out.below HBK.out HQE.out)
                  have c0 := HQ5.out.c0 hlt
                  have c1 := HQ5.out.c1 hlt
                  have c2 := HQ5.out.c2 hlt
                  have c3 := HQ5.out.c3 hlt
                  have HFL : Hid (flat (ptab s.V s.T (k + 1)) = flat (ptab s.V s.T k) ++ [.int .i64 (s.V k), .int .i64 (s.T k)]) := by unfold Hid; rw [ptab_succ, flat_app]; rfl
                  have HSZ : Hid (w3.heap.size ≤ wr.heap.size) := HBK.out.size
                  have hk4 : k ≤ 400 := by omega
                  generalize L' k = xl at *
                  generalize s.V k = xv at *
                  generalize s.T k = xt at *
                  generalize (!s.D k) = xd at *
                  have HNW : Hid (∀ (o : Obj) (j : Nat) (u : Value), [Value.int .i64 xv, .int .i64 xt][j]? = some u → ((wr.alloc o).alloc (.cells #[.int .i64 xv, .int .i64 xt] 59)).cell? ((⟨wr.heap.size + 1, 0, none⟩ : Addr).add j) = some u) := fun o j u h => by
                    have h1 := orow_new2 (wr.alloc o) 59 (.int .i64 xv) (.int .i64 xt) j u h
                    rwa [show (wr.alloc o).heap.size = wr.heap.size + 1 by simp] at h1
                  go_wp2_with (first | (refine wpList_push2p _ rfl _ _ rfl w3.heap.size _ k _ rfl (World.ownsRow.alloc (World.ownsRow.alloc HO.out _) _) xv xt ⟨wr.heap.size + 1, 0, none⟩ 1 rfl (HNW.out _) hk4 (by simp; have := HSZ.out; omega) ?_; intro v6 w6 hown6 hgr6; have HO6 := Lib.hid hown6; have HB6 : Hid (Below w3.heap.size w3 w6) := Below.grown ((HBK.out.alloc HSZ.out _).alloc (by simp; have := HSZ.out; omega) _) hgr6 (by simp; have := HSZ.out; omega) (fun q hq => orow_block HO.out q hq); clear hown6 hgr6) | fail)
                  go_roundw
                  case rel => exact ⟨k + 1, by omega, by go_num, by rw [HFL.out]; exact HO6.out, HB6.out⟩
                  case measure => simp [intOf]; omega
                · have i3 : ¬ (k : Int) < (l.length : Int) := by omega
                  obtain rfl : k = l.length := by omega
                  obtain ⟨A2, c2, rfl, hc2, hsg⟩ := orow_pairs HO.out
                  have HC2 := Lib.hid hc2
                  have HSG := Lib.hid hsg
                  clear hc2 hsg
                  go_wp2_with fail
                  go_ret2
                  rw [HL.out, HF.out]
                  exact ⟨A2, c2, rfl, HC2.out, HSG.out, HB3.out.trans (HBK.out.mono HB3.out.size)⟩
            · obtain ⟨a, rfl⟩ : ∃ a : Nat, lo = a := ⟨lo.toNat, by omega⟩
              obtain ⟨b, rfl⟩ : ∃ b : Nat, hi2 = b := ⟨hi2.toNat, by omega⟩
              obtain ⟨ha, ha2⟩ := HLI.out a rfl
              obtain ⟨hb, hb2⟩ := HHJ.out b rfl
              have ha3 : s.D a = false ∧ s.L a < S := by simpa [AS.low] using ha2
              have hb3 : s.D b = false ∧ S < s.L b := by simpa [AS.high] using hb2
              have HNX2 := Lib.hid (HNX.out a b (l.length - (i + 1)) rfl rfl)
              have HOK2 := Lib.hid (AS.step_ok hsok.out ha hb ha3.2 hb3.2)
              have HDA := Lib.hid ha3.1
              have HDB := Lib.hid hb3.1
              obtain ⟨xa, hxa⟩ : ∃ x, s.L a = x := ⟨_, rfl⟩
              obtain ⟨xb, hxb⟩ : ∃ x, s.L b = x := ⟨_, rfl⟩
              have ca := HQ3.out.c0 ha
              have q1 := hsok.out.1 a ha
              have q2 := hsok.out.1 b hb
              rw [hag.out a ha ha3.1, hxa] at ca
              rw [hxa] at ha3 q1
              rw [hxb] at hb3 q2
              have HXA := Lib.hid hxa
              have HXB := Lib.hid hxb
              have ha4 := ha3.2
              have hb4 := hb3.2
              have hw1 : IntKind.i64.wrap (S - xa) = S - xa := IntWalk.i64_in _ ⟨by omega, by omega⟩
              have HNE : Hid (b ≠ a) := fun e => by subst e; have h1 := HXA.out; have h2 := HXB.out; omega
              have i4 : (a : Int) < (l.length : Int) := by omega
              have i5 : (b : Int) < (l.length : Int) := by omega
              have cs := HBS3.out.cell 0 rfl
              clear hxa hxb ha2 hb2 ha3 hb3 h1 h2
              go_wp2_with fail
              refine wp_region_plan [(0, 1), (1, 1), (2, 0), (3, 0), (4, 0), (5, 1), (6, 0), (7, 0)] (fun w' => w'.cell? ⟨w.heap.size, 0, none⟩ = some (.int .i64 S) ∧ w'.cell? ⟨w.heap.size + 1, 0, none⟩ = some (.slice (some ⟨g, 0, none⟩) l.length cap) ∧ w'.cell? ⟨g, a * 4, none⟩ = some (.int .i64 xa)) (by kernel_rfl) (by kernel_rfl) (fun _ d _ _ _ h => by cases d <;> exact h) ⟨cs, cl, ca⟩ ?_
              iterate 8 ((first | (refine plan0 (v := ?_) rfl rfl (by rfl) ?_ ?_) | (refine plan1 (v := ?_) rfl rfl (by rfl) ?_ ?_)); rotate_left; (first | (intro w'; go_simp; with_reducible rfl) | (intro w' hS; obtain ⟨h1, h2, h3⟩ := hS; go_simp; with_reducible rfl)); simp only [List.setIfInBounds_toArray, List.set_cons_zero, List.set_cons_succ])
              refine planEnd ?_
              obtain ⟨w4, hw4⟩ : ∃ w4, w3.drew = w4 := ⟨_, rfl⟩
              have HQ4 : Hid (QRow w3.drew g l.length L' s.V s.T (fun k => !s.D k)) := HQ3.out
              have HBS4 : Hid (Blk w3.drew w.heap.size 3 #[.int .i64 S]) := HBS3.out
              have HBL4 : Hid (Blk w3.drew (w.heap.size + 1) 85 #[.slice (some ⟨g, 0, none⟩) l.length cap]) := HBL3.out
              have HB4 : Hid (Below w.heap.size w w3.drew) := Below.drew HB3.out
              clear ca cs cl HQ3 HBS3 HBL3 HB3
              rw [hw4] at HQ4 HBS4 HBL4 HB4 ⊢
              have cl := HBL4.out.cell 0 rfl
              have ca := HQ4.out.c0 ha
              rw [hag.out a ha HDA.out, HXA.out] at ca
              clear hw4 hw1
              go_wp2_with fail
              skip --LOOK3
              refine wp_region_plan [(0, 1), (1, 0), (2, 1), (3, 0), (4, 0), (5, 0), (6, 1), (7, 0), (8, 0), (9, 0), (10, 3)] (fun w' => w'.cell? ⟨w.heap.size + 1, 0, none⟩ = some (.slice (some ⟨g, 0, none⟩) l.length cap) ∧ w'.cell? ⟨g, a * 4, none⟩ = some (.int .i64 xa)) (by kernel_rfl) (by kernel_rfl) (fun _ d _ _ _ h => by cases d <;> exact h) ⟨cl, ca⟩ ?_
              iterate 10 ((first | (refine plan0 (v := ?_) rfl rfl (by rfl) ?_ ?_) | (refine plan1 (v := ?_) rfl rfl (by rfl) ?_ ?_)); rotate_left; (first | (intro w'; go_simp; with_reducible rfl) | (intro w' hS; obtain ⟨h1, h2⟩ := hS; go_simp; with_reducible rfl)); simp only [List.setIfInBounds_toArray, List.set_cons_zero, List.set_cons_succ])
              skip --LOOK4
              refine plan3 rfl rfl fun K' hK' => ?_
              refine wp_store_mid _ _ _ rfl g (a * 4) #[.int .i64 0, .int .i64 xa, .int .i64 b, .bool false] rfl rfl (QRow.there (w := w4.drew) HQ4.out ha) (by kernel_rfl) (by simp [Value.oneCell']) (hK' _ _ ?_)
              refine planEnd ?_
              obtain ⟨w5, hw5⟩ : ∃ w5, w4.drew.setCells g (a * 4) [.int .i64 0, .int .i64 xa, .int .i64 b, .bool false] = w5 := ⟨_, rfl⟩
              have hgr := cells4_grown w4.drew g (a * 4) (.int .i64 0) (.int .i64 xa) (.int .i64 b) (.bool false)
              have hq5 := QRow.set4 (w := w4.drew) HQ4.out a 0 xa b false
              rw [hw5] at hgr hq5
              have HQ5 := Lib.hid hq5
              have HGG := Lib.hid HG.out
              have HBS5 := Lib.hid (Blk.grown (w := w4.drew) HBS4.out hgr (by have := HGG.out; omega))
              have HBL5 := Lib.hid (Blk.grown (w := w4.drew) HBL4.out hgr (by have := HGG.out; omega))
              have HB5 : Hid (Below w.heap.size w w5) := Below.grown (w := w4.drew) (Below.drew HB4.out) hgr HB4.out.size (fun q hq => by injection hq with hq; have := HGG.out; omega)
              show Exit.then _ _ _ _ (w4.drew.setCells g (a * 4) [.int .i64 0, .int .i64 xa, .int .i64 b, .bool false])
              rw [hw5]
              clear hgr hq5 hw5 ca cl HQ4 HBS4 HBL4 HB4 hK' K'
              have cl := HBL5.out.cell 0 rfl
              have cb := HQ5.out.c0 hb
              have fb := HQ5.out.frozen (b * 4)
              rw [updf_other _ HNE.out, hag.out b hb HDB.out, HXB.out] at cb
              have hw2 : IntKind.i64.wrap (xb - (S - xa)) = xb - (S - xa) := IntWalk.i64_in _ ⟨by omega, by omega⟩
              go_wp2_with fail
              go_roundw
              case rel =>
                refine ⟨i + 1, s.step S a b, updf (updf L' a 0) b (xb - (S - xa)), by omega, by go_num, ?_, HOK2, fun k hk hd => ?_, ?_, HBS5.out.far (by show w.heap.size ≠ g; have := HGG.out; omega) _, HBL5.out.far (by show w.heap.size + 1 ≠ g; have := HGG.out; omega) _, HB5.out.setCell (by show w.heap.size ≤ g; have := HGG.out; omega) _⟩
                · have h := hrun.out
                  rw [show l.length - i = l.length - (i + 1) + 1 by omega] at h
                  exact HNX2.out.symm.trans h
                · have hd2 : (if k = a then true else s.D k) = false := hd
                  by_cases e : k = a
                  · rw [if_pos e] at hd2; cases hd2
                  · rw [if_neg e] at hd2
                    show updf (updf L' a 0) b (xb - (S - xa)) k = updf s.L b (s.L b - (S - s.L a)) k
                    rw [HXA.out, HXB.out]
                    by_cases e2 : k = b
                    · rw [e2, updf_same, updf_same]
                    · rw [updf_other _ e2, updf_other _ e2, updf_other _ e]
                      exact hag.out k hk hd2
                · have h := (HQ5.out.set0 b (xb - (S - xa))).congr (D' := fun k => !(s.step S a b).D k) (fun k _ => by
                    show (if k = a then false else !s.D k) = !(if k = a then true else s.D k)
                    split <;> rfl)
                  show QRow _ g _ _ (updf s.V a (s.L a)) (updf s.T a b) _
                  rw [HXA.out]
                  exact h
              case measure => simp [intOf]; omega
          · have i3 : ¬ (i : Int) < (l.length : Int) := by omega
            obtain rfl : i = l.length := by omega
            have HF : Hid (amakeF l = s) := by
              have h := hrun.out
              rw [Nat.sub_self] at h
              exact h.symm
            have cl := HBL.out.cell 0 rfl
            obtain ⟨wE, rfl⟩ : ∃ wE : World, wE = wr := ⟨_, rfl⟩
            go_wp2_with fail
            have HQE := Lib.hid (HQ.out.lt)
            go_loopw [13, 88] (fun s13 s88 wr => ∃ k : Nat, k ≤ l.length ∧ s88 = .int .i64 k ∧ wr.ownsRow wE.heap.size 59 2 s13 k (flat (ptab s.V s.T k)) ∧ Below wE.heap.size wE wr) (fun _ s88 _ => l.length - (intOf s88).toNat)
            case atStart => exact ⟨0, Nat.zero_le _, rfl, orow_none, Below.refl _ _⟩
            case round =>
              obtain ⟨k, hk, rfl, hown, hbel⟩ := hrel
              have HO := Lib.hid hown
              have HBK := Lib.hid hbel
              clear hown hbel
              by_cases hlt : k < l.length
              · have i3 : (k : Int) < (l.length : Int) := by omega
                have HQ5 := Lib.hid (HQ.out.below HBK.out HQE.out)
                have c0 := HQ5.out.c0 hlt
                have c1 := HQ5.out.c1 hlt
                have c2 := HQ5.out.c2 hlt
                have c3 := HQ5.out.c3 hlt
                have HFL : Hid (flat (ptab s.V s.T (k + 1)) = flat (ptab s.V s.T k) ++ [.int .i64 (s.V k), .int .i64 (s.T k)]) := by unfold Hid; rw [ptab_succ, flat_app]; rfl
                have HSZ : Hid (wE.heap.size ≤ wr.heap.size) := HBK.out.size
                have hk4 : k ≤ 400 := by omega
                generalize L' k = xl at *
                generalize s.V k = xv at *
                generalize s.T k = xt at *
                generalize (!s.D k) = xd at *
                have HNW : Hid (∀ (o : Obj) (j : Nat) (u : Value), [Value.int .i64 xv, .int .i64 xt][j]? = some u → ((wr.alloc o).alloc (.cells #[.int .i64 xv, .int .i64 xt] 59)).cell? ((⟨wr.heap.size + 1, 0, none⟩ : Addr).add j) = some u) := fun o j u h => by
                  have h1 := orow_new2 (wr.alloc o) 59 (.int .i64 xv) (.int .i64 xt) j u h
                  rwa [show (wr.alloc o).heap.size = wr.heap.size + 1 by simp] at h1
                go_wp2_with (first | (refine wpList_push2p _ rfl _ _ rfl wE.heap.size _ k _ rfl (World.ownsRow.alloc (World.ownsRow.alloc HO.out _) _) xv xt ⟨wr.heap.size + 1, 0, none⟩ 1 rfl (HNW.out _) hk4 (by simp; have := HSZ.out; omega) ?_; intro v6 w6 hown6 hgr6; have HO6 := Lib.hid hown6; have HB6 : Hid (Below wE.heap.size wE w6) := Below.grown ((HBK.out.alloc HSZ.out _).alloc (by simp; have := HSZ.out; omega) _) hgr6 (by simp; have := HSZ.out; omega) (fun q hq => orow_block HO.out q hq); clear hown6 hgr6) | fail)
                go_roundw
                case rel => exact ⟨k + 1, by omega, by go_num, by rw [HFL.out]; exact HO6.out, HB6.out⟩
                case measure => simp [intOf]; omega
              · have i3 : ¬ (k : Int) < (l.length : Int) := by omega
                obtain rfl : k = l.length := by omega
                obtain ⟨A2, c2, rfl, hc2, hsg⟩ := orow_pairs HO.out
                have HC2 := Lib.hid hc2
                have HSG := Lib.hid hsg
                clear hc2 hsg
                go_wp2_with fail
                go_ret2
                rw [HL.out, HF.out]
                exact ⟨A2, c2, rfl, HC2.out, HSG.out, HB.out.trans (HBK.out.mono HB.out.size)⟩
  · have HL : Hid (amakeL l = []) := if_neg he
    obtain ⟨er, hr⟩ : ∃ er, (asumR l).2 = er := ⟨_, rfl⟩
    rw [hr]
    have hne : (er != 0) = true := by rw [← hr]; simpa using he
    have HR : Hid (asumR l = ((asumR l).1, er)) := Prod.ext rfl hr
    rw [HR.out] at HSUM
    clear he hr HR
    generalize (asumR l).1 = S0 at *
    go_enter Try.func46, Try.ntmps46
    go_wp2_with fail
    refine HSUM.out.mono ?_
    rintro e w1 ⟨rfl, rfl⟩
    go_wp2_with fail
    go_ret2
    rw [HL.out]
    exact POut.nil_ ((Below.refl _ _).alloc (Nat.le_refl _) _)
end Go.Proofs.Ytmcbkjepjijfjaa
