/- Pools joined: the reference where it draws, walked. Printed by joigen3.py. No condition. -/
import Derived.Test.YtmnjgoicppknjaaJoiE
import Derived.BigQuiet
import Derived.IntWalk
namespace Go.Proofs.Ytmnjgoicppknjaa
open Go.ChangeShapes Go.WideShapes Go.ChangeAt Go.RowKit
set_option linter.unusedVariables false

set_option maxRecDepth 20000 in
set_option maxHeartbeats 2000000 in
theorem jg_gooda (A C E F : Option Addr) (ra ka rb kb : Int) (za zb ds ws : List Int) (ca cb ce cf : Nat) (w : World) (ha : Seg w w.heap.size A (za.map (.int .i64))) (hc : Seg w w.heap.size C (zb.map (.int .i64))) (hd : Seg w w.heap.size E (ds.map (.int .i64))) (hw0 : Seg w w.heap.size F (ws.map (.int .i64))) (h : fright ra ka za.length) (h2 : fright rb kb zb.length) (h3 : ra = rb) (h4 : ¬ 1099511627776 < ka + kb) (hwx : ∀ i, -9223372036854775808 ≤ pat ws i ∧ pat ws i ≤ 9223372036854775807) (h7 : ra < ka + kb) (h5 : ¬ (ds.length : Int) < ra) (h6 : ¬ (ws.length : Int) < ra) :
    Calls Try.prog 16 #[PoolV ra ka (.slice A za.length ca), PoolV rb kb (.slice C zb.length cb), .slice E ds.length ce, .slice F ws.length cf] w fun e w' => (∃ v, e = .returned (.tuple #[v, .int .i64 (jpR ra ka za rb kb zb ds ws).2]) ∧ PoolIs w' v (jpR ra ka za rb kb zb ds ws).1) ∧ Below w.heap.size w w' := by
  have hfa : decide (fright ra ka za.length) = true := decide_eq_true h
  have hfb : decide (fright rb kb zb.length) = true := decide_eq_true h2
  have hne : (ra != rb) = false := by simpa using h3
  have hw2 : wrap64 (ka + kb) = ka + kb := by unfold fright at h h2; unfold wrap64; omega
  have H1 := Lib.hid h
  have H2 := Lib.hid h2
  have HSA := Lib.hid ha
  have HSC := Lib.hid hc
  have HSD := Lib.hid hd
  have HSW := Lib.hid hw0
  have HWX : Hid (∀ i, -9223372036854775808 ≤ pat ws i ∧ pat ws i ≤ 9223372036854775807) := hwx
  have HT : Hid (jpR ra ka za rb kb zb ds ws = match JS.run za zb ds ws ra.toNat 0 (JS.start ka kb) with | none => ((0, 0, []), 2) | some o => ((ra, ka + kb, o), 0)) := by
    have hm : min ra (ka + kb) = ra := by omega
    have hj : jpe ra ka za.length rb kb zb.length ds.length ws.length = 0 := by
      unfold jpe; rw [if_pos ⟨h, h2, h3⟩, if_neg h4, hm, if_neg (by omega)]
    unfold jpR Hid; rw [if_pos hj, hm]
    cases JS.run za zb ds ws ra.toNat 0 (JS.start ka kb) <;> rfl
  clear h h2 h3 ha hc hd hw0 hwx
  go_enter Try.func16, Try.ntmps16
  go_wp2_with fail
  refine (rright_any A ra ka _ ca _).mono ?_
  rintro e w1 ⟨rfl, hb1⟩
  rw [hfa]
  obtain ⟨BA, BB, BR, hbw⟩ := three_blocks (by simpa using hb1)
  have HA := Lib.hid BA
  have HBB := Lib.hid BB
  have HR := Lib.hid BR
  have HB := Lib.hid hbw
  clear BA BB BR hbw hb1
  have e0 := HBB.out.cell 0 rfl
  have e1 := HBB.out.cell 1 rfl
  have e2 := HBB.out.cell 2 rfl
  go_wp2_with fail
  clear e0 e1 e2
  refine (rright_any C rb kb _ cb _).mono ?_
  rintro e w2 ⟨rfl, hb2⟩
  rw [hfb]
  replace HA := Lib.hid (HA.out.below hb2 HA.out.lt)
  replace HBB := Lib.hid (HBB.out.below hb2 HBB.out.lt)
  replace HR := Lib.hid (HR.out.below hb2 HR.out.lt)
  replace HB : Hid (Below w.heap.size w w2) := HB.out.trans (hb2.mono HB.out.size)
  clear hb2
  have c0 := HA.out.cell 0 rfl
  have c1 := HA.out.cell 1 rfl
  have d0 := HBB.out.cell 0 rfl
  have d1 := HBB.out.cell 1 rfl
  have hmm := @run_makeMap Try.prog 141
  have HBO : Hid (Blk (w2.alloc (.cells (pcells 0 0 (.slice none 0 0)) 24)) w2.heap.size 24 (pcells 0 0 (.slice none 0 0))) := Blk.new w2 _ _
  have HZ2 : Hid (w.heap.size + 2 < w2.heap.size) := HR.out.lt
  have HCC : Hid (∀ w3, (w2.alloc (.cells (pcells 0 0 (.slice none 0 0)) 24)).grownBy w3 (some w2.heap.size) → w3.cell? ⟨w.heap.size, 1, none⟩ = some (.int .i64 ka) ∧ w3.cell? ⟨w.heap.size + 1, 1, none⟩ = some (.int .i64 kb)) := fun w3 hg =>
    ⟨(Blk.grown (HA.out.alloc _) hg (by have := HZ2.out; omega)).cell 1 rfl, (Blk.grown (HBB.out.alloc _) hg (by have := HZ2.out; omega)).cell 1 rfl⟩
  go_wp2_with (first | (refine wpList_store_blk rfl _ _ _ rfl w2.heap.size (pcells ra (ka + kb) (.slice none 0 0)) rfl rfl _ _ HBO.out (by kernel_rfl) rfl (pcells_one _ _ _ _ _) ?_; intro w3 hb3 hg3 hs3; have HS3 := Lib.hid hs3; have HO3 := Lib.hid hb3; have HG3 := Lib.hid hg3; obtain ⟨x1, y1⟩ := HCC.out _ hg3; clear hs3 hb3 hg3) | fail)
  replace HA := Lib.hid (Blk.grown (HA.out.alloc _) HG3.out (by have := HZ2.out; omega))
  replace HBB := Lib.hid (Blk.grown (HBB.out.alloc _) HG3.out (by have := HZ2.out; omega))
  replace HR := Lib.hid (Blk.grown (HR.out.alloc _) HG3.out (by have := HZ2.out; omega))
  replace HB : Hid (Below w.heap.size w w3) := Below.grown (HB.out.alloc (by have := HZ2.out; omega) _) HG3.out (by simp; have := HZ2.out; omega) (fun q hq => by injection hq with hq; have := HZ2.out; omega)
  clear c0 c1 d0 d1
  clear hmm x1 y1
  have hbd : 0 ≤ ka ∧ 0 ≤ kb := by have h1 := H1.out; have h2 := H2.out; unfold fright at h1 h2; omega
  have HI := Lib.hid (GInv.begin HA.out HBB.out HR.out HO3.out HB.out hbd.1 hbd.2 (by omega))
  generalize hT : JS.run za zb ds ws ra.toNat 0 (JS.start ka kb) = T at *
  have HTT := Lib.hid hT
  clear hT
  have hra0 : 0 ≤ ra := by have h1 := H1.out; have h2 := H2.out; unfold fright at h1 h2; omega
  go_loopw [15] (fun s15 wr => ∃ (k : Nat) (s : JS), (k : Int) ≤ ra ∧ s15 = .int .i64 k ∧ Hid (JS.run za zb ds ws (ra.toNat - k) k s = T) ∧ Hid (GInv A C ra ka rb kb za zb ca cb w w2.heap.size w3.heap.size (w3.heap.size + 4) wr k s)) (fun s15 _ => ra.toNat - (intOf s15).toNat)
  case atStart => exact ⟨0, _, by omega, rfl, HTT.out, HI.out⟩
  case round =>
    clear HI HA HBB HR HB HO3 HG3
    obtain ⟨k, s, hk, rfl, hrun, hinv⟩ := hrel
    by_cases hlt : (k : Int) < ra
    · have hkd : k < ds.length := by omega
      have hkw : k < ws.length := by omega
      obtain ⟨ad, rfl, hadB, cd⟩ := (HSD.out.below hinv.out.be).pat hkd
      obtain ⟨ae, rfl, haeB, cw⟩ := (HSW.out.below hinv.out.be).pat hkw
      have hadW : ad.block < wr.heap.size := Nat.lt_of_lt_of_le hadB hinv.out.be.size
      have haeW : ae.block < wr.heap.size := Nat.lt_of_lt_of_le haeB hinv.out.be.size
      have l0 := hinv.out.pl.cell 0 rfl
      have l1 := hinv.out.pl.cell 1 rfl
      have i5 : (k : Int) < (ds.length : Int) := by omega
      have i6 : (k : Int) < (ws.length : Int) := by omega
      obtain ⟨g', hg'⟩ : ∃ g', ra.toNat - k = g' + 1 := ⟨ra.toNat - k - 1, by omega⟩
      have HSN : Hid (s.step za zb (pat ds k) (pat ws k) = none → T = none) := fun h => by
        have h1 := hrun.out
        rw [hg', JS.run_none h] at h1
        exact h1.symm
      have HSS : Hid (∀ s', s.step za zb (pat ds k) (pat ws k) = some s' → JS.run za zb ds ws (ra.toNat - (k + 1)) (k + 1) s' = T) := fun s' h => by
        have h1 := hrun.out
        rw [hg', JS.run_some h, show g' = ra.toNat - (k + 1) by omega] at h1
        exact h1
      have hbd := hinv.out.bd
      have hw5 : wrap64 (s.ca + s.cb) = s.ca + s.cb := by unfold wrap64; omega
      have hw6 : IntKind.i64.wrap (s.ca + s.cb) = s.ca + s.cb := IntWalk.i64_in _ (by omega)
      clear hg'
      rcases (by omega : pat ds k < 0 ∨ (¬ pat ds k < 0 ∧ s.ca + s.cb ≤ pat ds k) ∨ (¬ pat ds k < 0 ∧ ¬ s.ca + s.cb ≤ pat ds k)) with h1 | ⟨h1, h2⟩ | ⟨h1, h2⟩
      · have HN := Lib.hid (HSN.out (by unfold JS.step; rw [if_pos (.inl h1)]))
        generalize pat ds k = d at *
        generalize pat ws k = x at *
        have HBD : Hid (Below w.heap.size w wr) := hinv.out.be
        have HPR := Lib.hid hinv.out.pr
        generalize s.ca = a at *
        generalize s.cb = b at *
        go_wp2_with fail
        go_quiet (fail)
        go_wp2_with (first | (refine wpList_store_blk rfl _ _ _ rfl (w.heap.size + 2) (pcells 0 0 (.slice none 0 0)) rfl rfl _ _ (HPR.out.drewN _) (by kernel_rfl) rfl (pcells_one _ _ _ _ _) ?_; intro w9 hb9 hg9 hs9; have HS9 := Lib.hid hs9; have HB9 := Lib.hid hb9; have HG9 := Lib.hid hg9; clear hs9 hb9 hg9) | fail)
        refine bodyPost_ret (v := .tuple #[PoolV 0 0 (.slice none 0 0), .int .i64 2]) (results_ct (a := 9) Try.results16 _ rfl HB9.out Try.underlying24 rfl (by kernel_rfl)) rfl ⟨pool_is (HT.out.trans (by rw [HN.out])) (nil_is _ _ _), Below.grown (below_drewN HBD.out _) HG9.out HBD.out.size (fun q hq => by injection hq with hq; omega)⟩
      · have HN := Lib.hid (HSN.out (by unfold JS.step; rw [if_pos (.inr h2)]))
        generalize pat ds k = d at *
        generalize pat ws k = x at *
        have HBD : Hid (Below w.heap.size w wr) := hinv.out.be
        have HPR := Lib.hid hinv.out.pr
        generalize s.ca = a at *
        generalize s.cb = b at *
        go_wp2_with fail
        go_quiet (fail)
        go_wp2_with (first | (refine wpList_store_blk rfl _ _ _ rfl (w.heap.size + 2) (pcells 0 0 (.slice none 0 0)) rfl rfl _ _ (HPR.out.drewN _) (by kernel_rfl) rfl (pcells_one _ _ _ _ _) ?_; intro w9 hb9 hg9 hs9; have HS9 := Lib.hid hs9; have HB9 := Lib.hid hb9; have HG9 := Lib.hid hg9; clear hs9 hb9 hg9) | fail)
        refine bodyPost_ret (v := .tuple #[PoolV 0 0 (.slice none 0 0), .int .i64 2]) (results_ct (a := 9) Try.results16 _ rfl HB9.out Try.underlying24 rfl (by kernel_rfl)) rfl ⟨pool_is (HT.out.trans (by rw [HN.out])) (nil_is _ _ _), Below.grown (below_drewN HBD.out _) HG9.out HBD.out.size (fun q hq => by injection hq with hq; omega)⟩
      · generalize hdd : pat ds k = d at *
        generalize hxx : pat ws k = x at *
        have HDD := Lib.hid hdd
        have HXX := Lib.hid hxx
        have hxr : -9223372036854775808 ≤ x ∧ x ≤ 9223372036854775807 := by rw [← hxx]; exact HWX.out k
        clear hdd hxx
        have HP := Lib.hid hinv.out.pa
        generalize hca : s.ca = a at *
        generalize hcb : s.cb = b at *
        have HCA := Lib.hid hca
        have HCB := Lib.hid hcb
        clear hca hcb
        have HPN : Hid (∀ n, Blk ((wr.drewN n).alloc (.cells (pcells 0 0 (.slice none 0 0)) 24)) wr.heap.size 24 (pcells 0 0 (.slice none 0 0))) := fun n => Blk.new (wr.drewN n) _ _
        have HBN : Hid (∀ n w5, ((wr.drewN n).alloc (.cells (pcells 0 0 (.slice none 0 0)) 24)).grownBy w5 (some wr.heap.size) → Below wr.heap.size wr w5) := fun n w5 hg =>
          Below.grown ((below_drewN (Below.refl _ wr) n).alloc (Nat.le_refl _) _) hg (by simp) (fun q hq => by injection hq with hq; omega)
        go_wp2_with fail
        go_quiet (fail)
        go_wp2_with (first | refine wpList_load_blk rfl _ _ rfl w.heap.size rfl _ (pcells ra ka (.slice A za.length ca)) _ (HP.out.drewN _) Try.underlying24 rfl (by kernel_rfl) ?_ | (refine wpList_store_blk rfl _ _ _ rfl wr.heap.size (pcells ra ka (.slice A za.length ca)) rfl rfl _ _ (HPN.out _) (by kernel_rfl) rfl (pcells_one _ _ _ _ _) ?_; intro w5 hb5 hg5 hs5; have HP5 := Lib.hid hb5; have HG5 := Lib.hid hg5; clear hb5 hg5 hs5) | fail)
        have HW5 := Lib.hid (HBN.out _ _ HG5.out)
        have HI5 := Lib.hid (hinv.out.next HW5.out)
        have l50 := HI5.out.pl.cell 0 rfl
        have cd5 := (HW5.out.cell (by rw [addr_block]; exact hadW)).trans cd
        rw [HCA.out] at l50
        clear HG5 HPN HBN
        rcases (by omega : d < a ∨ ¬ d < a) with h3 | h3
        · go_quiet (fail)
          have cw5 := (HW5.out.cell (by rw [addr_block]; exact haeW)).trans cw
          have p2 := HP5.out.cell 2 rfl
          go_wp2_with fail
          have HQ := Lib.hid (show ra ≤ 400 ∧ za.length ≤ 400 by have h1 := H1.out; have h2 := H2.out; unfold fright at h1 h2; omega)
          have HX0 : Hid (wrap64 (x - ((cntL s.A 0 : Nat) : Int)) = x) := by unfold wrap64 Hid; simp only [cntL]; omega
          clear p2 cw5 cd5 l50
          go_loopw [18, 19, 117] (fun s18 s19 s117 wv => ∃ i m : Nat, i ≤ za.length ∧ s18 = .int .i64 (gat s.A x i) ∧ s19 = .int .i64 (wrap64 (x - ((cntL s.A i : Nat) : Int))) ∧ s117 = .int .i64 i ∧ wv = w5.drewN m) (fun _ _ s117 _ => za.length - (intOf s117).toNat)
          case atStart => exact ⟨0, _, Nat.zero_le _, rfl, by rw [HX0.out], rfl, rfl⟩
          case round =>
            obtain ⟨i, m, hi, rfl, rfl, rfl, rfl⟩ := hrel
            have hci := cntL_le s.A i
            have hq := HQ.out
            by_cases hi2 : i < za.length
            · have i7 : (i : Int) < (za.length : Int) := by omega
              have hwi : (Lit.int .i64 (i : Int)).wf = true := WalkArith.wf_i64 (by omega)
              have hlk := (HI5.out.m1.drewN m).look Try.underlying141 hwi
              have hpg := HI5.out.pg.cell 0 rfl
              rw [show (decide (0 ≤ (i : Int)) && s.A (i : Int).toNat) = s.A i by simp] at hlk
              have hw7 : wrap64 (wrap64 (x - ((cntL s.A i : Nat) : Int)) - 1) = wrap64 (x - ((cntL s.A i + 1 : Nat) : Int)) := by unfold wrap64; omega
              clear hwi
              by_cases hG : s.A i = true
              · have HG1 : Hid (gat s.A x (i + 1) = gat s.A x i) := by unfold Hid; rw [gat, if_neg (by rw [hG]; simp)]
                have HC1 : Hid (cntL s.A (i + 1) = cntL s.A i) := by unfold Hid; rw [cntL, if_pos hG]
                rw [hG] at hlk
                clear hG hw7
                generalize gat s.A x i = g at *
                generalize hsk : wrap64 (x - ((cntL s.A i : Nat) : Int)) = sk at *
                have HSK := Lib.hid hsk
                clear hsk
                go_wp2_with fail
                go_roundw
                case rel => exact ⟨i + 1, m, by omega, by rw [HG1.out], by rw [HC1.out, HSK.out], by go_num, rfl⟩
                case measure => simp [intOf]; omega
              · have hG2 : s.A i = false := by simpa using hG
                have HC1 : Hid (cntL s.A (i + 1) = cntL s.A i + 1) := by unfold Hid; rw [cntL, if_neg hG]
                rw [hG2] at hlk
                by_cases h0 : wrap64 (x - ((cntL s.A i : Nat) : Int)) = 0
                · have HG1 : Hid (gat s.A x (i + 1) = i) := by
                    unfold Hid; rw [gat, if_pos ⟨hG2, by unfold wrap64 at h0; omega⟩]
                  clear hG hG2
                  generalize gat s.A x i = g at *
                  generalize hs2 : wrap64 (x - ((cntL s.A i + 1 : Nat) : Int)) = sk2 at *
                  generalize wrap64 (x - ((cntL s.A i : Nat) : Int)) = sk at *
                  have HSK := Lib.hid hs2
                  clear hs2
                  go_wp2_with fail
                  go_roundw
                  case rel => exact ⟨i + 1, m, by omega, by rw [HG1.out], by rw [HC1.out, HSK.out, show sk2 = -1 by rw [← hw7, h0]; unfold wrap64; omega], by go_num, rfl⟩
                  case measure => simp [intOf]; omega
                · have HG1 : Hid (gat s.A x (i + 1) = gat s.A x i) := by
                    unfold Hid; rw [gat, if_neg (by rintro ⟨_, h⟩; apply h0; unfold wrap64; omega)]
                  clear hG hG2
                  generalize gat s.A x i = g at *
                  generalize hs2 : wrap64 (x - ((cntL s.A i + 1 : Nat) : Int)) = sk2 at *
                  generalize wrap64 (x - ((cntL s.A i : Nat) : Int)) = sk at *
                  have HSK := Lib.hid hs2
                  clear hs2
                  go_wp2_with fail
                  go_roundw
                  case rel => exact ⟨i + 1, m, by omega, by rw [HG1.out], by rw [HC1.out, HSK.out, hw7], by go_num, rfl⟩
                  case measure => simp [intOf]; omega
            · obtain rfl : i = za.length := by omega
              by_cases hh : 0 ≤ x ∧ x < cntL s.A za.length
              · obtain ⟨X, rfl⟩ : ∃ X : Nat, x = X := ⟨x.toNat, by omega⟩
                obtain ⟨j, hj, hgat, hGj, _, _, _⟩ := gat_hit (zs := za) (G := s.A) (w := X) za.length (by omega)
                have HST : Hid (JS.step za zb s d X = some { s with A := gone s.A j, ca := s.ca - 1, o := s.o ++ [pat za j] }) := by
                  unfold Hid JS.step; rw [HCA.out, HCB.out, if_neg (by omega), if_pos (by omega), if_pos hh, hgat]; rfl
                have HNX := Lib.hid (HSS.out _ HST.out)
                obtain ⟨az, rfl, hazB, cz⟩ := (HSA.out.below HI5.out.be).pat hj
                obtain ⟨Ao, co, hpo, how⟩ := hinv.out.po
                have HOR : Hid (∀ q, (Value.slice Ao s.o.length co).ownBlock = some q → q < wr.heap.size) := how.lt
                have HPO := Lib.hid (hpo.below HW5.out hpo.lt)
                have HOW := Lib.hid (how.below HW5.out (Nat.le_refl _))
                have HCZ := Lib.hid cz
                have hc0 : 0 < a := by omega
                have hpg := HI5.out.pg.cell 0 rfl
                have HWJ : Hid ((Lit.int .i64 (j : Int)).wf = true) := WalkArith.wf_i64 (by omega)
                have HGW : Hid (w.heap.size + 2 < w2.heap.size ∧ w2.heap.size < w3.heap.size) := ⟨HZ2.out, by have := HS3.out; simp at this; omega⟩
                have hw8 : wrap64 (a - 1) = a - 1 := by unfold wrap64; omega
                have j0 : ¬ (j : Int) < 0 := by omega
                have j1 : (j : Int) < (za.length : Int) := by omega
                have HPL := Lib.hid HI5.out.pl
                have HBD := Lib.hid hbd
                have HKK := Lib.hid hlt
                have HJL := Lib.hid hj
                clear hpo how cz HST hh hGj hbd cd cw l0 l1
                rw [hgat]
                clear hgat
                go_wp2_with (first
                  | (at_mapUpdate; go_must (refine wpList_mapb_store _ rfl _ _ _ _ rfl Try.underlying141 (w3.heap.size + 1) k _ rfl (HI5.out.m1.drewN m) (by unfold maxLen; omega) (j : Int) true rfl rfl HWJ.out ?_); intro w6 hm6 hg6; have HM6 := Lib.hid hm6; have HG6 := Lib.hid hg6; have HPL6 := Lib.hid ((HPL.out.drewN m).grown hg6 (by omega)); clear hm6 hg6; have l06 := HPL6.out.cell 0 rfl; have f06 := HPL6.out.frozen 0; rw [HCA.out] at l06)
                  | fail)
                have HB6 : Hid (Below w.heap.size w w6) := Below.grown (below_drewN HI5.out.be m) HG6.out HI5.out.be.size (fun q hq => by injection hq with hq; have := HGW.out; omega)
                have HG7 := Lib.hid (jset_grown w6 w3.heap.size 0 (.int .i64 (a - 1)))
                generalize hw7 : w6.setCell ⟨w3.heap.size, 0, none⟩ (.int .i64 (a - 1)) = w7 at *
                have HW7 := Lib.hid hw7
                have HB7 : Hid (Below w.heap.size w w7) := Below.grown HB6.out HG7.out HB6.out.size (fun q hq => by injection hq with hq; have := HGW.out; omega)
                have HWS : Hid (w3.heap.size + 4 ≤ wr.heap.size) := hinv.out.sz
                have HO7 := Lib.hid (((HPO.out.drewN m).grown HG6.out (by have := HGW.out; omega)).grown HG7.out (by have := HGW.out; omega))
                have HP7 := Lib.hid (((HP5.out.drewN m).grown HG6.out (by have := HWS.out; omega)).grown HG7.out (by have := HWS.out; omega))
                have HOW7 := Lib.hid (Own.grown (Own.grown (Own.below HOW.out (below_drewN (Below.refl w5.heap.size w5) m) (Nat.le_refl _)) HG6.out (by omega)) HG7.out (by omega))
                have HCX : Hid (∀ u, Below w.heap.size w u → u.cell? (az.add j) = some (.int .i64 (pat za j))) := fun u hu => by
                  obtain ⟨az', e, _, cz⟩ := (HSA.out.below hu).pat HJL.out
                  injection e with e; subst e; exact cz
                have HSZ7 : Hid (w3.heap.size + 4 ≤ w7.heap.size) := by have h1 := HI5.out.sz; have h2 := HG6.out.size; have h3 := HG7.out.size; unfold Hid; simp at h2; omega
                have HOL : Hid (s.o.length ≤ 400) := by unfold Hid; have := HBD.out.2.2.2; omega
                clear hw7 l06 f06 hpg hw8
                refine wp_region_plan [(0, 0), (1, 1), (2, 0), (3, 1), (4, 0), (5, 0), (6, 1), (7, 2), (8, 2), (9, 0), (10, 3)] (fun w' => w'.cell? ⟨w2.heap.size, 2, none⟩ = some (.slice Ao s.o.length co) ∧ w'.cell? ⟨wr.heap.size, 2, none⟩ = some (.slice (some az) za.length ca) ∧ w'.cell? (az.add j) = some (.int .i64 (pat za j))) (by kernel_rfl) (by kernel_rfl) (fun _ d _ _ _ h => by cases d <;> exact h) ⟨HO7.out.cell 2 rfl, HP7.out.cell 2 rfl, HCX.out _ (Below.drew HB7.out)⟩ ?_
                iterate 7 ((first | (refine plan0 (v := ?_) rfl rfl (by rfl) ?_ ?_) | (refine plan1 (v := ?_) rfl rfl (by rfl) ?_ ?_)); rotate_left; (first | (intro w'; go_simp; with_reducible rfl) | (intro w' hS; obtain ⟨h1, h2, h3⟩ := hS; go_simp; with_reducible rfl)); simp only [List.setIfInBounds_toArray, List.set_cons_zero, List.set_cons_succ])
                refine plan2 rfl rfl fun K' hK' => ?_
                go_simp
                refine hK' _ _ ⟨(HO7.out.drew.alloc _).cell 2 rfl, (HP7.out.drew.alloc _).cell 2 rfl, HCX.out _ ((Below.drew HB7.out).alloc HB7.out.size _)⟩ ?_
                clear hK' K'
                refine plan2 rfl rfl fun K' hK' => ?_
                refine wp_push2 _ _ _ elem_ints rfl (w3.heap.size + 4) (.slice Ao s.o.length co) (s.o.map (.int .i64)) rfl (Own.alloc' (w := w7.drew) HOW7.out _) (.int .i64 (pat za j)) ⟨w7.heap.size, 0, none⟩ 1 rfl (cell_new1 _ _ _) rfl (by rw [List.length_map]; have := HOL.out; omega) (by rw [List.length_map]; unfold maxLen; have := HOL.out; omega) (by simp; have := HSZ7.out; omega) ?_
                intro v8 w8 hown8 hg8 _
                obtain ⟨A8, c8, rfl, _, hown8⟩ := hown8.res2
                rw [show (List.map (Value.int .i64) s.o ++ [Value.int .i64 (pat za j)]).length = s.o.length + 1 by simp] at hown8
                have HO8 := Lib.hid ((HO7.out.drew.alloc (.cells #[.int .i64 (pat za j)] 3)).row hg8 (fun q hq => by have := HOW7.out.block q hq; have := HGW.out; omega))
                have HB8 : Hid (Below w.heap.size w w8) := Below.grown ((Below.drew HB7.out).alloc HB7.out.size _) hg8 (Nat.le_trans HB7.out.size (by simp)) (fun q hq => by have := HOW7.out.block q hq; have := HGW.out; omega)
                have HP8 := Lib.hid ((HP7.out.drew.alloc (.cells #[.int .i64 (pat za j)] 3)).row hg8 (fun q hq => by have := HOR.out q hq; omega))
                have HOW8 := Lib.hid hown8
                have HG8 := Lib.hid hg8
                clear hown8 hg8
                refine hK' _ _ ⟨HO8.out.cell 2 rfl, HP8.out.cell 2 rfl, HCX.out _ HB8.out⟩ ?_
                clear hK' K'
                iterate 1 ((refine plan0 (v := ?_) rfl rfl (by rfl) ?_ ?_); rotate_left; (intro w'; go_simp; with_reducible rfl))
                have c9 := HO8.out.cell 2 rfl
                have f9 := HO8.out.frozen 2
                refine plan3 rfl rfl fun K' hK' => ?_
                go_simp
                refine hK' _ _ ?_
                clear hK' K' c9 f9
                refine planEnd ?_
                go_wp2_with fail
                go_roundw
                case rel => exact ⟨k + 1, _, by omega, by go_num, HNX.out, GInv.stepA (HI5.out.next (below_drewN (Below.refl _ w5) m)) HGW.out.1 HGW.out.2 (Nat.le_refl _) (HPO.out.drewN m) (Own.below HOW.out (below_drewN (Below.refl w5.heap.size w5) m) (Nat.le_refl _)) HM6.out HG6.out (by rw [List.map_append]; exact HOW8.out) rfl HW7.out HG8.out (by rw [HCA.out]) (by rw [HCA.out]; exact hc0)⟩
                case measure => simp [intOf]; omega
              · have hneg : gat s.A x za.length = -1 := gat_none _ (by omega)
                have HN := Lib.hid (HSN.out (by unfold JS.step; rw [HCA.out, HCB.out, if_neg (by omega), if_pos (by omega), if_neg hh]))
                have HPR := Lib.hid HI5.out.pr
                have HBD : Hid (Below w.heap.size w w5) := HI5.out.be
                rw [hneg]
                clear hneg hh
                go_wp2_with (first | (refine wpList_store_blk rfl _ _ _ rfl (w.heap.size + 2) (pcells 0 0 (.slice none 0 0)) rfl rfl _ _ (HPR.out.drewN _) (by kernel_rfl) rfl (pcells_one _ _ _ _ _) ?_; intro w9 hb9 hg9 hs9; have HS9 := Lib.hid hs9; have HB9 := Lib.hid hb9; have HG9 := Lib.hid hg9; clear hs9 hb9 hg9) | fail)
                refine bodyPost_ret (v := .tuple #[PoolV 0 0 (.slice none 0 0), .int .i64 2]) (results_ct (a := 9) Try.results16 _ rfl HB9.out Try.underlying24 rfl (by kernel_rfl)) rfl ⟨pool_is (HT.out.trans (by rw [HN.out])) (nil_is _ _ _), Below.grown (below_drewN HBD.out _) HG9.out HBD.out.size (fun q hq => by injection hq with hq; omega)⟩
        · go_quiet (fail)
          have HBV : Hid (∀ n v5, (w5.drewN n).grownBy v5 (some wr.heap.size) → Below wr.heap.size wr v5) := fun n v5 hg =>
            Below.grown (below_drewN HW5.out n) hg HW5.out.size (fun q hq => by injection hq with hq; omega)
          go_wp2_with (first | refine wpList_load_blk rfl _ _ rfl (w.heap.size + 1) rfl _ (pcells rb kb (.slice C zb.length cb)) _ (HI5.out.pb.drewN _) Try.underlying24 rfl (by kernel_rfl) ?_ | (refine wpList_store_blk rfl _ _ _ rfl wr.heap.size (pcells rb kb (.slice C zb.length cb)) rfl rfl _ _ (HP5.out.drewN _) (by kernel_rfl) rfl (pcells_one _ _ _ _ _) ?_; intro v5 hb5 hg5 hs5; have HQ5 := Lib.hid hb5; have HV5 := Lib.hid (HBV.out _ _ hg5); have cw5 := (HV5.out.cell (by rw [addr_block]; exact haeW)).trans cw; have p2 := HQ5.out.cell 2 rfl; clear hb5 hg5 hs5) | fail)
          have HJ5 := Lib.hid (hinv.out.next HV5.out)
          clear l50 cd5 HI5 HP5
          have HQ := Lib.hid (show ra ≤ 400 ∧ zb.length ≤ 400 by have h1 := H1.out; have h2 := H2.out; unfold fright at h1 h2; omega)
          have HX0 : Hid (wrap64 (x - ((cntL s.B 0 : Nat) : Int)) = x) := by unfold wrap64 Hid; simp only [cntL]; omega
          clear p2 cw5
          go_loopw [18, 19, 117] (fun s18 s19 s117 wv => ∃ i m : Nat, i ≤ zb.length ∧ s18 = .int .i64 (gat s.B x i) ∧ s19 = .int .i64 (wrap64 (x - ((cntL s.B i : Nat) : Int))) ∧ s117 = .int .i64 i ∧ wv = v5.drewN m) (fun _ _ s117 _ => zb.length - (intOf s117).toNat)
          case atStart => exact ⟨0, 0, Nat.zero_le _, rfl, by rw [HX0.out], rfl, by first | rfl | simp⟩
          case round =>
            obtain ⟨i, m, hi, rfl, rfl, rfl, rfl⟩ := hrel
            have hci := cntL_le s.B i
            have hq := HQ.out
            by_cases hi2 : i < zb.length
            · have i7 : (i : Int) < (zb.length : Int) := by omega
              have hwi : (Lit.int .i64 (i : Int)).wf = true := WalkArith.wf_i64 (by omega)
              have hlk := (HJ5.out.m2.drewN m).look Try.underlying141 hwi
              have hpg := HJ5.out.pg.cell 1 rfl
              rw [show (decide (0 ≤ (i : Int)) && s.B (i : Int).toNat) = s.B i by simp] at hlk
              have hw7 : wrap64 (wrap64 (x - ((cntL s.B i : Nat) : Int)) - 1) = wrap64 (x - ((cntL s.B i + 1 : Nat) : Int)) := by unfold wrap64; omega
              clear hwi
              by_cases hG : s.B i = true
              · have HG1 : Hid (gat s.B x (i + 1) = gat s.B x i) := by unfold Hid; rw [gat, if_neg (by rw [hG]; simp)]
                have HC1 : Hid (cntL s.B (i + 1) = cntL s.B i) := by unfold Hid; rw [cntL, if_pos hG]
                rw [hG] at hlk
                clear hG hw7
                generalize gat s.B x i = g at *
                generalize hsk : wrap64 (x - ((cntL s.B i : Nat) : Int)) = sk at *
                have HSK := Lib.hid hsk
                clear hsk
                go_wp2_with fail
                go_roundw
                case rel => exact ⟨i + 1, m, by omega, by rw [HG1.out], by rw [HC1.out, HSK.out], by go_num, rfl⟩
                case measure => simp [intOf]; omega
              · have hG2 : s.B i = false := by simpa using hG
                have HC1 : Hid (cntL s.B (i + 1) = cntL s.B i + 1) := by unfold Hid; rw [cntL, if_neg hG]
                rw [hG2] at hlk
                by_cases h0 : wrap64 (x - ((cntL s.B i : Nat) : Int)) = 0
                · have HG1 : Hid (gat s.B x (i + 1) = i) := by
                    unfold Hid; rw [gat, if_pos ⟨hG2, by unfold wrap64 at h0; omega⟩]
                  clear hG hG2
                  generalize gat s.B x i = g at *
                  generalize hs2 : wrap64 (x - ((cntL s.B i + 1 : Nat) : Int)) = sk2 at *
                  generalize wrap64 (x - ((cntL s.B i : Nat) : Int)) = sk at *
                  have HSK := Lib.hid hs2
                  clear hs2
                  go_wp2_with fail
                  go_roundw
                  case rel => exact ⟨i + 1, m, by omega, by rw [HG1.out], by rw [HC1.out, HSK.out, show sk2 = -1 by rw [← hw7, h0]; unfold wrap64; omega], by go_num, rfl⟩
                  case measure => simp [intOf]; omega
                · have HG1 : Hid (gat s.B x (i + 1) = gat s.B x i) := by
                    unfold Hid; rw [gat, if_neg (by rintro ⟨_, h⟩; apply h0; unfold wrap64; omega)]
                  clear hG hG2
                  generalize gat s.B x i = g at *
                  generalize hs2 : wrap64 (x - ((cntL s.B i + 1 : Nat) : Int)) = sk2 at *
                  generalize wrap64 (x - ((cntL s.B i : Nat) : Int)) = sk at *
                  have HSK := Lib.hid hs2
                  clear hs2
                  go_wp2_with fail
                  go_roundw
                  case rel => exact ⟨i + 1, m, by omega, by rw [HG1.out], by rw [HC1.out, HSK.out, hw7], by go_num, rfl⟩
                  case measure => simp [intOf]; omega
            · obtain rfl : i = zb.length := by omega
              by_cases hh : 0 ≤ x ∧ x < cntL s.B zb.length
              · obtain ⟨X, rfl⟩ : ∃ X : Nat, x = X := ⟨x.toNat, by omega⟩
                obtain ⟨j, hj, hgat, hGj, _, _, _⟩ := gat_hit (zs := zb) (G := s.B) (w := X) zb.length (by omega)
                have HST : Hid (JS.step za zb s d X = some { s with B := gone s.B j, cb := s.cb - 1, o := s.o ++ [pat zb j] }) := by
                  unfold Hid JS.step; rw [HCA.out, HCB.out, if_neg (by omega), if_neg (by omega), if_pos hh, hgat]; rfl
                have HNX := Lib.hid (HSS.out _ HST.out)
                obtain ⟨az, rfl, hazB, cz⟩ := (HSC.out.below HJ5.out.be).pat hj
                obtain ⟨Ao, co, hpo, how⟩ := hinv.out.po
                have HOR : Hid (∀ q, (Value.slice Ao s.o.length co).ownBlock = some q → q < wr.heap.size) := how.lt
                have HPO := Lib.hid (hpo.below HV5.out hpo.lt)
                have HOW := Lib.hid (how.below HV5.out (Nat.le_refl _))
                have HCZ := Lib.hid cz
                have hc0 : 0 < b := by omega
                have hpg := HJ5.out.pg.cell 1 rfl
                have HWJ : Hid ((Lit.int .i64 (j : Int)).wf = true) := WalkArith.wf_i64 (by omega)
                have HGW : Hid (w.heap.size + 2 < w2.heap.size ∧ w2.heap.size < w3.heap.size) := ⟨HZ2.out, by have := HS3.out; simp at this; omega⟩
                have hw8 : wrap64 (b - 1) = b - 1 := by unfold wrap64; omega
                have j0 : ¬ (j : Int) < 0 := by omega
                have j1 : (j : Int) < (zb.length : Int) := by omega
                have HPL := Lib.hid HJ5.out.pl
                have HBD := Lib.hid hbd
                have HKK := Lib.hid hlt
                have HJL := Lib.hid hj
                clear hpo how cz HST hh hGj hbd cd cw l0 l1
                rw [hgat]
                clear hgat
                go_wp2_with (first
                  | (at_mapUpdate; go_must (refine wpList_mapb_store _ rfl _ _ _ _ rfl Try.underlying141 (w3.heap.size + 2) k _ rfl (HJ5.out.m2.drewN m) (by unfold maxLen; omega) (j : Int) true rfl rfl HWJ.out ?_); intro w6 hm6 hg6; have HM6 := Lib.hid hm6; have HG6 := Lib.hid hg6; have HPL6 := Lib.hid ((HPL.out.drewN m).grown hg6 (by omega)); clear hm6 hg6; have l06 := HPL6.out.cell 1 rfl; have f06 := HPL6.out.frozen 1; rw [HCB.out] at l06)
                  | fail)
                have HB6 : Hid (Below w.heap.size w w6) := Below.grown (below_drewN HJ5.out.be m) HG6.out HJ5.out.be.size (fun q hq => by injection hq with hq; have := HGW.out; omega)
                have HG7 := Lib.hid (jset_grown w6 w3.heap.size 1 (.int .i64 (b - 1)))
                generalize hw7 : w6.setCell ⟨w3.heap.size, 1, none⟩ (.int .i64 (b - 1)) = w7 at *
                have HW7 := Lib.hid hw7
                have HB7 : Hid (Below w.heap.size w w7) := Below.grown HB6.out HG7.out HB6.out.size (fun q hq => by injection hq with hq; have := HGW.out; omega)
                have HWS : Hid (w3.heap.size + 4 ≤ wr.heap.size) := hinv.out.sz
                have HO7 := Lib.hid (((HPO.out.drewN m).grown HG6.out (by have := HGW.out; omega)).grown HG7.out (by have := HGW.out; omega))
                have HP7 := Lib.hid (((HQ5.out.drewN m).grown HG6.out (by have := HWS.out; omega)).grown HG7.out (by have := HWS.out; omega))
                have HOW7 := Lib.hid (Own.grown (Own.grown (Own.below HOW.out (below_drewN (Below.refl v5.heap.size v5) m) (Nat.le_refl _)) HG6.out (by omega)) HG7.out (by omega))
                have HCX : Hid (∀ u, Below w.heap.size w u → u.cell? (az.add j) = some (.int .i64 (pat zb j))) := fun u hu => by
                  obtain ⟨az', e, _, cz⟩ := (HSC.out.below hu).pat HJL.out
                  injection e with e; subst e; exact cz
                have HSZ7 : Hid (w3.heap.size + 4 ≤ w7.heap.size) := by have h1 := HJ5.out.sz; have h2 := HG6.out.size; have h3 := HG7.out.size; unfold Hid; simp at h2; omega
                have HOL : Hid (s.o.length ≤ 400) := by unfold Hid; have := HBD.out.2.2.2; omega
                clear hw7 l06 f06 hpg hw8
                refine wp_region_plan [(0, 0), (1, 1), (2, 0), (3, 1), (4, 0), (5, 0), (6, 1), (7, 2), (8, 2), (9, 0), (10, 3)] (fun w' => w'.cell? ⟨w2.heap.size, 2, none⟩ = some (.slice Ao s.o.length co) ∧ w'.cell? ⟨wr.heap.size, 2, none⟩ = some (.slice (some az) zb.length cb) ∧ w'.cell? (az.add j) = some (.int .i64 (pat zb j))) (by kernel_rfl) (by kernel_rfl) (fun _ d _ _ _ h => by cases d <;> exact h) ⟨HO7.out.cell 2 rfl, HP7.out.cell 2 rfl, HCX.out _ (Below.drew HB7.out)⟩ ?_
                iterate 7 ((first | (refine plan0 (v := ?_) rfl rfl (by rfl) ?_ ?_) | (refine plan1 (v := ?_) rfl rfl (by rfl) ?_ ?_)); rotate_left; (first | (intro w'; go_simp; with_reducible rfl) | (intro w' hS; obtain ⟨h1, h2, h3⟩ := hS; go_simp; with_reducible rfl)); simp only [List.setIfInBounds_toArray, List.set_cons_zero, List.set_cons_succ])
                refine plan2 rfl rfl fun K' hK' => ?_
                go_simp
                refine hK' _ _ ⟨(HO7.out.drew.alloc _).cell 2 rfl, (HP7.out.drew.alloc _).cell 2 rfl, HCX.out _ ((Below.drew HB7.out).alloc HB7.out.size _)⟩ ?_
                clear hK' K'
                refine plan2 rfl rfl fun K' hK' => ?_
                refine wp_push2 _ _ _ elem_ints rfl (w3.heap.size + 4) (.slice Ao s.o.length co) (s.o.map (.int .i64)) rfl (Own.alloc' (w := w7.drew) HOW7.out _) (.int .i64 (pat zb j)) ⟨w7.heap.size, 0, none⟩ 1 rfl (cell_new1 _ _ _) rfl (by rw [List.length_map]; have := HOL.out; omega) (by rw [List.length_map]; unfold maxLen; have := HOL.out; omega) (by simp; have := HSZ7.out; omega) ?_
                intro v8 w8 hown8 hg8 _
                obtain ⟨A8, c8, rfl, _, hown8⟩ := hown8.res2
                rw [show (List.map (Value.int .i64) s.o ++ [Value.int .i64 (pat zb j)]).length = s.o.length + 1 by simp] at hown8
                have HO8 := Lib.hid ((HO7.out.drew.alloc (.cells #[.int .i64 (pat zb j)] 3)).row hg8 (fun q hq => by have := HOW7.out.block q hq; have := HGW.out; omega))
                have HB8 : Hid (Below w.heap.size w w8) := Below.grown ((Below.drew HB7.out).alloc HB7.out.size _) hg8 (Nat.le_trans HB7.out.size (by simp)) (fun q hq => by have := HOW7.out.block q hq; have := HGW.out; omega)
                have HP8 := Lib.hid ((HP7.out.drew.alloc (.cells #[.int .i64 (pat zb j)] 3)).row hg8 (fun q hq => by have := HOR.out q hq; omega))
                have HOW8 := Lib.hid hown8
                have HG8 := Lib.hid hg8
                clear hown8 hg8
                refine hK' _ _ ⟨HO8.out.cell 2 rfl, HP8.out.cell 2 rfl, HCX.out _ HB8.out⟩ ?_
                clear hK' K'
                iterate 1 ((refine plan0 (v := ?_) rfl rfl (by rfl) ?_ ?_); rotate_left; (intro w'; go_simp; with_reducible rfl))
                have c9 := HO8.out.cell 2 rfl
                have f9 := HO8.out.frozen 2
                refine plan3 rfl rfl fun K' hK' => ?_
                go_simp
                refine hK' _ _ ?_
                clear hK' K' c9 f9
                refine planEnd ?_
                go_wp2_with fail
                go_roundw
                case rel => exact ⟨k + 1, _, by omega, by go_num, HNX.out, GInv.stepB (HJ5.out.next (below_drewN (Below.refl _ v5) m)) HGW.out.1 HGW.out.2 (Nat.le_refl _) (HPO.out.drewN m) (Own.below HOW.out (below_drewN (Below.refl v5.heap.size v5) m) (Nat.le_refl _)) HM6.out HG6.out (by rw [List.map_append]; exact HOW8.out) rfl HW7.out HG8.out (by rw [HCB.out]) (by rw [HCB.out]; exact hc0)⟩
                case measure => simp [intOf]; omega
              · have hneg : gat s.B x zb.length = -1 := gat_none _ (by omega)
                have HN := Lib.hid (HSN.out (by unfold JS.step; rw [HCA.out, HCB.out, if_neg (by omega), if_neg (by omega), if_neg hh]))
                have HPR := Lib.hid HJ5.out.pr
                have HBD : Hid (Below w.heap.size w v5) := HJ5.out.be
                rw [hneg]
                clear hneg hh
                go_wp2_with (first | (refine wpList_store_blk rfl _ _ _ rfl (w.heap.size + 2) (pcells 0 0 (.slice none 0 0)) rfl rfl _ _ (HPR.out.drewN _) (by kernel_rfl) rfl (pcells_one _ _ _ _ _) ?_; intro w9 hb9 hg9 hs9; have HS9 := Lib.hid hs9; have HB9 := Lib.hid hb9; have HG9 := Lib.hid hg9; clear hs9 hb9 hg9) | fail)
                refine bodyPost_ret (v := .tuple #[PoolV 0 0 (.slice none 0 0), .int .i64 2]) (results_ct (a := 9) Try.results16 _ rfl HB9.out Try.underlying24 rfl (by kernel_rfl)) rfl ⟨pool_is (HT.out.trans (by rw [HN.out])) (nil_is _ _ _), Below.grown (below_drewN HBD.out _) HG9.out HBD.out.size (fun q hq => by injection hq with hq; omega)⟩
    · have HTS : Hid (T = some s.o) := by
        have h1 := hrun.out
        rw [show ra.toNat - k = 0 by omega, JS.run] at h1
        exact h1.symm
      obtain ⟨Ao, co, hpo, how⟩ := hinv.out.po
      have HPO := Lib.hid hpo
      have HOW := Lib.hid how
      have HPR := Lib.hid hinv.out.pr
      have HBD : Hid (Below w.heap.size w wr) := hinv.out.be
      have HGW : Hid (w.heap.size + 2 < w3.heap.size + 4) := by have h1 := HZ2.out; have := HS3.out; unfold Hid; simp at this; omega
      clear hpo how
      go_wp2_with (first | refine wpList_load_blk rfl _ _ rfl w2.heap.size rfl _ (pcells ra (ka + kb) (.slice Ao s.o.length co)) _ HPO.out Try.underlying24 rfl (by kernel_rfl) ?_ | (refine wpList_store_blk rfl _ _ _ rfl (w.heap.size + 2) (pcells ra (ka + kb) (.slice Ao s.o.length co)) rfl rfl _ _ HPR.out (by kernel_rfl) rfl (pcells_one _ _ _ _ _) ?_; intro w9 hb9 hg9 hs9; have HS9 := Lib.hid hs9; have HB9 := Lib.hid hb9; have HG9 := Lib.hid hg9; clear hs9 hb9 hg9) | fail)
      refine bodyPost_ret (v := .tuple #[PoolV ra (ka + kb) (.slice Ao s.o.length co), .int .i64 0]) (results_ct (a := 9) Try.results16 _ rfl HB9.out Try.underlying24 rfl (by kernel_rfl)) rfl ⟨pool_is (HT.out.trans (by rw [HTS.out])) (own_is (Own.grown HOW.out HG9.out HGW.out) rfl), Below.grown HBD.out HG9.out HBD.out.size (fun q hq => by injection hq with hq; omega)⟩
end Go.Proofs.Ytmnjgoicppknjaa
