/- Rows of numbers that the call makes. Nothing of the program's own functions. No condition. Package chain: det, walked: rows of small numbers, four of them at most. No condition but that. -/
import Derived.Test.YtkffakekakhgdaaRwI
import Derived.Test.YtkffakekakhgdaaApp2
import Derived.Test.YtkffakekakhgdaaSeq2
import Derived.Test.YtkffakekakhgdaaChaW
import Derived.Test.YtkffakekakhgdaaHeld
namespace Go.Proofs.Ytkffakekakhgdaa
open Go.ChangeShapes Go.WideShapes Go.ChangeAt Go.RowKit
set_option linter.unusedVariables false

abbrev tL : TypeId := 36
theorem elem_rows : Elem1 Try.prog 35 tL 24 := elem_of (z := .slice none 0 0) Try.underlying35 (by kernel_rfl) rfl
/-- A row of rows that the call owns; each row lies elsewhere. -/
def RowsO (w : World) (base : Nat) (v : Value) (l : List Rw) : Prop :=
  Own w base tL v (l.map rowV) ∧ ∀ x ∈ l, RowOk w w.heap.size x ∧ (0 < x.2.1.length → Apart x.1 v)
section
variable {w w' : World} {base : Nat} {v v' : Value} {l : List Rw}
theorem RowsO.nil_ : RowsO w base (.slice none 0 0) [] := ⟨Own.none_, fun x hx => by cases hx⟩
theorem RowsO.below (h : RowsO w base v l) (hb : Below w.heap.size w w') : RowsO w' base v l :=
  ⟨Own.below h.1 hb (Nat.le_refl _), fun x hx => ⟨⟨((h.2 x hx).1.1.below hb).more hb.size, (h.2 x hx).1.2⟩, (h.2 x hx).2⟩⟩
theorem RowsO.rows (h : RowsO w base v l) : ∃ A c, v = .slice A l.length c ∧ l.length ≤ c ∧ RowsOk w w.heap.size A l := by
  obtain ⟨A, c, rfl, hc, hs⟩ := h.1.res
  rw [List.length_map] at hc
  exact ⟨A, c, by rw [List.length_map], hc, hs, fun x hx => (h.2 x hx).1⟩
theorem RowsO.push {x : Rw} (h : RowsO w base v l) (hx : RowOk w w.heap.size x) (hxa : 0 < x.2.1.length → Apart x.1 v) (ho : Own w' base tL v' (l.map rowV ++ [rowV x])) (hg : w.grownBy w' v.ownBlock)
    (hsz : w.heap.size ≤ w'.heap.size) (hv : v'.ownBlock = v.ownBlock ∨ v'.ownBlock = some w.heap.size) : RowsO w' base v' (l ++ [x]) := by
  refine ⟨by rw [List.map_append]; exact ho, fun y hy => ?_⟩
  have hy2 : RowOk w w.heap.size y ∧ (0 < y.2.1.length → Apart y.1 v) := by
    rcases List.mem_append.1 hy with hy | hy
    · exact h.2 y hy
    · rw [List.mem_singleton.1 hy]; exact ⟨hx, hxa⟩
  by_cases h0 : 0 < y.2.1.length
  · have hl0 : 0 < (y.2.1.map (Value.int .i64)).length := by rw [List.length_map]; exact h0
    exact ⟨⟨(hy2.1.1.far hg (hy2.2 h0) (Nat.le_refl _)).more hsz, hy2.1.2⟩, fun _ => hy2.1.1.apart_new hl0 (hy2.2 h0) hv (Nat.le_refl _)⟩
  · have hn : y.2.1 = [] := List.eq_nil_of_length_eq_zero (by omega)
    exact ⟨⟨by rw [hn]; exact Seg.nil, hy2.1.2⟩, fun h1 => absurd h1 h0⟩
end
theorem Own.capN {w : World} {base n c : Nat} {e : TypeId} {A : Option Addr} {xs : List Value} (h : Own w base e (.slice A n c) xs) : c ≤ maxLen := by
  rcases h.2 with ⟨h1, _⟩ | ⟨g, cap, cur, h1, _, _, _, hm, _⟩
  · injection h1 with _ _ h2; rw [h2]; decide
  · injection h1 with _ _ h2; rw [h2]; exact hm
/-- A row that the call owns, in blocks from base on, lies apart from what lies below. -/
theorem Own.apart {w : World} {base n c : Nat} {e : TypeId} {A : Option Addr} {xs : List Value} {v : Value} (h : Own w base e (.slice A n c) xs) (hv : ∀ g, v.ownBlock = some g → g < base) : Apart A v := by
  intro ad g hA hg
  have h1 := hv g hg
  rcases h.2 with ⟨h2, _⟩ | ⟨k, cap, cur, h2, hk, _⟩
  · injection h2 with h2; rw [h2] at hA; cases hA
  · injection h2 with h2
    rw [h2] at hA
    injection hA with hA
    rw [← hA]
    show k ≠ g
    omega
/-- m[1:] of a slice of rows. -/
theorem rows_tail {A : Option Addr} {x : Rw} {l : List Rw} {n c : Nat} (z : Int) (hz : z = 1) (hn : n = l.length + 1) (hc : n ≤ c) :
    ∃ A', (∀ u, (Instr.slice 35 (.slice A n c) (some (.int .i64 z)) none none).run Try.prog u = .ok (.slice A' l.length (c - 1)) u) ∧ ∀ w B, RowsOk w B A (x :: l) → RowsOk w B A' l := by
  subst hn
  refine ⟨if c = 1 then A else A.map (·.add (1 * 1)), fun u => ?_, fun w B h => ⟨?_, fun y hy => h.2 y (List.mem_cons_of_mem _ hy)⟩⟩
  · have hu : Try.prog.underlying 35 = some (.slice (Try.prog.elem 35)) := by kernel_rfl
    have he : Try.prog.elem 35 = 36 := by kernel_rfl
    obtain ⟨k, hk⟩ : ∃ k : Nat, k = 1 := ⟨_, rfl⟩
    obtain rfl : z = (k : Int) := by omega
    rw [run_slice_l u 35 A (l.length + 1) c hu .i64 k (by omega) (by omega), he, Try.sizeOf36]
    subst hk
    simp [sliced, Result.andThen]
  · have h1 := h.1
    by_cases e : c = 1
    · have : l = [] := List.eq_nil_of_length_eq_zero (by omega)
      subst this
      exact Seg.nil
    · rw [if_neg e]
      cases A with
      | none =>
        obtain ⟨ad, e, _⟩ := h1 (by simp)
        cases e
      | some ad => exact h1.cut 1

set_option linter.unusedVariables false

theorem dw64 {x : Int} (h1 : -9223372036854775808 ≤ x) (h2 : x ≤ 9223372036854775807) : wrap64 x = x := by unfold wrap64; omega
theorem dbnd_le {n : Nat} (h : n ≤ 4) : dbnd n ≤ 98415000 := by
  rcases (by omega : n = 0 ∨ n = 1 ∨ n = 2 ∨ n = 3 ∨ n = 4) with rfl | rfl | rfl | rfl | rfl <;> decide
theorem erase_cut (z : List Int) (k : Nat) : z.eraseIdx k = z.take k ++ z.drop (k + 1) := List.eraseIdx_eq_take_drop_succ ..
theorem csg_step (k : Nat) : csg (k + 1) = - csg k := by unfold csg; split <;> split <;> omega
set_option maxRecDepth 20000 in
set_option maxHeartbeats 8000000 in
theorem det_any : ∀ (n : Nat) (A : Option Addr) (l : List Rw) (c : Nat) (w : World), RowsOk w w.heap.size A l → l.length ≤ c → l.length = n → n ≤ 4 → (∀ x ∈ l, x.2.1.length = n) → Sml (nums l) →
    Calls Try.prog 47 #[.slice A l.length c] w fun e w' => e = .returned (.int .i64 (cdet n (nums l))) ∧ Below w.heap.size w w' := by
  intro n
  induction n with
  | zero =>
    intro A l c w hl hc hn h4 hr hs
    have hf : Hid (cdet 0 (nums l) = 1) := rfl
    rw [hn, hf.out]
    clear hl hr hs
    go_enter Try.func47, Try.ntmps47
    go_wp2_with fail
    go_ret
    exact ⟨rfl, Below.refl _ _⟩
  | succ n ih =>
    intro A l c w hl hc hn h4 hr hs
    obtain ⟨⟨A0, z0, c0⟩, l1, rfl⟩ : ∃ x l1, l = x :: l1 := by
      cases l with
      | nil => cases hn
      | cons x l1 => exact ⟨x, l1, rfl⟩
    have hn1 : l1.length = n := by simpa using hn
    have hz0 : z0.length = n + 1 := hr _ (List.mem_cons_self ..)
    have hr1 : Hid (∀ x ∈ l1, x.2.1.length = n + 1) := fun x hx => hr x (List.mem_cons_of_mem _ hx)
    obtain ⟨ad, rfl, _, hcr, hrr⟩ := hl.row (k := 0) (by simp)
    have hc0 : w.cell? ad = some (.slice A0 z0.length c0) := hcr
    have HZ : Hid (Seg w w.heap.size A0 (z0.map (.int .i64))) := hrr.1
    obtain ⟨A1, hsl, hl1⟩ := rows_tail (A := some ad) (x := (A0, z0, c0)) (l := l1) (n := n + 1) (c := c) 1 rfl (by omega) (by simp at hc; omega)
    have HL1 := Lib.hid (hl1 w w.heap.size hl)
    obtain ⟨M1, hM1⟩ : ∃ M1, M1 = nums l1 := ⟨_, rfl⟩
    have hD : Hid (cdet (n + 1) (nums ((A0, z0, c0) :: l1)) = asum z0 (fun k => cdet n (M1.map (·.eraseIdx k))) (n + 1)) := by
      unfold Hid; rw [hM1]; rfl
    have HS1 : Hid (Sml M1) := by rw [hM1]; exact fun z hz x hx => hs z (List.mem_cons_of_mem _ hz) x hx
    have hz45 : Hid (∀ k, -45 ≤ pat z0 k ∧ pat z0 k ≤ 45) := fun k => pat_abs (fun x hx => hs z0 (List.mem_cons_self ..) x hx) k
    have HF : Hid (∀ k, -dbnd n ≤ cdet n (M1.map (·.eraseIdx k)) ∧ cdet n (M1.map (·.eraseIdx k)) ≤ dbnd n) := fun k => cdet_le n _ (fun z hz x hx => by
      obtain ⟨y, hy, rfl⟩ := List.mem_map.1 hz
      exact HS1.out y hy x (List.mem_of_mem_eraseIdx hx))
    have HIH : Hid (∀ (k : Nat) (A : Option Addr) (L : List Rw) (c : Nat) (w : World), k < n + 1 → RowsOk w w.heap.size A L → L.length ≤ c → nums L = M1.map (·.eraseIdx k) →
        Calls Try.prog 47 #[.slice A n c] w fun e w' => e = .returned (.int .i64 (cdet n (M1.map (·.eraseIdx k)))) ∧ Below w.heap.size w w') := by
      intro k A L c w hk hL hc hM
      have hLn : L.length = n := by
        have h1 : (nums L).length = L.length := by simp [nums]
        rw [← h1, hM, hM1]; simp [nums, hn1]
      have h2 := ih A L c w hL hc hLn (by omega) (fun x hx => by
        have h3 : x.2.1 ∈ nums L := List.mem_map.2 ⟨x, hx, rfl⟩
        rw [hM, hM1] at h3
        obtain ⟨y, hy, e⟩ := List.mem_map.1 h3
        obtain ⟨q, hq, rfl⟩ := List.mem_map.1 hy
        have h4 := hr1.out q hq
        rw [← e, List.length_eraseIdx, if_pos (by omega), h4]; rfl) (by
        rw [hM]
        intro z hz x hx
        obtain ⟨y, hy, rfl⟩ := List.mem_map.1 hz
        exact HS1.out y hy x (List.mem_of_mem_eraseIdx hx))
      rw [hM, hLn] at h2
      exact h2
    have h4' : Hid (n ≤ 3) := by unfold Hid; omega
    have hb0 : (((n + 1 : Nat) : Int) == 0) = false := by rw [beq_eq_false_iff_ne]; omega
    have i0 : (0 : Int) < ((n + 1 : Nat) : Int) := by omega
    have i00 : ¬ ((n + 1 : Nat) : Int) = 0 := by omega
    rw [hD.out]
    rw [hz0] at hc0
    have hlen : (((A0, z0, c0) : Rw) :: l1).length = n + 1 := by simp [hn1]
    rw [hlen]
    rw [hn1] at hsl
    have HZL := Lib.hid hz0
    have HN1 := Lib.hid hn1
    have HM1 := Lib.hid hM1
    have HC0 := Lib.hid (show z0.length ≤ c0 ∧ c0 ≤ maxLen from ⟨hrr.2.1, hrr.2.2.1⟩)
    clear ih hl hc hn h4 hr hs hcr hrr hl1 hM1 hlen hz0 hn1 hD
    obtain ⟨N1, hN1⟩ : ∃ N1, N1 = n + 1 := ⟨_, rfl⟩
    have HNN := Lib.hid hN1
    rw [← hN1] at hb0 i0 i00 hc0 hsl HZL HIH hr1 ⊢
    clear hN1
    go_enter Try.func47, Try.ntmps47
    go_wp2_with fail
    clear hb0 i0 i00 hc0
    --LOOK1
    go_loopw [3, 4, 17] (fun s3 s4 s17 wx => ∃ (k : Nat), k ≤ N1 ∧ s17 = .int .i64 k ∧ s3 = .int .i64 (asum z0 (fun k => cdet n (M1.map (·.eraseIdx k))) k) ∧ s4 = .int .i64 (csg k) ∧ Hid (Below w.heap.size w wx)) (fun _ _ s17 _ => N1 - (intOf s17).toNat)
    case atStart => exact ⟨0, Nat.zero_le _, rfl, rfl, rfl, Below.refl _ _⟩
    case round =>
      obtain ⟨k, hk, rfl, rfl, rfl, hb⟩ := hrel
      by_cases hkl : k < N1
      · have i1 : (k : Int) < (N1 : Int) := by omega
        obtain ⟨zd, rfl, _, hcz0⟩ := HZ.out.pat (k := k) (by have := HZL.out; omega)
        have hcz := (hb.out.cell (block_lt hcz0)).trans hcz0
        have uk : Hid (wrap64 ((k : Int) + 1) = ((k + 1 : Nat) : Int)) := cw64 (by have := HNN.out; have := h4'.out; omega)
        have hsg := csg_step k
        have hsa := csg_abs k
        have us : wrap64 (- csg k) = csg (k + 1) := by rw [hsg]; exact dw64 (by omega) (by omega)
        have HST : Hid (asum z0 (fun k => cdet n (M1.map (·.eraseIdx k))) (k + 1) = asum z0 (fun k => cdet n (M1.map (·.eraseIdx k))) k + csg k * pat z0 k * cdet n (M1.map (·.eraseIdx k))) := rfl
        have hz := hz45.out k
        have hD := HF.out k
        have hS := asum_le (f := fun k => cdet n (M1.map (·.eraseIdx k))) (dbnd_nn n) hz45.out HF.out k
        have hS1 := asum_le (f := fun k => cdet n (M1.map (·.eraseIdx k))) (dbnd_nn n) hz45.out HF.out (k + 1)
        have hdb := dbnd_le (n := n) (by have := h4'.out; omega)
        have hdn := dbnd_nn n
        have hkk : (k : Int) * (45 * dbnd n) ≤ 4 * (45 * 98415000) := Int.mul_le_mul (by have := HNN.out; have := h4'.out; omega) (by omega) (by omega) (by omega)
        have hkk1 : ((k + 1 : Nat) : Int) * (45 * dbnd n) ≤ 4 * (45 * 98415000) := Int.mul_le_mul (by have := HNN.out; have := h4'.out; omega) (by omega) (by omega) (by omega)
        have hsx := mul_abs hsa hz
        have hsxd := mul_abs (mul_abs hsa hz) (show -98415000 ≤ cdet n (M1.map (·.eraseIdx k)) ∧ cdet n (M1.map (·.eraseIdx k)) ≤ 98415000 by omega)
        have HSTB : Hid (-17714700000 ≤ asum z0 (fun k => cdet n (M1.map (·.eraseIdx k))) (k + 1) ∧ asum z0 (fun k => cdet n (M1.map (·.eraseIdx k))) (k + 1) ≤ 17714700000) := by unfold Hid; omega
        have hI := HIH.out k
        obtain ⟨D, hDD⟩ : ∃ D, D = cdet n (M1.map (·.eraseIdx k)) := ⟨_, rfl⟩
        obtain ⟨S, hSS⟩ : ∃ S, S = asum z0 (fun k => cdet n (M1.map (·.eraseIdx k))) k := ⟨_, rfl⟩
        obtain ⟨S1, hSS1⟩ : ∃ S1, S1 = asum z0 (fun k => cdet n (M1.map (·.eraseIdx k))) (k + 1) := ⟨_, rfl⟩
        obtain ⟨x, hx⟩ : ∃ x, x = pat z0 k := ⟨_, rfl⟩
        obtain ⟨sg, hg⟩ : ∃ sg, sg = csg k := ⟨_, rfl⟩
        obtain ⟨sg1, hg1⟩ : ∃ sg, sg = csg (k + 1) := ⟨_, rfl⟩
        rw [← hDD, ← hSS, ← hSS1, ← hx, ← hg] at HST
        rw [← hSS1] at HSTB
        rw [← hg, ← hg1] at us
        rw [← hx] at hcz hsx hsxd
        rw [← hDD] at hsxd
        rw [← hg] at hsx hsxd
        rw [← hSS, ← hg]
        have HI : Hid (∀ (A : Option Addr) (L : List Rw) (c : Nat) (w : World), RowsOk w w.heap.size A L → L.length ≤ c → nums L = M1.map (·.eraseIdx k) →
            Calls Try.prog 47 #[.slice A n c] w fun e w' => e = .returned (.int .i64 D) ∧ Below w.heap.size w w') := fun A L c w h1 h2 h3 => by rw [hDD]; exact hI A L c w (by omega) h1 h2 h3
        have HK := Lib.hid (And.intro hk hkl)
        have HE := Lib.hid (And.intro hSS1 hg1)
        have u1 : Hid (wrap64 (sg * x) = sg * x) := dw64 (by omega) (by omega)
        have u2 : Hid (wrap64 (sg * x * D) = sg * x * D) := dw64 (by omega) (by omega)
        have u3 : Hid (wrap64 (S + sg * x * D) = S1) := by unfold Hid; rw [← HST.out]; have := HSTB.out; exact dw64 (by omega) (by omega)
        clear hcz0 hsg hsa hz hD hS hS1 hdb hdn hkk hkk1 hsx hsxd hI hDD hSS hSS1 hx hg hg1 HSTB hk hkl
        by_cases hx0 : x = 0
        · subst hx0
          have hs1 : Hid (S1 = S) := by unfold Hid; rw [HST.out, Int.mul_zero, Int.zero_mul, Int.add_zero]
          clear HI u1 u2 u3
          go_wp2_with fail
          go_roundw
          case rel => exact ⟨k + 1, by have := HK.out; omega, by first | rfl | rw [uk.out], by rw [← HE.out.1, hs1.out], by rw [us, ← HE.out.2], hb⟩
          case measure => (try rw [uk.out]); have := HK.out; simp [intOf]; omega
        · have bx : (x != 0) = true := by simp [hx0]
          clear hx0
          go_wp2_with fail
          clear bx hcz
          --LOOK2
          obtain ⟨wo, hwo⟩ : ∃ wo : World, wo = wr := ⟨_, rfl⟩
          rw [← hwo] at hb ⊢
          clear hwo
          have usk := Lib.hid us
          clear us
          go_loopw [7, 27] (fun s7 s27 wx => ∃ (j : Nat) (L : List Rw), j ≤ n ∧ s27 = .int .i64 j ∧ Hid (nums L = (M1.take j).map (·.eraseIdx k)) ∧ Hid (RowsO wx wo.heap.size s7 L) ∧ Hid (Below wo.heap.size wo wx)) (fun _ s27 _ => n - (intOf s27).toNat)
          case atStart => exact ⟨0, [], Nat.zero_le _, rfl, by unfold Hid; rfl, RowsO.nil_, Below.refl _ _⟩
          case round =>
            obtain ⟨j, L, hj, rfl, hL, hro, hbj⟩ := hrel
            obtain ⟨A7, c7, rfl, hc7, hr7⟩ := hro.out.rows
            have HBW : Hid (Below w.heap.size w wr) := hb.out.trans (hbj.out.mono hb.out.size)
            have HML : Hid (M1.length = n) := by unfold Hid; rw [HM1.out]; simp [nums, HN1.out]
            by_cases hjl : j < n
            · have i2 : (j : Int) < (n : Int) := by omega
              have hjl2 : j < l1.length := by have := HN1.out; omega
              obtain ⟨ad1, rfl, _, hcr0, hrr⟩ := HL1.out.row hjl2
              obtain ⟨⟨A2, z, c2⟩, hx1⟩ : ∃ x : Rw, x = l1[j] := ⟨_, rfl⟩
              have hzl := hr1.out _ (List.getElem_mem hjl2)
              have hMj : M1[j]'(by have := HML.out; omega) = l1[j].2.1 := by have h1 := HM1.out; subst h1; simp [nums]
              have hwf := hrr.2.2.2
              rw [← hx1] at hcr0 hrr hzl hMj hwf
              have hzl' : z.length = N1 := hzl
              have hcr := (HBW.out.cell (block_lt hcr0)).trans hcr0
              have hcr' : wr.cell? (ad1.add j) = some (.slice A2 z.length c2) := hcr
              rw [hzl'] at hcr'
              have hcz2 : z.length ≤ c2 ∧ c2 ≤ maxLen := ⟨hrr.2.1, hrr.2.2.1⟩
              have HSZ : Hid (Seg wr wr.heap.size A2 (z.map (.int .i64))) := ((hrr.1.below HBW.out).more HBW.out.size)
              have uj : Hid (wrap64 ((j : Int) + 1) = ((j + 1 : Nat) : Int)) := cw64 (by have := h4'.out; omega)
              have hkN := HK.out
              have hsl1 := fun u => slice_to (A := A2) (n := N1) (x := k) (c := c2) (k : Int) rfl (by omega) u
              obtain ⟨B2, hsl2, hseg2⟩ := slice_from2 A2 (ys := z) (l := k + 1) (c := c2) ((k : Int) + 1) (by omega) (by omega) (by omega)
              rw [hzl'] at hsl2
              have hwa : IntKind.i64.wrap ((k : Int) + 1) = (k : Int) + 1 := IntWalk.i64_in _ (by have := h4'.out; have := HNN.out; omega)
              have HSE := Lib.hid hseg2
              have hdl : (z.drop (k + 1)).length = N1 - (k + 1) := by rw [List.length_drop]; omega
              rw [hdl] at hsl2
              have HDR := Lib.hid hdl
              have HZL2 := Lib.hid hzl'
              have HWF : Hid (∀ n ∈ z, (Lit.int .i64 n).wf = true) := hwf
              have HMJ : Hid (M1.take (j + 1) = M1.take j ++ [z]) := by
                unfold Hid
                rw [List.take_succ_eq_append_getElem (by have := HML.out; omega), hMj]
              have HJ := Lib.hid (And.intro hj hjl)
              clear hc7 hr7 hcr0 hrr hzl hMj hx1 hzl' hcr hcz2 hkN hseg2 hdl hwf hj hjl hjl2
              go_wp2_with fail
              have hN4 : N1 ≤ 4 := by have := h4'.out; have := HNN.out; omega
              have hk4 : k ≤ 4 := by have := HK.out; omega
              have hn0 : ([] : List Value).length + k ≤ maxLen := by unfold maxLen; simp; omega
              have hn0b : (([] : List Value).length + k) * 8 ≤ 140737488355328 := by simp; omega
              have hH4 := Lib.hid (And.intro hN4 hk4)
              clear hN4 hk4
              --LOOK3
              refine wp_region_plan [(0, 0), (2, 0), (3, 0), (4, 0), (6, 0), (7, 0), (8, 0), (9, 0), (1, 2), (5, 2), (10, 2), (11, 2), (12, 2), (13, 0)] (fun _ => True) (by kernel_rfl) (by kernel_rfl) (fun _ d _ _ _ h => by cases d <;> exact h) trivial ?_
              iterate 8 ((refine plan0 (v := ?_) rfl rfl (by rfl) ?_ ?_); rotate_left; (intro w'; go_simp; with_reducible rfl); simp only [List.setIfInBounds_toArray, List.set_cons_zero, List.set_cons_succ])
              refine plan2 rfl rfl fun K' hK' => ?_
              go_simp
              refine hK' _ _ trivial ?_
              clear hK' K'
              refine plan2 rfl rfl fun K' hK' => ?_
              refine wp_append_seg _ _ _ elem_ints rfl wr.heap.size (.slice (some ⟨wr.heap.size, 0, none⟩) 0 0) [] rfl (own_empty wr.drew _ _ (Nat.le_refl _)) c2 rfl (show ((z.take k).map (Value.int .i64)).length = k by rw [List.length_map, List.length_take]; have := HZL2.out; have := HK.out; omega) (show Seg (wr.drew.alloc (.cells #[] 3)) wr.heap.size A2 ((z.take k).map (.int .i64)) by rw [List.map_take]; exact (Seg.alloc (w := wr.drew) HSZ.out (Nat.le_refl _) _).pre k) (ints_one _) hn0 hn0b (by simp) ?_
              intro v4 w4 hown4 hg4 _
              have HB4 : Hid (Below wr.heap.size wr w4) := ((Below.drew (Below.refl _ wr)).alloc (Nat.le_refl _) _).grown hg4 (by simp) (fun q hq => by injection hq with hq; exact Nat.le_of_eq hq)
              rw [List.nil_append] at hown4
              have HO4 := Lib.hid hown4
              clear hown4 hg4
              refine hK' _ _ trivial ?_
              clear hK' K'
              refine plan2 rfl rfl fun K' hK' => ?_
              have hln : ((z.take k).map (Value.int .i64)).length = k := by rw [List.length_map, List.length_take]; have := HZL2.out; have := HK.out; omega
              refine wp_append_seg _ _ _ elem_ints rfl wr.heap.size v4 _ rfl HO4.out (c2 - (k + 1)) rfl (show ((z.drop (k + 1)).map (Value.int .i64)).length = N1 - (k + 1) by rw [List.length_map, HDR.out]) (HSE.out w4 wr.heap.size (HSZ.out.below HB4.out)) (ints_one _) (by rw [hln]; have := hH4.out; unfold maxLen; omega) (by rw [hln]; have := hH4.out; omega) HB4.out.size ?_
              intro v5 w5 hown5 hg5 _
              have HB5 : Hid (Below wr.heap.size wr w5) := Below.grown HB4.out hg5 HB4.out.size HO4.out.block
              rw [← List.map_append, ← erase_cut] at hown5
              obtain ⟨A5, c5, rfl, hc5, hown5⟩ := hown5.res2
              rw [List.length_map] at hown5 hc5
              have HO5 := Lib.hid hown5
              have HC5 := Lib.hid hc5
              clear hown5 hg5 hc5 hln
              refine hK' _ _ trivial ?_
              clear hK' K'
              rw [List.length_map]
              --LOOK4
              refine plan2 rfl rfl fun K' hK' => ?_
              go_simp
              refine hK' _ _ trivial ?_
              clear hK' K'
              refine plan2 rfl rfl fun K' hK' => ?_
              have HR5 : Hid (RowsO w5 wo.heap.size (.slice A7 L.length c7) L) := hro.out.below HB5.out
              have HRA := Lib.hid (HR5.out.below (w' := w5.alloc (.cells #[.slice A5 (z.eraseIdx k).length c5] tL)) ((Below.refl _ _).alloc (Nat.le_refl _) _))
              have hLL : L.length = j := by
                have h1 : (nums L).length = L.length := by simp [nums]
                rw [← h1, hL.out]; have := HML.out; have := HJ.out; simp; omega
              refine wp_push2 _ _ _ elem_rows rfl wo.heap.size (.slice A7 L.length c7) _ rfl HRA.out.1 (.slice A5 (z.eraseIdx k).length c5) ⟨w5.heap.size, 0, none⟩ 1 rfl (cell_new1 _ _ _) rfl (by rw [List.length_map, hLL]; have := h4'.out; have := HJ.out; omega) (by rw [List.length_map, hLL]; have := h4'.out; have := HJ.out; unfold maxLen; omega) (by have h1 := hbj.out.size; have h2 := HB5.out.size; simp; omega) ?_
              intro v6 w6 hown6 hg6 hv6
              have HB6 : Hid (Below wo.heap.size wr w6) := by
                have h1 : Below wo.heap.size wr (w5.alloc (.cells #[.slice A5 (z.eraseIdx k).length c5] tL)) := (HB5.out.mono hbj.out.size).alloc (Nat.le_trans hbj.out.size HB5.out.size) _
                exact Below.grown h1 hg6 (Nat.le_trans hbj.out.size (Nat.le_trans HB5.out.size (by simp))) HRA.out.1.block
              have HR6 : Hid (RowsO w6 wo.heap.size v6 (L ++ [((A5, z.eraseIdx k, c5) : Rw)])) := by
                refine HRA.out.push (x := (A5, z.eraseIdx k, c5)) ⟨?_, HC5.out, HO5.out.capN, fun y hy => HWF.out y (List.mem_of_mem_eraseIdx hy)⟩ (fun _ => ?_) hown6 hg6 ?_ hv6
                · exact (HO5.out.seg.alloc (Nat.le_refl _) _).more (by simp)
                · exact HO5.out.apart fun g hg => hro.out.1.lt g hg
                · have := (Below.refl (w5.alloc (.cells #[.slice A5 (z.eraseIdx k).length c5] tL)).heap.size (w5.alloc (.cells #[.slice A5 (z.eraseIdx k).length c5] tL)))
                  exact ((Below.refl wo.heap.size (w5.alloc (.cells #[.slice A5 (z.eraseIdx k).length c5] tL))).grown hg6 (Nat.le_trans hbj.out.size (Nat.le_trans HB5.out.size (by simp))) HRA.out.1.block).size
              clear hown6 hg6 hv6 hLL
              refine hK' _ _ trivial ?_
              clear hK' K'
              iterate 1 ((refine plan0 (v := ?_) rfl rfl (by rfl) ?_ ?_); rotate_left; (intro w'; go_simp; with_reducible rfl))
              refine planEnd ?_
              go_wp2_with fail
              go_roundw
              case rel =>
                refine ⟨j + 1, L ++ [((A5, z.eraseIdx k, c5) : Rw)], by have := HJ.out; omega, by first | rfl | rw [uj.out], ?_, HR6, hbj.out.trans HB6.out⟩
                unfold Hid
                rw [HMJ.out, List.map_append, ← hL.out]
                simp [nums]
              case measure => (try rw [uj.out]); have := HJ.out; simp [intOf]; omega
            · obtain rfl : j = n := by omega
              have hL9 : Hid (nums L = M1.map (·.eraseIdx k)) := by
                have h := hL.out
                rw [List.take_of_length_le (by have := HML.out; omega)] at h
                exact h
              have hLn : L.length = j := by
                have h1 : (nums L).length = L.length := by simp [nums]
                rw [← h1, hL9.out]; have := HML.out; simp; omega
              have HCALL := Lib.hid (HI.out A7 L c7 wr hr7 hc7 hL9.out)
              rw [hLn]
              have u1' := u1.out
              clear hro hL hc7 hr7 hLn hj hjl
              go_wp2_with fail
              refine HCALL.out.mono ?_
              rintro e w7 ⟨rfl, hb7⟩
              have HB7 : Hid (Below w.heap.size w w7) := HBW.out.trans (hb7.mono HBW.out.size)
              have u2' := u2.out
              have u3' := u3.out
              have us' := usk.out
              clear hb7
              go_wp2_with fail
              go_roundw
              case rel => exact ⟨k + 1, by have := HK.out; omega, by first | rfl | rw [uk.out], by rw [u3.out, ← HE.out.1], by rw [us', ← HE.out.2], HB7⟩
              case measure => (try rw [uk.out]); have := HK.out; simp [intOf]; omega
      · obtain rfl : k = N1 := by omega
        clear hk hkl
        go_wp2_with fail
        go_ret
        exact ⟨by rw [HNN.out]; rfl, hb.out⟩
end Go.Proofs.Ytkffakekakhgdaa
