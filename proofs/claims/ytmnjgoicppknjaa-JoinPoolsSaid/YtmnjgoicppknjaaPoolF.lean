/- The reference's SamePool walked. No condition. -/
import Derived.Test.YtmnjgoicppknjaaPoolB
namespace Go.Proofs.Ytmnjgoicppknjaa
open Go.ChangeShapes Go.WideShapes Go.ChangeAt Go.RowKit

theorem take_step_i (zs ys : List Int) (j : Nat) (h1 : j < zs.length) (h2 : j < ys.length) (h : zs.take j = ys.take j) (e : zs[j] = ys[j]) : zs.take (j + 1) = ys.take (j + 1) := by
  rw [List.take_succ_eq_append_getElem h1, List.take_succ_eq_append_getElem h2, h, e]
theorem ret_bool {a b : Bool} (h : a = b) : Ending.returned (.bool a) = .returned (.bool b) := by rw [h]

set_option maxRecDepth 20000 in
set_option maxHeartbeats 2000000 in
theorem same_any (A C : Option Addr) (zs ys : List Int) (r k r' k' : Int) (c d : Nat) (w : World) (hs : Seg w w.heap.size A (zs.map (.int .i64))) (ht : Seg w w.heap.size C (ys.map (.int .i64))) (hm : zs.length ≤ 1000000) :
    Calls Try.prog 18 #[PoolV r k (.slice A zs.length c), PoolV r' k' (.slice C ys.length d)] w fun e w' => e = .returned (.bool (decide ((r, k, zs) = (r', k', ys)))) ∧ Below w.heap.size w w' := by
  have HS := Lib.hid ((hs.alloc (Nat.le_refl _) (.cells (pcells r k (.slice A zs.length c)) 24)).alloc (by simp) (.cells (pcells r' k' (.slice C ys.length d)) 24))
  have HT := Lib.hid ((ht.alloc (Nat.le_refl _) (.cells (pcells r k (.slice A zs.length c)) 24)).alloc (by simp) (.cells (pcells r' k' (.slice C ys.length d)) 24))
  have HB : Hid (Below w.heap.size w ((w.alloc (.cells (pcells r k (.slice A zs.length c)) 24)).alloc (.cells (pcells r' k' (.slice C ys.length d)) 24))) := ((Below.refl _ _).alloc (Nat.le_refl _) _).alloc (by simp) _
  clear hs ht
  by_cases hl : zs.length = ys.length
  · have b0 : ((zs.length : Int) != (ys.length : Int)) = false := by rw [hl]; simp
    have HL := Lib.hid hl
    have hle : zs.length ≤ ys.length := by omega
    clear hl
    go_enter Try.func18, Try.ntmps18
    go_wp2
    go_loopw [16] (fun i wr => ∃ j : Nat, j ≤ zs.length ∧ i = .int .i64 j ∧ Hid (zs.take j = ys.take j) ∧ ∃ n, wr = ((w.alloc (.cells (pcells r k (.slice A zs.length c)) 24)).alloc (.cells (pcells r' k' (.slice C ys.length d)) 24)).drewN n) (fun i _ => zs.length - (intOf i).toNat)
    case atStart => exact ⟨0, Nat.zero_le _, rfl, rfl, 0, rfl⟩
    case round =>
      obtain ⟨j, hj, rfl, hp, n, rfl⟩ := hrel
      by_cases hlt : j < zs.length
      · have hlt2 : j < ys.length := by omega
        have hi1 : (j : Int) < (zs.length : Int) := by omega
        have hi2 : (j : Int) < (ys.length : Int) := by omega
        obtain ⟨ad, rfl, _, hc⟩ := HS.out.int hlt
        obtain ⟨ae, rfl, _, hd⟩ := HT.out.int hlt2
        have hstep := Lib.hid (take_step_i zs ys j hlt hlt2 hp.out)
        by_cases he : zs[j] = ys[j]
        · have b1 : (zs[j] != ys[j]) = false := by rw [he]; simp
          have HE := Lib.hid he
          generalize zs[j] = x at *
          generalize ys[j] = y at *
          clear he
          go_wp2
          go_quiet (fail)
          go_wp2
          go_roundw
          case rel => exact ⟨j + 1, by omega, by go_num, hstep.out HE.out, _, rfl⟩
          case measure => simp [intOf]; omega
        · have b1 : (zs[j] != ys[j]) = true := by simpa using he
          have hne : Hid (decide ((r, k, zs) = (r', k', ys)) = false) := by
            refine decide_eq_false (fun h => he ?_)
            injection h with h1 h2
            injection h2 with h3 h4
            subst h4
            rfl
          generalize zs[j] = x at *
          generalize ys[j] = y at *
          clear he hstep
          go_wp2
          go_quiet (fail)
          go_wp2
          go_ret
          exact ⟨ret_bool hne.out.symm, below_drewN (below_drewN HB.out _) _⟩
      · have heq : Hid (zs = ys) := by
          have h1 := hp.out
          rw [List.take_of_length_le (by omega), List.take_of_length_le (by have := HL.out; omega)] at h1
          exact h1
        by_cases hr : r = r'
        · by_cases hk : k = k'
          · have b1 : (r == r') = true := by simpa using hr
            have b2 : (k == k') = true := by simpa using hk
            have hf : Hid (decide ((r, k, zs) = (r', k', ys)) = true) := decide_eq_true (by rw [hr, hk, heq.out])
            clear hr hk
            go_wp2
            go_ret
            exact ⟨ret_bool hf.out.symm, below_drewN HB.out _⟩
          · have b1 : (r == r') = true := by simpa using hr
            have b2 : (k == k') = false := by simpa using hk
            have hf : Hid (decide ((r, k, zs) = (r', k', ys)) = false) := decide_eq_false (fun h => hk (by injection h with h1 h2; injection h2))
            clear hr hk
            go_wp2
            go_ret
            exact ⟨ret_bool hf.out.symm, below_drewN HB.out _⟩
        · have b1 : (r == r') = false := by simpa using hr
          have hf : Hid (decide ((r, k, zs) = (r', k', ys)) = false) := decide_eq_false (fun h => hr (by injection h))
          clear hr
          go_wp2
          go_ret
          exact ⟨ret_bool hf.out.symm, below_drewN HB.out _⟩
  · have b0 : ((zs.length : Int) != (ys.length : Int)) = true := by simp; omega
    have hne : Hid (decide ((r, k, zs) = (r', k', ys)) = false) := decide_eq_false (fun h => hl (by injection h with h1 h2; injection h2 with h3 h4; rw [h4]))
    clear hl
    go_enter Try.func18, Try.ntmps18
    go_wp2
    go_ret
    exact ⟨ret_bool hne.out.symm, HB.out⟩
theorem same_refl (v u : Value) (p : Int × Int × List Int) (w : World) (h1 : PoolIs w v p) (h2 : PoolIs w u p) (hm : p.2.2.length ≤ 1000000) :
    Calls Try.prog 18 #[v, u] w fun e w' => e = .returned (.bool true) ∧ Below w.heap.size w w' := by
  obtain ⟨A, c, rfl, hs⟩ := h1
  obtain ⟨C, d, rfl, ht⟩ := h2
  refine (same_any A C p.2.2 p.2.2 p.1 p.2.1 p.1 p.2.1 c d w hs.1 ht.1 hm).mono ?_
  rintro e w' ⟨rfl, hb⟩
  exact ⟨ret_bool (decide_eq_true rfl), hb⟩
theorem PoolIs.below {w w' : World} {v : Value} {p : Int × Int × List Int} (h : PoolIs w v p) (hb : Below w.heap.size w w') : PoolIs w' v p := by
  obtain ⟨A, c, e, hs⟩ := h
  exact ⟨A, c, e, hs.below hb⟩
end Go.Proofs.Ytmnjgoicppknjaa
