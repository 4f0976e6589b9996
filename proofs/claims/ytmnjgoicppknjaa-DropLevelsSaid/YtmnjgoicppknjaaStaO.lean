/- Package stats: Of walked. No condition. -/
import Derived.Test.YtmnjgoicppknjaaStaR
namespace Go.Proofs.Ytmnjgoicppknjaa
open Go.ChangeShapes Go.WideShapes Go.ChangeAt Go.RowKit
set_option linter.unusedVariables false

def sall (zs : List Int) : Prop := ∀ x ∈ zs, -1048576 ≤ x ∧ x ≤ 1048576
instance (zs : List Int) : Decidable (sall zs) := by unfold sall; infer_instance
def ssum : List Int → Int
  | [] => 0
  | x :: l => x + ssum l
def ssq : List Int → Int
  | [] => 0
  | x :: l => x * x + ssq l
theorem ssum_app (a b : List Int) : ssum (a ++ b) = ssum a + ssum b := by
  induction a with
  | nil => simp [ssum]
  | cons x a ih => simp [ssum, ih]; omega
theorem ssq_app (a b : List Int) : ssq (a ++ b) = ssq a + ssq b := by
  induction a with
  | nil => simp [ssq]
  | cons x a ih => simp [ssq, ih]; omega
theorem stake (zs : List Int) (k : Nat) (h : k < zs.length) : ssum (zs.take (k + 1)) = ssum (zs.take k) + zs[k] ∧ ssq (zs.take (k + 1)) = ssq (zs.take k) + zs[k] * zs[k] := by
  rw [List.take_succ_eq_append_getElem h, ssum_app, ssq_app]
  simp [ssum, ssq]
theorem sall_take (zs : List Int) (k : Nat) (h : k < zs.length) : sall (zs.take (k + 1)) ↔ sall (zs.take k) ∧ -1048576 ≤ zs[k] ∧ zs[k] ≤ 1048576 := by
  unfold sall
  rw [List.take_succ_eq_append_getElem h]
  constructor
  · intro a
    exact ⟨fun x hx => a x (List.mem_append.2 (Or.inl hx)), a _ (List.mem_append.2 (Or.inr (List.mem_singleton.2 rfl)))⟩
  · rintro ⟨a, b⟩ x hx
    rw [List.mem_append] at hx
    rcases hx with hx | hx
    · exact a x hx
    · simp at hx; subst hx; exact b
theorem sbound (zs : List Int) (h : sall zs) : -(1048576 * (zs.length : Int)) ≤ ssum zs ∧ ssum zs ≤ 1048576 * zs.length ∧ 0 ≤ ssq zs ∧ ssq zs ≤ 1099511627776 * zs.length := by
  induction zs with
  | nil => simp [ssum, ssq]
  | cons z zs ih =>
    have h1 := h z (by simp)
    have h2 := ih fun x hx => h x (by simp [hx])
    have h3 := sq_bound (S := z) (B := 1048576) (by omega) (by omega) (by decide)
    simp only [ssum, ssq, List.length_cons]
    omega
/-- What Of answers. -/
def sof (zs : List Int) : (Int × Int × Int) × Int := if zs.length ≤ 400 ∧ sall zs then ((zs.length, ssum zs, ssq zs), 0) else ((0, 0, 0), 2)
theorem ret_mom {r : (Int × Int × Int) × Int} {a b c d : Int} (h : r = ((a, b, c), d)) : Ending.returned (.tuple #[MomV a b c, .int .i64 d]) = .returned (.tuple #[MomV r.1.1 r.1.2.1 r.1.2.2, .int .i64 r.2]) := by rw [h]
abbrev mcs (a b c : Int) : Array Value := #[.int .i64 a, .int .i64 b, .int .i64 c]
theorem mcs_one (a b c : Int) : (mcs a b c).all (·.oneCell') = true := by simp [mcs, Value.oneCell']
abbrev tM : TypeId := 180

set_option maxRecDepth 20000 in
set_option maxHeartbeats 4000000 in
theorem sof_any (A : Option Addr) (zs : List Int) (c : Nat) (w : World) (hs : Seg w w.heap.size A (zs.map (.int .i64))) :
    Calls Try.prog 173 #[.slice A zs.length c] w fun e w' => e = .returned (.tuple #[MomV (sof zs).1.1 (sof zs).1.2.1 (sof zs).1.2.2, .int .i64 (sof zs).2]) ∧ Below w.heap.size w w' := by
  have HS := Lib.hid hs
  clear hs
  have HB0 := Lib.hid (Blk.new w tM (mcs 0 0 0))
  by_cases h1 : 400 < zs.length
  · have hf : Hid (sof zs = ((0, 0, 0), 2)) := if_neg (by omega)
    go_enter Try.func173, Try.ntmps173
    go_wp2_with (first | (refine wpList_store_blk rfl _ _ _ rfl w.heap.size (mcs 0 0 0) rfl rfl tM (mcs 0 0 0) HB0.out (by kernel_rfl) rfl (mcs_one _ _ _) ?_; intro w2 hb2 hg2 hs2; have HB2 := Lib.hid hb2; have HG2 := Lib.hid hg2; clear hs2 hb2 hg2) | fail)
    refine bodyPost_ret (v := .tuple #[MomV 0 0 0, .int .i64 2]) (results_ct (a := 3) Try.results173 _ rfl HB2.out Try.underlying180 rfl (by kernel_rfl)) rfl ⟨ret_mom hf.out, ?_⟩
    exact ((Below.refl _ _).alloc (Nat.le_refl _) _).grown HG2.out (by simp) (fun k hk => by injection hk with hk; omega)
  · have hl : zs.length ≤ 400 := by omega
    have d0 : decide (400 < (zs.length : Int)) = false := decide_eq_false (by omega)
    clear h1
    go_enter Try.func173, Try.ntmps173
    go_wp2_with fail
    clear d0
    go_loopw [13] (fun s13 wr => ∃ k : Nat, k ≤ zs.length ∧ s13 = .int .i64 k ∧ Hid (sall (zs.take k)) ∧ Blk wr (w.heap.size + 1) tM (mcs k (ssum (zs.take k)) (ssq (zs.take k))) ∧ Blk wr w.heap.size tM (mcs 0 0 0) ∧ Below w.heap.size w wr) (fun s13 _ => zs.length - (intOf s13).toNat)
    case atStart =>
      refine ⟨0, Nat.zero_le _, rfl, (by unfold Hid sall; simp), ?_, HB0.out.alloc _, ((Below.refl _ _).alloc (Nat.le_refl _) _).alloc (by simp) _⟩
      have := Blk.new (w.alloc (.cells (mcs 0 0 0) tM)) tM (mcs 0 0 0)
      rwa [show (w.alloc (.cells (mcs 0 0 0) tM)).heap.size = w.heap.size + 1 by simp] at this
    case round =>
      obtain ⟨k, hk, rfl, hw, hb1, hb0, hbel⟩ := hrel
      have HM := Lib.hid hb1
      have HR := Lib.hid hb0
      have HB := Lib.hid hbel
      obtain ⟨q1, q2, q3, q4⟩ := sbound _ hw.out
      have q5 : (zs.take k).length ≤ 400 := by rw [List.length_take]; omega
      have q6 : -419430400 ≤ ssum (zs.take k) := by omega
      have q7 : ssum (zs.take k) ≤ 419430400 := by omega
      have q8 : ssq (zs.take k) ≤ 439804651110400 := by omega
      clear q1 q2 q4 q5
      by_cases hlt : k < zs.length
      · obtain ⟨ad, rfl, _, hc⟩ := (HS.out.below hbel).int hlt
        have c0 := hb1.cell 0 (u := .int .i64 k) rfl
        have c1 := hb1.cell 1 (u := .int .i64 (ssum (zs.take k))) rfl
        have c2 := hb1.cell 2 (u := .int .i64 (ssq (zs.take k))) rfl
        have f0 := hb1.frozen 0
        have f1 := hb1.frozen 1
        have f2 := hb1.frozen 2
        have HT := Lib.hid (stake zs k hlt)
        have HWT := Lib.hid (sall_take zs k hlt)
        clear hb1 hb0 hbel
        by_cases b1 : zs[k] < -1048576
        · have hf : Hid (sof zs = ((0, 0, 0), 2)) := if_neg (fun h => by have := h.2 zs[k] (List.getElem_mem hlt); omega)
          clear HT HWT c0 c1 c2 f0 f1 f2
          generalize zs[k] = z at *
          go_wp2_with (first | (refine wpList_store_blk rfl _ _ _ rfl w.heap.size (mcs 0 0 0) rfl rfl tM (mcs 0 0 0) HR.out (by kernel_rfl) rfl (mcs_one _ _ _) ?_; intro w2 hb2 hg2 hs2; have HB2 := Lib.hid hb2; have HG2 := Lib.hid hg2; clear hs2 hb2 hg2) | fail)
          refine bodyPost_ret (v := .tuple #[MomV 0 0 0, .int .i64 2]) (results_ct (a := 3) Try.results173 _ rfl HB2.out Try.underlying180 rfl (by kernel_rfl)) rfl ⟨ret_mom hf.out, HB.out.grown HG2.out HB.out.size (fun k hk => by injection hk with hk; omega)⟩
        by_cases b2 : 1048576 < zs[k]
        · have hf : Hid (sof zs = ((0, 0, 0), 2)) := if_neg (fun h => by have := h.2 zs[k] (List.getElem_mem hlt); omega)
          clear HT HWT c0 c1 c2 f0 f1 f2
          generalize zs[k] = z at *
          go_wp2_with (first | (refine wpList_store_blk rfl _ _ _ rfl w.heap.size (mcs 0 0 0) rfl rfl tM (mcs 0 0 0) HR.out (by kernel_rfl) rfl (mcs_one _ _ _) ?_; intro w2 hb2 hg2 hs2; have HB2 := Lib.hid hb2; have HG2 := Lib.hid hg2; clear hs2 hb2 hg2) | fail)
          refine bodyPost_ret (v := .tuple #[MomV 0 0 0, .int .i64 2]) (results_ct (a := 3) Try.results173 _ rfl HB2.out Try.underlying180 rfl (by kernel_rfl)) rfl ⟨ret_mom hf.out, HB.out.grown HG2.out HB.out.size (fun k hk => by injection hk with hk; omega)⟩
        have HW2 : Hid (sall (zs.take (k + 1))) := HWT.out.2 ⟨hw.out, by omega, by omega⟩
        obtain ⟨p1, p2⟩ := sq_bound (S := zs[k]) (B := 1048576) (by omega) (by omega) (by decide)
        clear HWT
        generalize zs[k] = z at *
        generalize hx : ssum (zs.take k) = x at *
        generalize hy : ssq (zs.take k) = y at *
        clear hx hy
        go_wp2_with fail
        go_roundw
        case rel =>
          refine ⟨k + 1, by omega, by go_num, HW2, ?_, ((HR.out.far (by simp) _).far (by simp) _).far (by simp) _, ((HB.out.setCell (by simp) _).setCell (by simp) _).setCell (by simp) _⟩
          rw [HT.out.1, HT.out.2]
          exact ((HM.out.set_ 0 _).set_ 1 _).set_ 2 _
        case measure => simp [intOf]; omega
      · obtain rfl : k = zs.length := by omega
        have htk : Hid (zs.take zs.length = zs) := List.take_length
        have hf : Hid (sof zs = (((zs.length : Int), ssum zs, ssq zs), (0 : Int))) := if_pos ⟨hl, by have := hw.out; rwa [htk.out] at this⟩
        rw [htk.out] at HM
        clear hb1 hb0 hbel q3 q6 q7 q8 hw
        go_wp2_with (first | (refine wpList_store_blk rfl _ _ _ rfl w.heap.size (mcs zs.length (ssum zs) (ssq zs)) rfl rfl tM (mcs 0 0 0) HR.out (by kernel_rfl) rfl (mcs_one _ _ _) ?_; intro w2 hb2 hg2 hs2; have HB2 := Lib.hid hb2; have HG2 := Lib.hid hg2; clear hs2 hb2 hg2) | (refine wpList_load_blk rfl _ _ rfl (w.heap.size + 1) rfl _ _ _ HM.out Try.underlying180 rfl (by kernel_rfl) ?_) | fail)
        refine bodyPost_ret (v := .tuple #[MomV zs.length (ssum zs) (ssq zs), .int .i64 0]) (results_ct (a := 3) Try.results173 _ rfl HB2.out Try.underlying180 rfl (by kernel_rfl)) rfl ⟨ret_mom hf.out, HB.out.grown HG2.out HB.out.size (fun k hk => by injection hk with hk; omega)⟩
end Go.Proofs.Ytmnjgoicppknjaa
