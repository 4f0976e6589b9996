/- Package stats: Join and Spread walked; the reference's PWrong. No condition. -/
import Derived.Test.YtmnjgoicppknjaaStaO
namespace Go.Proofs.Ytmnjgoicppknjaa
open Go.ChangeShapes Go.WideShapes Go.ChangeAt Go.RowKit
set_option linter.unusedVariables false

def sspread (N S Q : Int) : Int × Int := if mok N S Q then (N * Q - S * S, 0) else (0, 1)
theorem ret_s2 {a b : Int} {r : Int × Int} (h : r = (a, b)) : Ending.returned (.tuple #[.int .i64 a, .int .i64 b]) = .returned (.tuple #[.int .i64 r.1, .int .i64 r.2]) := by rw [h]
/-- Is a number too great, or are they too many? -/
def pwr (zs : List Int) : Bool := !decide (zs.length ≤ 400 ∧ sall zs)
set_option maxRecDepth 20000 in
set_option maxHeartbeats 4000000 in
theorem pwrong_any (A : Option Addr) (zs : List Int) (c : Nat) (w : World) (hs : Seg w w.heap.size A (zs.map (.int .i64))) (hl : zs.length ≤ 9223372036854775807) :
    Calls Try.prog 102 #[.slice A zs.length c] w fun e w' => e = .returned (.bool (pwr zs)) ∧ w = w' := by
  have HS := Lib.hid hs
  clear hs
  obtain ⟨b0, hb0⟩ : ∃ b, decide (400 < (zs.length : Int)) = b := ⟨_, rfl⟩
  have HB0 : Hid (b0 = !decide (zs.length ≤ 400)) := by
    unfold Hid; rw [← hb0]
    by_cases h : zs.length ≤ 400
    · rw [decide_eq_true h, decide_eq_false (by omega)]; rfl
    · rw [decide_eq_false h, decide_eq_true (by omega)]; rfl
  go_enter Try.func102, Try.ntmps102
  go_wp2_with fail
  clear hb0
  go_loop [11, 3] (fun s11 s3 => ∃ (k : Nat) (b : Bool), k ≤ zs.length ∧ s11 = .int .i64 k ∧ s3 = .bool b ∧ Hid (b = !decide (zs.length ≤ 400 ∧ sall (zs.take k)))) (fun s11 _ => zs.length - (intOf s11).toNat)
  case atStart =>
    refine ⟨0, b0, Nat.zero_le _, rfl, rfl, ?_⟩
    unfold Hid; rw [HB0.out]; simp [sall]
  case round =>
    obtain ⟨k, b, hk, rfl, rfl, hb⟩ := hrel
    by_cases hlt : k < zs.length
    · obtain ⟨ad, rfl, _, hc⟩ := HS.out.int hlt
      have HWT := Lib.hid (sall_take zs k hlt)
      cases b with
      | true =>
        have HN : Hid (true = !decide (zs.length ≤ 400 ∧ sall (zs.take (k + 1)))) := by
          unfold Hid
          rw [decide_eq_false]; rfl
          intro h
          have h2 := hb.out
          rw [decide_eq_true ⟨h.1, (HWT.out.1 h.2).1⟩] at h2
          cases h2
        clear HWT hb
        generalize zs[k] = z at *
        go_wp2_with fail
        go_round
        case rel => exact ⟨k + 1, true, by omega, by go_num, rfl, HN⟩
        case measure => simp [intOf]; omega
      | false =>
        have hok : zs.length ≤ 400 ∧ sall (zs.take k) := by
          have h2 := hb.out
          by_cases h : zs.length ≤ 400 ∧ sall (zs.take k)
          · exact h
          · rw [decide_eq_false h] at h2; cases h2
        by_cases b1 : 1048576 < zs[k]
        · have HN : Hid (true = !decide (zs.length ≤ 400 ∧ sall (zs.take (k + 1)))) := by
            unfold Hid
            rw [decide_eq_false]; rfl
            intro h
            have := (HWT.out.1 h.2).2
            omega
          clear HWT hb hok
          generalize zs[k] = z at *
          go_wp2_with fail
          go_round
          case rel => exact ⟨k + 1, true, by omega, by go_num, rfl, HN⟩
          case measure => simp [intOf]; omega
        by_cases b2 : zs[k] < -1048576
        · have HN : Hid (true = !decide (zs.length ≤ 400 ∧ sall (zs.take (k + 1)))) := by
            unfold Hid
            rw [decide_eq_false]; rfl
            intro h
            have := (HWT.out.1 h.2).2
            omega
          clear HWT hb hok
          generalize zs[k] = z at *
          go_wp2_with fail
          go_round
          case rel => exact ⟨k + 1, true, by omega, by go_num, rfl, HN⟩
          case measure => simp [intOf]; omega
        have HN : Hid (false = !decide (zs.length ≤ 400 ∧ sall (zs.take (k + 1)))) := by
          unfold Hid
          rw [decide_eq_true ⟨hok.1, HWT.out.2 ⟨hok.2, by omega, by omega⟩⟩]; rfl
        clear HWT hb hok
        generalize zs[k] = z at *
        go_wp2_with fail
        go_round
        case rel => exact ⟨k + 1, false, by omega, by go_num, rfl, HN⟩
        case measure => simp [intOf]; omega
    · obtain rfl : k = zs.length := by omega
      have hf : Hid (b = pwr zs) := by have := hb.out; rwa [List.take_length] at this
      clear hb
      go_wp2_with fail
      go_ret
      exact ⟨ret_mb hf.out, rfl⟩

theorem wpList_load_blk_g {P : Program} {ops : Array Oper} {rest : List Oper} {o : Oper} {a : Act} {w : World} {Q : Exit → Act → World → Prop} (hw : Region.wanted o (yielded ops a.tmps) = true) (ty : TypeId) (x : Operand) (ho : o.op = .load ty x)
    (g : Nat) (hx : a.eval x = .pointer (some ⟨g, 0, none⟩)) (t : TypeId) (cs : Array Value) (d : TypeDesc) (hg : Blk w g t cs)
    (hu : P.underlying ty = some d) (hd : (match d with | .struct _ | .array _ _ => true | _ => false) = true) (hi : (P.info? ty).map (·.size) = some cs.size)
    (h : wpList P ops Q rest (a.put o.dst (.agg cs)) w) : wpList P ops Q (o :: rest) a w :=
  wpList_step fun K hK => by
    rw [if_pos hw]
    exact wp_load_row ty x ho g hx t cs (0, 0) d hg hu hd hi (hK _ _ h)
/-- What Join answers. -/
def sjoin (a b c x y z : Int) : (Int × Int × Int) × Int := if mok a b c ∧ mok x y z then (if 1024 < a + x then ((0, 0, 0), 4) else ((a + x, b + y, c + z), 0)) else ((0, 0, 0), 1)
theorem three_new (w : World) (o p q : Obj) : Below w.heap.size w (((w.alloc o).alloc p).alloc q) := (((Below.refl w.heap.size w).alloc (Nat.le_refl _) o).alloc (by simp) p).alloc (by simp; omega) q
theorem three_blk (w : World) (t : TypeId) (a b c : Array Value) : Blk (((w.alloc (.cells a t)).alloc (.cells b t)).alloc (.cells c t)) w.heap.size t a ∧ Blk (((w.alloc (.cells a t)).alloc (.cells b t)).alloc (.cells c t)) (w.heap.size + 1) t b ∧ Blk (((w.alloc (.cells a t)).alloc (.cells b t)).alloc (.cells c t)) (w.heap.size + 2) t c := by
  refine ⟨((Blk.new w t a).alloc _).alloc _, ?_, ?_⟩
  · have := (Blk.new (w.alloc (.cells a t)) t b).alloc (.cells c t)
    rwa [show (w.alloc (.cells a t)).heap.size = w.heap.size + 1 by simp] at this
  · have := Blk.new ((w.alloc (.cells a t)).alloc (.cells b t)) t c
    rwa [show ((w.alloc (.cells a t)).alloc (.cells b t)).heap.size = w.heap.size + 2 by simp] at this
end Go.Proofs.Ytmnjgoicppknjaa
