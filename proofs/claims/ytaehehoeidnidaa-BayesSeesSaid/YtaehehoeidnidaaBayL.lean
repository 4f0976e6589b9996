/- Package bayes: low, walked. No condition but that the numbers are not below 0. -/
import Derived.Test.YtaehehoeidnidaaBayM
import Derived.Test.YtaehehoeidnidaaRuiA
import Derived.BigQuiet
namespace Go.Proofs.Ytaehehoeidnidaa
open Go.ChangeShapes Go.WideShapes Go.ChangeAt Go.RowKit
set_option linter.unusedVariables false

abbrev tN : TypeId := 3
theorem bl64 {k : Nat} (h : k < 9223372036854775807) : wrap64 ((k : Int) + 1) = ((k + 1 : Nat) : Int) := by unfold wrap64; omega
theorem Own.drewB {w : World} {base : Nat} {e : TypeId} {v : Value} {xs : List Value} (h : Own w base e v xs) (n : Nat) : Own (w.drewN n) base e v xs := Own.below h (below_drewN (Below.refl w.heap.size w) n) (Nat.le_refl _)
/-- The first k of one list, the others of another one. -/
def mixf (l m : List Int) (k i : Nat) : Int := if i < k then pat m i else pat l i
theorem mix_zero (l m : List Int) : tab (mixf l m 0) l.length = l := by
  rw [tab_congr (f := mixf l m 0) (g := pat l) fun i _ => if_neg (Nat.not_lt_zero _)]; exact tab_pat l
theorem mix_all (l m : List Int) (h : m.length = l.length) : tab (mixf l m l.length) l.length = m := by
  rw [tab_congr (f := mixf l m l.length) (g := pat m) fun i hi => if_pos hi, ← h]; exact tab_pat m
theorem mix_set (l m : List Int) (k : Nat) : (tab (mixf l m k) l.length).set k (pat m k) = tab (mixf l m (k + 1)) l.length := by
  rw [tab_set]
  refine tab_congr fun i _ => ?_
  unfold updf mixf
  by_cases h : i = k
  · subst h; rw [if_pos rfl, if_pos (by omega)]
  · rw [if_neg h]
    by_cases h2 : i < k
    · rw [if_pos h2, if_pos (by omega)]
    · rw [if_neg h2, if_neg (by omega)]
theorem lowL_at {l : List Int} {k : Nat} (h : k < l.length) : pat (lowL l) k = pat l k / ((max (gcdL l) 1 : Nat) : Int) := by
  rw [pat_get (by rw [lowL_len]; exact h), pat_get h]; simp [lowL]
theorem gcdF_take {l : List Int} {k : Nat} (h : k < l.length) : gcdF 0 (l.take (k + 1)) = Nat.gcd (gcdF 0 (l.take k)) (pat l k).natAbs := by
  rw [pat_take h, gcdF_snoc]
theorem gcdF_bound {l : List Int} {B : Nat} (h : ∀ x ∈ l, x.natAbs ≤ B) : gcdF 0 l ≤ B := by
  cases l with
  | nil => exact Nat.zero_le _
  | cons y l =>
    by_cases hz : gcdF 0 (y :: l) = 0
    · omega
    · -- some number is not 0, and it is divided
      have hex : ∃ x ∈ y :: l, x ≠ 0 := by
        refine Classical.byContradiction fun hn => hz ?_
        have h0 : ∀ x ∈ y :: l, x = 0 := fun x hx => Classical.byContradiction fun hne => hn ⟨x, hx, hne⟩
        have : ∀ (m : List Int), (∀ x ∈ m, x = 0) → gcdF 0 m = 0 := fun m => by
          induction m with
          | nil => exact fun _ => rfl
          | cons a m ih => exact fun hm => by rw [gcdF_cons, hm a (List.mem_cons_self ..)]; exact ih fun x hx => hm x (List.mem_cons_of_mem _ hx)
        exact this _ h0
      obtain ⟨x, hx, hne⟩ := hex
      have h1 : gcdF 0 (y :: l) ∣ x.natAbs := Int.ofNat_dvd_left.1 ((gcdF_dvd (y :: l) 0).2 x hx)
      have h2 := Nat.le_of_dvd (by omega) h1
      have h3 := h x hx
      omega
set_option maxRecDepth 20000 in
set_option maxHeartbeats 4000000 in
theorem low_any2 (A : Option Addr) (l : List Int) (c base : Nat) (w : World) (ho : Own w base tN (.slice A l.length c) (l.map (.int .i64))) (hb : base ≤ w.heap.size) (hn : ∀ x ∈ l, 0 ≤ x ∧ x ≤ 9223372036854775807) (hl : l.length ≤ 9223372036854775807) :
    Calls Try.prog 114 #[.slice A l.length c] w fun e w' => e = .returned (.slice A l.length c) ∧ Own w' base tN (.slice A l.length c) ((lowL l).map (.int .i64)) ∧ Below base w w' := by
  have HO := Lib.hid ho
  have HS := Lib.hid ho.seg
  have HB := Lib.hid hb
  have HN := Lib.hid hn
  have hpn : Hid (∀ k, k < l.length → 0 ≤ pat l k ∧ pat l k ≤ 9223372036854775807) := fun k hk => by rw [pat_get hk]; exact hn _ (List.getElem_mem hk)
  have HL := Lib.hid hl
  have hgb : Hid (∀ k, gcdF 0 (l.take k) ≤ 9223372036854775807) := fun k => gcdF_bound fun x hx => by have := hn x (List.mem_of_mem_take hx); omega
  clear ho hb hn
  go_enter Try.func114, Try.ntmps114
  go_wp2_with fail
  go_loopw [3, 9] (fun s3 s9 wx => ∃ (k m g : Nat), k ≤ l.length ∧ s9 = .int .i64 k ∧ s3 = .int .i64 g ∧ Hid (g = gcdF 0 (l.take k)) ∧ wx = w.drewN m) (fun _ s9 _ => l.length - (intOf s9).toNat)
  case atStart => exact ⟨0, 0, 0, Nat.zero_le _, rfl, rfl, rfl, rfl⟩
  case round =>
    obtain ⟨k, m, g, hk, rfl, rfl, hg, rfl⟩ := hrel
    by_cases hlt : k < l.length
    · have i1 : (k : Int) < (l.length : Int) := by omega
      obtain ⟨ad, rfl, _, hc⟩ := HS.out.pat hlt
      obtain ⟨hx1, hx2⟩ := hpn.out k hlt
      obtain ⟨x, hx⟩ : ∃ x : Nat, pat l k = x := ⟨(pat l k).toNat, by omega⟩
      rw [hx] at hc hx2
      have HG2 : Hid (gcdF 0 (l.take (k + 1)) = Nat.gcd g x) := by unfold Hid; rw [gcdF_take hlt, hx, ← hg.out]; rfl
      have HGB : Hid (g ≤ 9223372036854775807 ∧ x ≤ 9223372036854775807) := ⟨by rw [hg.out]; exact hgb.out k, by omega⟩
      have uk : Hid (wrap64 ((k : Int) + 1) = ((k + 1 : Nat) : Int)) := bl64 (by omega)
      have HK := Lib.hid (And.intro hk hlt)
      clear hk hlt hx hx1 hx2 hg
      go_wp2_with fail
      --LOOK1
      go_loopw [3, 5] (fun s3 s5 wx => ∃ (a b m2 : Nat), s3 = .int .i64 a ∧ s5 = .int .i64 b ∧ Hid (Nat.gcd a b = Nat.gcd g x) ∧ Hid (a ≤ 9223372036854775807 ∧ b ≤ 9223372036854775807) ∧ wx = w.drewN m2) (fun _ s5 _ => (intOf s5).toNat)
      case atStart => exact ⟨g, x, m, rfl, rfl, rfl, HGB, rfl⟩
      case round =>
        obtain ⟨a, b, m2, rfl, rfl, hab, hbd, rfl⟩ := hrel
        by_cases hb0 : b = 0
        · have hv : Hid (a = gcdF 0 (l.take (k + 1))) := by unfold Hid; rw [HG2.out, ← hab.out, hb0, Nat.gcd_zero_right]
          have j1 : ¬ (0 : Int) < (b : Int) := by omega
          clear hb0 hab
          have huk := uk.out
          go_wp2_with fail
          go_roundw
          case rel => exact ⟨k + 1, m2, a, by have := HK.out; omega, by first | rfl | rw [uk.out], rfl, hv, rfl⟩
          case measure => (try rw [uk.out]); have := HK.out; simp [intOf]; omega
        · have j1 : (0 : Int) < (b : Int) := by omega
          have hu := rrem (c := a) (d := b) (by omega)
          have hlt2 : a % b < b := Nat.mod_lt _ (by omega)
          have hst : Hid (Nat.gcd b (a % b) = Nat.gcd g x) := by unfold Hid; rw [rgcd_step, hab.out]
          have hz : ¬ (b : Int) = 0 := by omega
          have HDD := Lib.hid (And.intro hlt2 hbd.out)
          obtain ⟨r, hr⟩ : ∃ r, r = a % b := ⟨_, rfl⟩
          rw [← hr] at hu hst HDD
          have hwr : IntKind.i64.wrap (r : Int) = (r : Int) := IntWalk.i64_in _ (by have := HDD.out; omega)
          clear hb0 hlt2 hr hab hbd
          go_wp2_with fail
          go_quiet (fail)
          go_wp2_with fail
          go_roundw
          case rel => exact ⟨b, r, m2 + nq, rfl, rfl, hst, ⟨HDD.out.2.2, by have := HDD.out; omega⟩, by first | rfl | rw [World.drewN_drewN]⟩
          case measure => have := HDD.out; simp [intOf]; omega
    · obtain rfl : k = l.length := by omega
      have hgl : g = gcdL l := by have := hg.out; rw [List.take_length] at this; exact this
      by_cases h1 : 1 < g
      · have i1 : (1 : Int) < (g : Int) := by omega
        have hlow : Hid (∀ k, k < l.length → pat (lowL l) k = Int.tdiv (pat l k) (g : Int) ∧ 0 ≤ Int.tdiv (pat l k) (g : Int) ∧ Int.tdiv (pat l k) (g : Int) ≤ 9223372036854775807) := fun k hk => by
          obtain ⟨h2, h3⟩ := hpn.out k hk
          rw [Int.tdiv_eq_ediv_of_nonneg h2]
          refine ⟨?_, Int.ediv_nonneg h2 (by omega), Int.le_trans (Int.ediv_le_self _ h2) h3⟩
          rw [lowL_at hk, ← hgl, show max g 1 = g by omega]
        have hgz : ¬ (g : Int) = 0 := by omega
        clear hk hlt hg hgl h1
        go_wp2_with fail
        --LOOK2
        go_loopw [24] (fun s24 wx => ∃ (k : Nat), k ≤ l.length ∧ s24 = .int .i64 k ∧ Hid (Own wx base tN (.slice A l.length c) ((tab (mixf l (lowL l) k) l.length).map (.int .i64))) ∧ Hid (Below base w wx)) (fun s24 _ => l.length - (intOf s24).toNat)
        case atStart => exact ⟨0, Nat.zero_le _, rfl, by unfold Hid; rw [mix_zero]; exact HO.out.drewB m, below_drewN (Below.refl _ _) m⟩
        case round =>
          obtain ⟨k, hk, rfl, hok, hbk⟩ := hrel
          by_cases hkl : k < l.length
          · have i2 : (k : Int) < (l.length : Int) := by omega
            obtain ⟨gb, rfl, hgb2⟩ := hok.out.at_ (by omega)
            have hc := hok.out.cell (j := k) (u := .int .i64 (pat l k)) (by rw [List.getElem?_map, tab_get hkl]; simp [mixf])
            have hf := hok.out.frozen k
            obtain ⟨e1, e2, e3⟩ := hlow.out k hkl
            have hst := hok.out.set k (.int .i64 (pat (lowL l) k))
            rw [← List.map_set, mix_set, e1] at hst
            have HST := Lib.hid hst
            have uk : Hid (wrap64 ((k : Int) + 1) = ((k + 1 : Nat) : Int)) := bl64 (by omega)
            have HKK := Lib.hid (And.intro hk hkl)
            obtain ⟨y, hy⟩ : ∃ y, y = Int.tdiv (pat l k) (g : Int) := ⟨_, rfl⟩
            rw [← hy] at e2 e3 HST
            obtain ⟨x, hx⟩ : ∃ x, x = pat l k := ⟨_, rfl⟩
            rw [← hx] at hc hy
            have hyy : Int.tdiv x (g : Int) = y := hy.symm
            have hw : IntKind.i64.wrap y = y := IntWalk.i64_in _ (by omega)
            clear hk hkl e1 e2 e3 hst hy hx
            have huk := uk.out
            go_wp2_with fail
            go_roundw
            case rel => exact ⟨k + 1, by have := HKK.out; omega, by first | rfl | rw [uk.out], HST, hbk.out.setCell hgb2 _⟩
            case measure => (try rw [uk.out]); have := HKK.out; simp [intOf]; omega
          · obtain rfl : k = l.length := by omega
            have hfin : Hid (Own wr base tN (.slice A l.length c) ((lowL l).map (.int .i64))) := by
              have h := hok.out
              rw [mix_all l (lowL l) (lowL_len l)] at h
              exact h
            clear hk hkl
            go_wp2_with fail
            go_ret
            exact ⟨rfl, hfin.out, hbk.out⟩
      · have i1 : ¬ (1 : Int) < (g : Int) := by omega
        have hl1 : Hid (lowL l = l) := lowL_one (by omega)
        clear hk hlt hg hgl h1
        go_wp2_with fail
        go_ret
        exact ⟨rfl, by rw [hl1.out]; exact HO.out.drewB m, below_drewN (Below.refl _ _) m⟩
end Go.Proofs.Ytaehehoeidnidaa
