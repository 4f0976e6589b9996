/- bench.Print and its mirror, walked: lines of numbers, as a text. No condition but the text's own size and the library's tables. -/
import Derived.Test.YtmibifmabkaakaaDoorBenD
import Derived.BigQuiet
import Derived.Deep.DeepCutAuto
namespace Go.Proofs.YtmibifmabkaakaaDoor
open Go.ChangeShapes Go.WideShapes Go.ChangeAt Go.RowKit
set_option linter.unusedVariables false

def fitB (n : Int) : Bool := decide (0 ≤ n ∧ n ≤ 1099511627776)
def lineS (p : Int × Int) : Bs := [97, 100, 100, 32] ++ Lib.itoa p.1 ++ [32] ++ Lib.itoa p.2 ++ [10]
def roomS (room : Int) : Bs := [114, 111, 111, 109, 32] ++ Lib.itoa room ++ [10]
/-- The text of the first so many. -/
def printS (room : Int) (l : List (Int × Int)) (k : Nat) : Bs := roomS room ++ (l.take k).flatMap lineS
/-- Do the first so many fit? -/
def fitsB (room : Int) (l : List (Int × Int)) (k : Nat) : Bool := fitB room && (l.take k).all fun p => fitB p.1 && fitB p.2
def printR (room : Int) (l : List (Int × Int)) : Bs × Int := if fitsB room l l.length = true then (printS room l l.length, 0) else ([], 2)
theorem take_step_pr {l : List (Int × Int)} {k : Nat} (hk : k < l.length) : l.take (k + 1) = l.take k ++ [prat l k] := by
  rw [List.take_succ_eq_append_getElem hk]
  congr 2
  simp [prat, hk]
theorem printS_step (room : Int) {l : List (Int × Int)} {k : Nat} (hk : k < l.length) : printS room l (k + 1) = printS room l k ++ lineS (prat l k) := by
  unfold printS
  rw [take_step_pr hk, List.flatMap_append, List.append_assoc]
  simp
theorem fitsB_step (room : Int) {l : List (Int × Int)} {k : Nat} (hk : k < l.length) : fitsB room l (k + 1) = (fitsB room l k && (fitB (prat l k).1 && fitB (prat l k).2)) := by
  unfold fitsB
  rw [take_step_pr hk, List.all_append, Bool.and_assoc]
  simp
theorem fitsB_no {room : Int} {l : List (Int × Int)} : ∀ {k n : Nat}, k ≤ n → n ≤ l.length → fitsB room l k = false → fitsB room l n = false := by
  intro k n
  induction n with
  | zero => intro h _ hf; obtain rfl : k = 0 := by omega
            exact hf
  | succ n ih =>
    intro h hn hf
    by_cases e : k = n + 1
    · subst e; exact hf
    · rw [fitsB_step room (by omega), ih (by omega) (by omega) hf]; rfl
theorem itoa_len (n : Int) (h0 : -9223372036854775808 ≤ n) (h1 : n ≤ 9223372036854775807) : (Lib.itoa n).length ≤ 21 := Lib.itoa_length_le n h0 h1
/-- The pairs are numbers of 64 bits. -/
def Wide (l : List (Int × Int)) : Prop := ∀ k, k < l.length → (-9223372036854775808 ≤ (prat l k).1 ∧ (prat l k).1 ≤ 9223372036854775807) ∧ (-9223372036854775808 ≤ (prat l k).2 ∧ (prat l k).2 ≤ 9223372036854775807)
theorem printS_len {room : Int} {l : List (Int × Int)} (hr : -9223372036854775808 ≤ room ∧ room ≤ 9223372036854775807) (hl : Wide l) : ∀ k, k ≤ l.length → (printS room l k).length ≤ 27 + 48 * k
  | 0, _ => by
    have := itoa_len room hr.1 hr.2
    simp [printS, roomS]; omega
  | k + 1, hk => by
    have ih := printS_len hr hl k (by omega)
    obtain ⟨h1, h2⟩ := hl k hk
    have := itoa_len _ h1.1 h1.2
    have := itoa_len _ h2.1 h2.2
    rw [printS_step room hk, List.length_append]
    have e : (lineS (prat l k)).length = 6 + (Lib.itoa (prat l k).1).length + (Lib.itoa (prat l k).2).length := by
      simp [lineS]; omega
    omega

/-! ### a text that is built up -/
abbrev IsB (B b : Nat) (s : Bs) (w : World) : Prop := Lib.IsBuilderF 122 5 B b (Lib.byteCells s) w
theorem bat_below {T e : TypeId} {B b : Nat} {p : Value} {bs : List Value} {w w' : World} (h : Lib.BuilderAtF T e B b p bs w) (hb : Below w.heap.size w w') : Lib.BuilderAtF T e B b p bs w' := by
  have hlt := h.lt
  obtain ⟨hB, v, hv, hown, hne⟩ := h
  exact ⟨hB, v, (hb.block b hlt).trans hv, hown.kept (row := none) ⟨hb.os, hb.tape, hb.output, hb.size, fun k hk _ => hb.block k hk⟩ (Classical.em _), hne⟩
theorem IsB.below {B b : Nat} {s : Bs} {w w' : World} (h : IsB B b s w) (hb : Below w.heap.size w w') : IsB B b s w' := h.elim (fun x => .inl (bat_below x hb)) (fun x => .inr (bat_below x hb))
theorem IsB.new {B : Nat} (w : World) (hB : B ≤ w.heap.size) : IsB B w.heap.size [] (w.alloc (.cells #[.pointer none, .slice none 0 0] 122)) :=
  Or.inl ⟨hB, .slice none 0 0, heap_alloc_new w _, World.ownsRowF_nil _ _ _ _, by simp [Value.ownBlock]⟩
theorem byteCells_append (s t : Bs) : Lib.byteCells s ++ Lib.strCells ⟨t.toArray⟩ = Lib.byteCells (s ++ t) := by
  simp [Lib.byteCells, Lib.strCells]
theorem bgoP {w W1 W2 : World} (h1 : Below w.heap.size w W1) (h2 : Below W1.heap.size W1 W2) : Below w.heap.size w W2 := h1.trans (h2.mono h1.size)
theorem ws_any (B b : Nat) (s t : Bs) (w : World) (h : IsB B b s w) (hlen : s.length + t.length ≤ 140737488355328) (hB : B ≤ w.heap.size) :
    Calls Tryd.prog 80 #[.pointer (some ⟨b, 0, none⟩), SV t] w fun e w' => e = .returned (.tuple #[.int .i64 t.length, .nilIface]) ∧ IsB B b (s ++ t) w' ∧ Below B w w' ∧
      ∀ k t' cs, k ≠ b → t' ≠ 5 → Blk w k t' cs → Blk w' k t' cs := by
  refine (Any.Builder_WriteString_k laysWs laysWs_X B b (Lib.byteCells s) ⟨t.toArray⟩ w h (by rw [Lib.byteCells_length]; exact hlen) hB).mono ?_
  rintro e w' ⟨rfl, h1, h2, h3⟩
  rw [byteCells_append] at h1
  exact ⟨rfl, Or.inr h1, h2, fun k t' cs hk ht hb => h3 k _ hb (fun e => hk (Option.some.inj e)) fun c fz e => ht (by injection e)⟩
theorem str_any (B b : Nat) (s : Bs) (w : World) (h : IsB B b s w) (hB : B ≤ w.heap.size) :
    Calls Tryd.prog 81 #[.pointer (some ⟨b, 0, none⟩)] w fun e w' => e = .returned (SV s) ∧ Below B w w' := by
  refine (Any.Builder_String_any_k laysStr laysStr_X B b s w h hB).mono ?_
  rintro e w' ⟨rfl, h1⟩
  exact ⟨rfl, h1.2.1⟩

set_option maxRecDepth 20000 in
set_option maxHeartbeats 4000000 in
theorem print_any (room : Int) (l : List (Int × Int)) (A : Option Addr) (c : Nat) (w : World) (hs : Seg w w.heap.size A (flat l)) (hm : l.length ≤ 1000000000) (hr : -9223372036854775808 ≤ room ∧ room ≤ 9223372036854775807) (hl : Wide l) (hL : LibW w) :
    Calls Tryd.prog 37 #[.int .i64 room, .slice A l.length c] w fun e w' => e = .returned (.tuple #[SV (printR room l).1, .int .i64 (printR room l).2]) ∧ Below w.heap.size w w' := by
  obtain ⟨res, hres⟩ : ∃ res, res = printR room l := ⟨_, rfl⟩
  rw [← hres]
  have HS := Lib.hid hs
  have HLW := Lib.hid hL
  have HM := Lib.hid hm
  have HRES := Lib.hid hres
  have HWD := Lib.hid hl
  have HPL := Lib.hid (fun k hk => printS_len (l := l) hr hl k hk)
  have HRR := Lib.hid hr
  clear hs hL hm hres hl
  by_cases h1 : fitB room = true
  · have HFT : Hid (∀ u, Calls Tryd.prog 79 #[.int .i64 room] u fun e w' => e = .returned (.bool true) ∧ u = w') := fun u => by
      have h := fits_any room u
      rw [show decide (0 ≤ room ∧ room ≤ 1099511627776) = true from h1] at h
      exact h
    have HIT : Hid (∀ u, LibW u → Calls Tryd.prog 76 #[.int .i64 room] u fun e w' => e = .returned (SV (Lib.itoa room)) ∧ Below u.heap.size u w') := fun u hu => itoa_any room HRR.out.1 HRR.out.2 u hu
    obtain ⟨IB, hIB⟩ : ∃ IB : ByteArray, IB = ⟨(Lib.itoa room).toArray⟩ := ⟨_, rfl⟩
    obtain ⟨C1, hC1⟩ : ∃ C1 : ByteArray, C1 = ⟨([114, 111, 111, 109, 32] ++ Lib.itoa room).toArray⟩ := ⟨_, rfl⟩
    obtain ⟨C2, hC2⟩ : ∃ C2 : ByteArray, C2 = ⟨(roomS room).toArray⟩ := ⟨_, rfl⟩
    rw [show SV (Lib.itoa room) = Value.string IB by rw [hIB]] at HIT
    have hcat1 : ({ data := #[114, 111, 111, 109, 32] } : ByteArray) ++ IB = C1 := by rw [hC1]; exact cat_sv [114, 111, 111, 109, 32] _ _ _ rfl hIB
    have hcat2 : C1 ++ ({ data := #[10] } : ByteArray) = C2 := by rw [hC2]; exact cat_sv _ [10] _ _ hC1 rfl
    have HC2 : Hid (Value.string C2 = SV (roomS room)) := by unfold Hid; rw [hC2]
    have hz := itoa_len room HRR.out.1 HRR.out.2
    have hz0 : IB.size ≤ 21 := by rw [hIB]; exact hz
    have hz1 : ¬ 9223372036854775807 < 5 + IB.size := by omega
    have hz2 : ¬ 281474976710656 < 5 + IB.size := by omega
    have hz3 : C1.size ≤ 26 := by rw [hC1, sv_size, List.length_append]; show 5 + _ ≤ 26; omega
    have hz4 : ¬ 9223372036854775807 < C1.size + 1 := by omega
    have hz5 : ¬ 281474976710656 < C1.size + 1 := by omega
    have HF0 : Hid (fitsB room l 0 = true) := by unfold Hid fitsB; simp [h1]
    clear hIB hC1 hC2 hz hz0 hz3 h1 hr
    go_enter Tryd.func37, Tryd.ntmps37
    go_wp2_with fail
    refine (HFT.out _).mono ?_
    rintro e w1 ⟨rfl, rfl⟩
    go_wp2_with fail
    have HLX0 : Hid (LibW (w.alloc (.cells #[.pointer none, .slice none 0 0] 122))) := HLW.out.below ((Below.refl _ _).alloc (Nat.le_refl _) _)
    have HB0 : Hid (IsB w.heap.size w.heap.size [] (w.alloc (.cells #[.pointer none, .slice none 0 0] 122))) := IsB.new w (Nat.le_refl _)
    have HSZ0 : Hid (w.heap.size ≤ (w.alloc (.cells #[.pointer none, .slice none 0 0] 122)).heap.size) := by unfold Hid; simp
    have HBB0 : Hid (Below w.heap.size w (w.alloc (.cells #[.pointer none, .slice none 0 0] 122))) := (Below.refl _ _).alloc (Nat.le_refl _) _
    refine (HIT.out _ HLX0.out).mono ?_
    rintro e w2 ⟨rfl, hb2⟩
    have HB2 := Lib.hid (HB0.out.below hb2)
    have HBB2 := Lib.hid (HBB0.out.trans (hb2.mono HSZ0.out))
    clear hb2 HB0 HSZ0 HBB0 HLX0 HIT HFT
    go_wp2_with fail
    rw [HC2.out]
    refine (ws_any w.heap.size w.heap.size [] (roomS room) w2 HB2.out (by have := HPL.out 0 (Nat.zero_le _); unfold printS at this; rw [List.take_zero, List.flatMap_nil, List.append_nil] at this; simp; omega) HBB2.out.size).mono ?_
    rintro e w3 ⟨rfl, hb3, hbb3, _⟩
    rw [List.nil_append] at hb3
    have HB3 := Lib.hid hb3
    have HBB3 := Lib.hid (HBB2.out.trans hbb3)
    clear hb3 hbb3 HB2 HBB2 hcat1 hcat2 hz1 hz2 hz4 hz5 HC2
    go_wp2_with fail
    go_loopw [19] (fun s19 wx => ∃ k : Nat, k ≤ l.length ∧ s19 = .int .i64 k ∧ Hid (fitsB room l k = true) ∧ Hid (IsB w.heap.size w.heap.size (printS room l k) wx) ∧ Hid (Below w.heap.size w wx)) (fun s19 _ => l.length - (intOf s19).toNat)
    case atStart => exact ⟨0, Nat.zero_le _, rfl, HF0.out, by unfold printS Hid; rw [List.take_zero, List.flatMap_nil, List.append_nil]; exact HB3.out, HBB3.out⟩
    case round =>
      clear HB3 HBB3
      obtain ⟨k, hkl, rfl, HF, HB, HBB⟩ := hrel
      by_cases hlt : k < l.length
      · have i1 : (k : Int) < (l.length : Int) := by omega
        have HK := Lib.hid hlt
        obtain ⟨ad, e1, _, hc1, hc2⟩ := (HS.out.below HBB.out).pair (k := k) hlt
        subst e1
        have HST := Lib.hid (printS_step room hlt)
        have HFS := Lib.hid (fitsB_step room hlt)
        have HLN := Lib.hid (HPL.out (k + 1) hlt)
        obtain ⟨⟨x1, x2⟩, d1, d2⟩ := HWD.out k hlt
        obtain ⟨X, D, hXD⟩ : ∃ X D, prat l k = (X, D) := ⟨_, _, rfl⟩
        rw [hXD] at hc1 hc2 HST HFS x1 x2 d1 d2
        simp only at hc1 hc2 x1 x2 d1 d2
        have HLX : Hid (LibW wr) := HLW.out.below HBB.out
        have hx0 : (wr.alloc (.cells #[.int .i64 X, .int .i64 D] 81)).cell? ⟨wr.heap.size, 0, none⟩ = some (.int .i64 X) := (Blk.new wr 81 _).cell 0 rfl
        have hx1 : (wr.alloc (.cells #[.int .i64 X, .int .i64 D] 81)).cell? ⟨wr.heap.size, 1, none⟩ = some (.int .i64 D) := (Blk.new wr 81 _).cell 1 rfl
        have HFX : Hid (∀ u, Calls Tryd.prog 79 #[.int .i64 X] u fun e w' => e = .returned (.bool (fitB X)) ∧ u = w') := fun u => fits_any X u
        have HFD : Hid (∀ u, Calls Tryd.prog 79 #[.int .i64 D] u fun e w' => e = .returned (.bool (fitB D)) ∧ u = w') := fun u => fits_any D u
        obtain ⟨fx, hfx⟩ : ∃ fx, fx = fitB X := ⟨_, rfl⟩
        obtain ⟨fd, hfd⟩ : ∃ fd, fd = fitB D := ⟨_, rfl⟩
        rw [← hfx] at HFX HFS
        rw [← hfd] at HFD HFS
        clear hfx hfd hXD hkl hlt
        cases fx with
        | false =>
          have HNO : Hid (res = ([], 2)) := by
            unfold Hid
            rw [HRES.out]
            unfold printR
            rw [fitsB_no HK.out (Nat.le_refl _) (by rw [HFS.out, HF.out]; rfl)]
            rfl
          go_wp2_with fail
          refine (HFX.out _).mono ?_
          rintro e w4 ⟨rfl, rfl⟩
          go_wp2_with fail
          go_ret2
          exact ⟨by rw [HNO.out]; rfl, HBB.out.alloc HBB.out.size _⟩
        | true =>
          cases fd with
          | false =>
            have HNO : Hid (res = ([], 2)) := by
              unfold Hid
              rw [HRES.out]
              unfold printR
              rw [fitsB_no HK.out (Nat.le_refl _) (by rw [HFS.out, HF.out]; rfl)]
              rfl
            go_wp2_with fail
            refine (HFX.out _).mono ?_
            rintro e w4 ⟨rfl, rfl⟩
            go_wp2_with fail
            refine (HFD.out _).mono ?_
            rintro e w4 ⟨rfl, rfl⟩
            go_wp2_with fail
            go_ret2
            exact ⟨by rw [HNO.out]; rfl, HBB.out.alloc HBB.out.size _⟩
          | true =>
            go_wp2_with fail
            refine (HFX.out _).mono ?_
            rintro e w4 ⟨rfl, rfl⟩
            go_wp2_with fail
            refine (HFD.out _).mono ?_
            rintro e w4 ⟨rfl, rfl⟩
            go_upto_region 10 with (fail)
            obtain ⟨wc, hwc⟩ : ∃ wc, wc = wr.alloc (.cells #[.int .i64 X, .int .i64 D] 81) := ⟨_, rfl⟩
            have HCB : Hid (Blk wc wr.heap.size 81 #[.int .i64 X, .int .i64 D]) := by rw [hwc]; exact Blk.new _ _ _
            have HBC : Hid (IsB w.heap.size w.heap.size (printS room l k) wc) := by rw [hwc]; exact HB.out.below ((Below.refl _ _).alloc (Nat.le_refl _) _)
            have HBW : Hid (Below w.heap.size w wc) := by rw [hwc]; exact HBB.out.alloc HBB.out.size _
            have HGB : Hid (w.heap.size < wr.heap.size ∧ wr.heap.size < wc.heap.size) := ⟨by rcases HB.out with h | h <;> exact h.lt, by rw [hwc]; simp⟩
            rw [← hwc] at hx0 hx1 ⊢
            clear hwc HFX HFD
            generalize wr.heap.size = gc at *
            have HKEEP : Hid (∀ w', Below wc.heap.size wc w' → w'.cell? ⟨gc, 0, none⟩ = some (.int .i64 X) ∧ w'.cell? ⟨gc, 1, none⟩ = some (.int .i64 D) ∧ Below w.heap.size w w') := by
              intro w' h
              have k8 := HCB.out.below h HGB.out.2
              exact ⟨k8.cell 0 rfl, k8.cell 1 rfl, HBW.out.trans (h.mono HBW.out.size)⟩
            have HD : Hid (Below wc.heap.size wc wc.drew) := below_drewN (Below.refl _ _) 1
            obtain ⟨IT, hIT⟩ : ∃ IT : Int → ByteArray, ∀ n, IT n = ⟨(Lib.itoa n).toArray⟩ := ⟨_, fun _ => rfl⟩
            have HIN : Hid (∀ n u, n = X ∨ n = D → LibW u → Calls Tryd.prog 76 #[.int .i64 n] u fun e w' => e = .returned (.string (IT n)) ∧ Below u.heap.size u w') := fun n u hn hu => by
              have h := itoa_any n (by rcases hn with rfl | rfl <;> omega) (by rcases hn with rfl | rfl <;> omega) u hu
              rw [show SV (Lib.itoa n) = Value.string (IT n) by rw [hIT]] at h
              exact h
            obtain ⟨E1, hE1⟩ : ∃ E1 : ByteArray, E1 = ⟨([97, 100, 100, 32] ++ Lib.itoa X).toArray⟩ := ⟨_, rfl⟩
            obtain ⟨E2, hE2⟩ : ∃ E2 : ByteArray, E2 = ⟨([97, 100, 100, 32] ++ Lib.itoa X ++ [32]).toArray⟩ := ⟨_, rfl⟩
            obtain ⟨E3, hE3⟩ : ∃ E3 : ByteArray, E3 = ⟨([97, 100, 100, 32] ++ Lib.itoa X ++ [32] ++ Lib.itoa D).toArray⟩ := ⟨_, rfl⟩
            obtain ⟨E4, hE4⟩ : ∃ E4 : ByteArray, E4 = ⟨(lineS (X, D)).toArray⟩ := ⟨_, rfl⟩
            have hc1 : ({ data := #[97, 100, 100, 32] } : ByteArray) ++ IT X = E1 := by rw [hE1]; exact cat_sv [97, 100, 100, 32] _ _ _ rfl (hIT X)
            have hc2 : E1 ++ ({ data := #[32] } : ByteArray) = E2 := by rw [hE2]; exact cat_sv _ [32] _ _ hE1 rfl
            have hc3 : E2 ++ IT D = E3 := by rw [hE3]; exact cat_sv _ _ _ _ hE2 (hIT D)
            have hc4 : E3 ++ ({ data := #[10] } : ByteArray) = E4 := by rw [hE4]; exact cat_sv _ [10] _ _ hE3 rfl
            have HE4 : Hid (Value.string E4 = SV (lineS (X, D))) := by unfold Hid; rw [hE4]
            have lx := itoa_len X x1 x2
            have ld := itoa_len D d1 d2
            have s0 : (IT X).size ≤ 21 := by rw [hIT]; exact lx
            have s1 : (IT D).size ≤ 21 := by rw [hIT]; exact ld
            have s2 : E1.size ≤ 25 := by rw [hE1, sv_size, List.length_append]; show 4 + _ ≤ 25; omega
            have s3 : E2.size ≤ 26 := by rw [hE2, sv_size, List.length_append, List.length_append]; show 4 + _ + 1 ≤ 26; omega
            have s4 : E3.size ≤ 47 := by rw [hE3, sv_size, List.length_append, List.length_append, List.length_append]; show 4 + _ + 1 + _ ≤ 47; omega
            have z1 : ¬ 9223372036854775807 < 4 + (IT X).size := by omega
            have z2 : ¬ 281474976710656 < 4 + (IT X).size := by omega
            have z3 : ¬ 9223372036854775807 < E1.size + 1 := by omega
            have z4 : ¬ 281474976710656 < E1.size + 1 := by omega
            have z5 : ¬ 9223372036854775807 < E2.size + (IT D).size := by omega
            have z6 : ¬ 281474976710656 < E2.size + (IT D).size := by omega
            have z7 : ¬ 9223372036854775807 < E3.size + 1 := by omega
            have z8 : ¬ 281474976710656 < E3.size + 1 := by omega
            have HSZ : Hid ((printS room l k).length + (lineS (X, D)).length ≤ 140737488355328) := by
              have h1 := HLN.out
              rw [HST.out, List.length_append] at h1
              have h2 := HM.out
              have h3 := HK.out
              unfold Hid
              omega
            have ui : Hid (wrap64 ((k : Int) + 1) = ((k + 1 : Nat) : Int)) := by have := HM.out; have := HK.out; unfold Hid; rw [wr64 _ (by omega) (by omega)]; omega
            clear hE1 hE2 hE3 hE4 hIT lx ld s0 s1 s2 s3 s4 x1 x2 d1 d2
            go_region_held3 (fun w' => w'.cell? ⟨gc, 0, none⟩ = some (.int .i64 X) ∧ w'.cell? ⟨gc, 1, none⟩ = some (.int .i64 D) ∧ Below w.heap.size w w')
              (first
                | exact HSW.out
                | exact HKEEP.out _ HX.out
                | exact HKEEP.out _ HD.out)
              (first
                | (go_at_call 80; go_split_ands; rw [HE4.out]; refine (ws_any w.heap.size w.heap.size (printS room l k) (lineS (X, D)) _ (HBC.out.below HX.out) HSZ.out (Below.size (by assumption))).mono ?_; rintro e w6 ⟨rfl, hib, hbe, hbk⟩
                   have HW6 := Lib.hid (HBW.out.trans ((HX.out.mono HBW.out.size).trans hbe)); have HI6 := Lib.hid hib
                   have HK6 := hbk gc 81 #[.int .i64 X, .int .i64 D] (Nat.ne_of_gt HGB.out.1) (by decide) (HCB.out.below HX.out HGB.out.2)
                   have HSW := Lib.hid (And.intro (HK6.cell 0 (u := .int .i64 X) rfl) (And.intro (HK6.cell 1 (u := .int .i64 D) rfl) HW6.out)); clear hib hbe hbk HK6)
                | (go_at_call 76; have HX1 := HX; go_split_ands; refine (HIN.out _ _ (by first | exact Or.inl rfl | exact Or.inr rfl) (HLW.out.below (by assumption))).mono ?_; rintro e w5 ⟨rfl, hb5⟩; have HX := Lib.hid (bgoP HX1.out hb5); clear hb5)
                | (go_at_call 76; go_split_ands; refine (HIN.out _ _ (by first | exact Or.inl rfl | exact Or.inr rfl) (HLW.out.below (by assumption))).mono ?_; rintro e w5 ⟨rfl, hb5⟩; have HX := Lib.hid (bgoP HD.out hb5); clear hb5))
            all_goals
              go_wp2_with fail
              go_roundw
              case rel => exact ⟨k + 1, HK.out, by first | rfl | rw [ui.out], by unfold Hid; rw [HFS.out, HF.out]; rfl, by unfold Hid; rw [HST.out]; exact HI6.out, HW6.out⟩
              case measure => (try rw [ui.out]); have := HK.out; simp [intOf]; omega
      · have hke : k = l.length := by omega
        have i1 : ¬ (k : Int) < (l.length : Int) := by omega
        have HYES : Hid (res = (printS room l k, 0)) := by
          unfold Hid
          rw [HRES.out, hke]
          unfold printR
          rw [← hke, HF.out, hke]
          rfl
        clear hke hkl hlt
        go_wp2_with fail
        refine (str_any w.heap.size w.heap.size (printS room l k) _ HB.out HBB.out.size).mono ?_
        rintro e w4 ⟨rfl, hb4⟩
        have HB4 := Lib.hid (HBB.out.trans hb4)
        clear hb4
        go_wp2_with fail
        go_ret2
        exact ⟨by rw [HYES.out]; rfl, HB4.out⟩
  · have hf : fitB room = false := by simpa using h1
    have HFT : Hid (∀ u, Calls Tryd.prog 79 #[.int .i64 room] u fun e w' => e = .returned (.bool false) ∧ u = w') := fun u => by
      have h := fits_any room u
      rw [show decide (0 ≤ room ∧ room ≤ 1099511627776) = false from hf] at h
      exact h
    have HNO : Hid (res = ([], 2)) := by
      unfold Hid
      rw [HRES.out]
      unfold printR
      rw [fitsB_no (Nat.zero_le _) (Nat.le_refl _) (show fitsB room l 0 = false by unfold fitsB; rw [hf]; rfl)]
      rfl
    clear h1 hf hr
    go_enter Tryd.func37, Tryd.ntmps37
    go_wp2_with fail
    refine (HFT.out _).mono ?_
    rintro e w1 ⟨rfl, rfl⟩
    go_wp2_with fail
    go_ret2
    exact ⟨by rw [HNO.out]; rfl, Below.refl _ _⟩

/-! ### the mirror -/
theorem fitB_true {n : Int} (h0 : ¬ n < 0) (h1 : ¬ 1099511627776 < n) : fitB n = true := decide_eq_true (by omega)
theorem fitB_not (n : Int) : (decide (n < 0) || decide (1099511627776 < n)) = !fitB n := by
  unfold fitB
  by_cases h0 : n < 0
  · rw [decide_eq_true h0, decide_eq_false (show ¬ (0 ≤ n ∧ n ≤ 1099511627776) by omega)]; rfl
  · by_cases h1 : 1099511627776 < n
    · rw [decide_eq_false h0, decide_eq_true h1, decide_eq_false (show ¬ (0 ≤ n ∧ n ≤ 1099511627776) by omega)]; rfl
    · rw [decide_eq_false h0, decide_eq_false h1, decide_eq_true (show 0 ≤ n ∧ n ≤ 1099511627776 by omega)]; rfl
theorem fitB_lo {n : Int} (h0 : n < 0) : fitB n = false := decide_eq_false (by omega)
theorem fitB_hi {n : Int} (h1 : 1099511627776 < n) : fitB n = false := decide_eq_false (by omega)
set_option maxRecDepth 20000 in
set_option maxHeartbeats 4000000 in
theorem zprint_any (room : Int) (l : List (Int × Int)) (A : Option Addr) (c : Nat) (w : World) (hs : Seg w w.heap.size A (flat l)) (hm : l.length ≤ 1000000000) (hr : -9223372036854775808 ≤ room ∧ room ≤ 9223372036854775807) (hl : Wide l) (hL : LibW w) :
    Calls Tryd.prog 38 #[.int .i64 room, .slice A l.length c] w fun e w' => e = .returned (.tuple #[SV (printR room l).1, .int .i64 (printR room l).2]) ∧ Below w.heap.size w w' := by
  obtain ⟨res, hres⟩ : ∃ res, res = printR room l := ⟨_, rfl⟩
  rw [← hres]
  have HS := Lib.hid hs
  have HLW := Lib.hid hL
  have HM := Lib.hid hm
  have HRES := Lib.hid hres
  have HWD := Lib.hid hl
  have HPL := Lib.hid (fun k hk => printS_len (l := l) hr hl k hk)
  have HRR := Lib.hid hr
  clear hs hL hm hres hl
  have HIT : Hid (∀ u, LibW u → Calls Tryd.prog 78 #[.int .i64 room, .int .i64 10] u fun e w' => e = .returned (SV (Lib.itoa room)) ∧ Below u.heap.size u w') := fun u hu => fmt_any room HRR.out.1 HRR.out.2 u hu
  obtain ⟨IB, hIB⟩ : ∃ IB : ByteArray, IB = ⟨(Lib.itoa room).toArray⟩ := ⟨_, rfl⟩
  obtain ⟨C1, hC1⟩ : ∃ C1 : ByteArray, C1 = ⟨([114, 111, 111, 109, 32] ++ Lib.itoa room).toArray⟩ := ⟨_, rfl⟩
  obtain ⟨C2, hC2⟩ : ∃ C2 : ByteArray, C2 = ⟨(roomS room).toArray⟩ := ⟨_, rfl⟩
  rw [show SV (Lib.itoa room) = Value.string IB by rw [hIB]] at HIT
  have hcat1 : ({ data := #[114, 111, 111, 109, 32] } : ByteArray) ++ IB = C1 := by rw [hC1]; exact cat_sv [114, 111, 111, 109, 32] _ _ _ rfl hIB
  have hcat2 : C1 ++ ({ data := #[10] } : ByteArray) = C2 := by rw [hC2]; exact cat_sv _ [10] _ _ hC1 rfl
  have HC2 : Hid (C2 = ⟨(printS room l 0).toArray⟩) := by unfold Hid; rw [hC2]; unfold printS; rw [List.take_zero, List.flatMap_nil, List.append_nil]
  have hz := itoa_len room HRR.out.1 HRR.out.2
  have hz0 : IB.size ≤ 21 := by rw [hIB]; exact hz
  have hz1 : ¬ 9223372036854775807 < 5 + IB.size := by omega
  have hz2 : ¬ 281474976710656 < 5 + IB.size := by omega
  have hz3 : C1.size ≤ 26 := by rw [hC1, sv_size, List.length_append]; show 5 + _ ≤ 26; omega
  have hz4 : ¬ 9223372036854775807 < C1.size + 1 := by omega
  have hz5 : ¬ 281474976710656 < C1.size + 1 := by omega
  have HF0 : Hid ((decide (room < 0) || decide (1099511627776 < room)) = !fitsB room l 0) := by unfold Hid fitsB; rw [List.take_zero, List.all_nil, Bool.and_true]; exact fitB_not room
  have HBB0 : Hid (Below w.heap.size w w) := Below.refl _ _
  clear hIB hC1 hC2 hz hz0 hz3 hr
  go_enter Tryd.func38, Tryd.ntmps38
  go_upto_region 1 with (fail)
  go_cut [6] (fun s6 wx => s6 = .bool (!fitsB room l 0) ∧ wx = w)
  case first =>
    go_wp2_with fail
    all_goals
      go_wp2_with fail
      go_meet
      exact ⟨by first | (rw [← HF0.out]; done) | (rw [← HF0.out]; simp [*]; done), rfl⟩
  case rest =>
  obtain ⟨rfl, hwc⟩ := hcut
  obtain rfl := hwc.symm
  go_wp2_with fail
  refine (HIT.out _ HLW.out).mono ?_
  rintro e w2 ⟨rfl, hb2⟩
  have HBB2 := Lib.hid (HBB0.out.trans (hb2.mono HBB0.out.size))
  clear hb2 HBB0 HIT
  go_wp2_with fail
  clear hcat1 hcat2 hz1 hz2 hz4 hz5
  go_loopw [6, 7, 22] (fun s6 s7 s22 wx => ∃ (k : Nat) (SB : ByteArray) (b : Bool), k ≤ l.length ∧ s22 = .int .i64 k ∧ s7 = .string SB ∧ s6 = .bool b ∧ Hid (SB = ⟨(printS room l k).toArray⟩) ∧ Hid (b = !fitsB room l k) ∧ Hid (Below w.heap.size w wx)) (fun _ _ s22 _ => l.length - (intOf s22).toNat)
  case atStart => exact ⟨0, C2, _, Nat.zero_le _, rfl, rfl, rfl, HC2.out, rfl, HBB2.out⟩
  case round =>
    clear HBB2 HC2 HF0
    obtain ⟨k, SB, b, hkl, rfl, rfl, rfl, HSB, HBD, HBB⟩ := hrel
    by_cases hlt : k < l.length
    · have i1 : (k : Int) < (l.length : Int) := by omega
      have HK := Lib.hid hlt
      obtain ⟨ad, e1, _, hc1, hc2⟩ := (HS.out.below HBB.out).pair (k := k) hlt
      subst e1
      have HST := Lib.hid (printS_step room hlt)
      have HFS := Lib.hid (fitsB_step room hlt)
      have HLN := Lib.hid (HPL.out (k + 1) hlt)
      obtain ⟨⟨x1, x2⟩, d1, d2⟩ := HWD.out k hlt
      obtain ⟨X, D, hXD⟩ : ∃ X D, prat l k = (X, D) := ⟨_, _, rfl⟩
      rw [hXD] at hc1 hc2 HST HFS x1 x2 d1 d2
      simp only at hc1 hc2 x1 x2 d1 d2
      have HXB : Hid ((-9223372036854775808 ≤ X ∧ X ≤ 9223372036854775807) ∧ (-9223372036854775808 ≤ D ∧ D ≤ 9223372036854775807)) := ⟨⟨x1, x2⟩, d1, d2⟩
      have HLX : Hid (LibW wr) := HLW.out.below HBB.out
      have hx0 : (wr.alloc (.cells #[.int .i64 X, .int .i64 D] 81)).cell? ⟨wr.heap.size, 0, none⟩ = some (.int .i64 X) := (Blk.new wr 81 _).cell 0 rfl
      have hx1 : (wr.alloc (.cells #[.int .i64 X, .int .i64 D] 81)).cell? ⟨wr.heap.size, 1, none⟩ = some (.int .i64 D) := (Blk.new wr 81 _).cell 1 rfl
      clear hXD hkl hlt x1 x2 d1 d2
      go_upto_region 6 with (fail)
      --LOOK5
      go_cut [6] (fun s6 wx => s6 = .bool (!fitsB room l (k + 1)) ∧ wx = wr.alloc (.cells #[.int .i64 X, .int .i64 D] 81))
      case first =>
        cases b with
        | true =>
          have HR6 : Hid (fitsB room l (k + 1) = false) := by
            have := HBD.out
            unfold Hid
            rw [HFS.out]
            cases hh : fitsB room l k
            · rfl
            · rw [hh] at this; cases this
          go_wp2_with fail
          go_meet
          exact ⟨by rw [HR6.out]; rfl, rfl⟩
        | false =>
          have HR5 : Hid (fitsB room l (k + 1) = (fitB X && fitB D)) := by
            have := HBD.out
            unfold Hid
            rw [HFS.out]
            cases hh : fitsB room l k
            · rw [hh] at this; cases this
            · rfl
          rcases (by omega : X < 0 ∨ (¬ X < 0 ∧ 1099511627776 < X) ∨ (¬ X < 0 ∧ ¬ 1099511627776 < X ∧ D < 0) ∨ (¬ X < 0 ∧ ¬ 1099511627776 < X ∧ ¬ D < 0 ∧ 1099511627776 < D) ∨ (¬ X < 0 ∧ ¬ 1099511627776 < X ∧ ¬ D < 0 ∧ ¬ 1099511627776 < D)) with h1 | ⟨h1, h2⟩ | ⟨h1, h2, h3⟩ | ⟨h1, h2, h3, h4⟩ | ⟨h1, h2, h3, h4⟩
          · have HR6 : Hid (fitsB room l (k + 1) = false) := by unfold Hid; rw [HR5.out, fitB_lo h1]; rfl
            go_wp2_with fail
            go_meet
            exact ⟨by rw [HR6.out]; rfl, rfl⟩
          · have HR6 : Hid (fitsB room l (k + 1) = false) := by unfold Hid; rw [HR5.out, fitB_hi h2]; rfl
            go_wp2_with fail
            go_meet
            exact ⟨by rw [HR6.out]; rfl, rfl⟩
          · have HR6 : Hid (fitsB room l (k + 1) = false) := by unfold Hid; rw [HR5.out, fitB_lo h3, Bool.and_false]
            go_wp2_with fail
            go_meet
            exact ⟨by rw [HR6.out]; rfl, rfl⟩
          · have HR6 : Hid (fitsB room l (k + 1) = false) := by unfold Hid; rw [HR5.out, fitB_hi h4, Bool.and_false]
            go_wp2_with fail
            go_meet
            exact ⟨by rw [HR6.out]; rfl, rfl⟩
          · have HR6 : Hid (fitsB room l (k + 1) = true) := by unfold Hid; rw [HR5.out, fitB_true h1 h2, fitB_true h3 h4]; rfl
            go_wp2_with fail
            go_meet
            exact ⟨by rw [HR6.out]; rfl, rfl⟩
      case rest =>
        obtain ⟨rfl, hwc⟩ := hcut
        have HCB : Hid (Blk wc wr.heap.size 81 #[.int .i64 X, .int .i64 D]) := by rw [hwc]; exact Blk.new _ _ _
        have HBW : Hid (Below w.heap.size w wc) := by rw [hwc]; exact HBB.out.alloc HBB.out.size _
        have HGB : Hid (w.heap.size ≤ wr.heap.size ∧ wr.heap.size < wc.heap.size) := ⟨HBB.out.size, by rw [hwc]; simp⟩
        obtain ⟨⟨x1, x2⟩, d1, d2⟩ := HXB.out
        rw [← hwc] at hx0 hx1
        clear hwc hc1 hc2
        generalize wr.heap.size = gc at *
        have HKEEP : Hid (∀ w', Below wc.heap.size wc w' → w'.cell? ⟨gc, 0, none⟩ = some (.int .i64 X) ∧ w'.cell? ⟨gc, 1, none⟩ = some (.int .i64 D) ∧ Below w.heap.size w w') := by
          intro w' h
          have k8 := HCB.out.below h HGB.out.2
          exact ⟨k8.cell 0 rfl, k8.cell 1 rfl, HBW.out.trans (h.mono HBW.out.size)⟩
        have HD : Hid (Below wc.heap.size wc wc.drew) := below_drewN (Below.refl _ _) 1
        obtain ⟨IT, hIT⟩ : ∃ IT : Int → ByteArray, ∀ n, IT n = ⟨(Lib.itoa n).toArray⟩ := ⟨_, fun _ => rfl⟩
        have HIN : Hid (∀ n u, n = X ∨ n = D → LibW u → Calls Tryd.prog 78 #[.int .i64 n, .int .i64 10] u fun e w' => e = .returned (.string (IT n)) ∧ Below u.heap.size u w') := fun n u hn hu => by
          have h := fmt_any n (by rcases hn with rfl | rfl <;> omega) (by rcases hn with rfl | rfl <;> omega) u hu
          rw [show SV (Lib.itoa n) = Value.string (IT n) by rw [hIT]] at h
          exact h
        obtain ⟨E1, hE1⟩ : ∃ E1 : ByteArray, E1 = ⟨([97, 100, 100, 32] ++ Lib.itoa X).toArray⟩ := ⟨_, rfl⟩
        obtain ⟨E2, hE2⟩ : ∃ E2 : ByteArray, E2 = ⟨([97, 100, 100, 32] ++ Lib.itoa X ++ [32]).toArray⟩ := ⟨_, rfl⟩
        obtain ⟨E3, hE3⟩ : ∃ E3 : ByteArray, E3 = ⟨([97, 100, 100, 32] ++ Lib.itoa X ++ [32] ++ Lib.itoa D).toArray⟩ := ⟨_, rfl⟩
        obtain ⟨E4, hE4⟩ : ∃ E4 : ByteArray, E4 = ⟨(lineS (X, D)).toArray⟩ := ⟨_, rfl⟩
        have hc1 : ({ data := #[97, 100, 100, 32] } : ByteArray) ++ IT X = E1 := by rw [hE1]; exact cat_sv [97, 100, 100, 32] _ _ _ rfl (hIT X)
        have hc2 : E1 ++ ({ data := #[32] } : ByteArray) = E2 := by rw [hE2]; exact cat_sv _ [32] _ _ hE1 rfl
        have hc3 : E2 ++ IT D = E3 := by rw [hE3]; exact cat_sv _ _ _ _ hE2 (hIT D)
        have hc4 : E3 ++ ({ data := #[10] } : ByteArray) = E4 := by rw [hE4]; exact cat_sv _ [10] _ _ hE3 rfl
        have HE4 : Hid (Value.string E4 = SV (lineS (X, D))) := by unfold Hid; rw [hE4]
        have lx := itoa_len X x1 x2
        have ld := itoa_len D d1 d2
        have s0 : (IT X).size ≤ 21 := by rw [hIT]; exact lx
        have s1 : (IT D).size ≤ 21 := by rw [hIT]; exact ld
        have s2 : E1.size ≤ 25 := by rw [hE1, sv_size, List.length_append]; show 4 + _ ≤ 25; omega
        have s3 : E2.size ≤ 26 := by rw [hE2, sv_size, List.length_append, List.length_append]; show 4 + _ + 1 ≤ 26; omega
        have s4 : E3.size ≤ 47 := by rw [hE3, sv_size, List.length_append, List.length_append, List.length_append]; show 4 + _ + 1 + _ ≤ 47; omega
        have z1 : ¬ 9223372036854775807 < 4 + (IT X).size := by omega
        have z2 : ¬ 281474976710656 < 4 + (IT X).size := by omega
        have z3 : ¬ 9223372036854775807 < E1.size + 1 := by omega
        have z4 : ¬ 281474976710656 < E1.size + 1 := by omega
        have z5 : ¬ 9223372036854775807 < E2.size + (IT D).size := by omega
        have z6 : ¬ 281474976710656 < E2.size + (IT D).size := by omega
        have z7 : ¬ 9223372036854775807 < E3.size + 1 := by omega
        have z8 : ¬ 281474976710656 < E3.size + 1 := by omega
        obtain ⟨SB2, hSB2⟩ : ∃ SB2 : ByteArray, SB2 = ⟨(printS room l (k + 1)).toArray⟩ := ⟨_, rfl⟩
        have hc5 : SB ++ E4 = SB2 := by rw [hSB2, HST.out]; exact cat_sv _ _ _ _ HSB.out hE4
        have HSB2 := Lib.hid hSB2
        have s5 : SB.size ≤ 48000000075 := by
          have h1 := HPL.out k (Nat.le_of_lt HK.out)
          have h2 := HM.out
          have h3 := HK.out
          rw [HSB.out, sv_size]
          omega
        have s6 : E4.size ≤ 48 := by rw [hE4, sv_size]; show (lineS (X, D)).length ≤ 48; unfold lineS; rw [List.length_append, List.length_append, List.length_append, List.length_append]; show 4 + (Lib.itoa X).length + 1 + (Lib.itoa D).length + 1 ≤ 48; omega
        have z9 : ¬ 9223372036854775807 < SB.size + E4.size := by omega
        have zz : ¬ 281474976710656 < SB.size + E4.size := by omega
        have ui : Hid (wrap64 ((k : Int) + 1) = ((k + 1 : Nat) : Int)) := by have := HM.out; have := HK.out; unfold Hid; rw [wr64 _ (by omega) (by omega)]; omega
        clear hE1 hE2 hE3 hE4 hIT hSB2 lx ld s0 s1 s2 s3 s4 s5 s6 x1 x2 d1 d2 HLX
        go_upto_region 7 with (fail)
        go_region_held3 (fun w' => w'.cell? ⟨gc, 0, none⟩ = some (.int .i64 X) ∧ w'.cell? ⟨gc, 1, none⟩ = some (.int .i64 D) ∧ Below w.heap.size w w')
          (first
            | exact HKEEP.out _ HX.out
            | exact HKEEP.out _ HD.out)
          (first
            | (go_at_call 78; have HX1 := HX; go_split_ands; refine (HIN.out _ _ (by first | exact Or.inl rfl | exact Or.inr rfl) (HLW.out.below (by assumption))).mono ?_; rintro e w5 ⟨rfl, hb5⟩; have HX := Lib.hid (bgoP HX1.out hb5); clear hb5)
            | (go_at_call 78; go_split_ands; refine (HIN.out _ _ (by first | exact Or.inl rfl | exact Or.inr rfl) (HLW.out.below (by assumption))).mono ?_; rintro e w5 ⟨rfl, hb5⟩; have HX := Lib.hid (bgoP HD.out hb5); clear hb5))
        all_goals
          have HWE := Lib.hid (HBW.out.trans (HX.out.mono HBW.out.size))
          go_wp2_with fail
          go_roundw
          case rel => exact ⟨k + 1, SB2, _, HK.out, by first | rfl | rw [ui.out], rfl, rfl, HSB2.out, rfl, HWE.out⟩
          case measure => (try rw [ui.out]); have := HK.out; simp [intOf]; omega
    · have hke : k = l.length := by omega
      have i1 : ¬ (k : Int) < (l.length : Int) := by omega
      cases b with
      | true =>
        have HNO : Hid (res = ([], 2)) := by
          have := HBD.out
          unfold Hid
          rw [HRES.out]
          unfold printR
          rw [← hke]
          cases hh : fitsB room l k
          · rfl
          · rw [hh] at this; cases this
        clear hke hkl hlt
        go_wp2_with fail
        go_ret2
        exact ⟨by rw [HNO.out]; rfl, HBB.out⟩
      | false =>
        have HYES : Hid (res = (printS room l k, 0)) := by
          have := HBD.out
          unfold Hid
          rw [HRES.out]
          unfold printR
          rw [← hke]
          cases hh : fitsB room l k
          · rw [hh] at this; cases this
          · rfl
        clear hke hkl hlt
        go_wp2_with fail
        go_ret2
        exact ⟨by rw [HYES.out, HSB.out]; rfl, HBB.out⟩
end Go.Proofs.YtmibifmabkaakaaDoor
