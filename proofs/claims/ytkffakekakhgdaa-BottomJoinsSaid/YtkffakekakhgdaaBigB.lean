/- Whole numbers in memory: a sign and digits of 32 bits. No condition. -/
import Derived.Test.YtkffakekakhgdaaHeld
import Derived.Test.YtkffakekakhgdaaBigM
import Derived.IntWalk
namespace Go.Proofs.Ytkffakekakhgdaa
open Go.ChangeShapes Go.WideShapes Go.ChangeAt Go.RowKit

abbrev tI : TypeId := 73
abbrev tU : TypeId := 119
abbrev dgt (n : Nat) : Value := .int .u32 (n : Int)
def u32s (ds : List Nat) : List Value := ds.map dgt
theorem u32s_len (ds : List Nat) : (u32s ds).length = ds.length := by simp [u32s]
theorem u32s_get {ds : List Nat} {k : Nat} (h : k < ds.length) : (u32s ds)[k]? = some (dgt (gd ds k)) := by simp [u32s, h, gd_lt h]
theorem u32s_take (ds : List Nat) (k : Nat) : u32s (ds.take k) = (u32s ds).take k := by simp [u32s]
theorem u32s_fl (g : Nat → Nat) (n : Nat) : u32s (fl g n) = (List.range n).map fun i => dgt (g i) := by simp [u32s, fl]

theorem TSeg.grown {w w' : World} {e t g : Nat} {A : Option Addr} {xs : List Value} {cs : Array Value} (h : TSeg w e A xs) (hb : w.grownBy w' (some g)) (hg : Blk w g t cs) (hne : t ≠ e) : TSeg w' e A xs := by
  by_cases h0 : 0 < xs.length
  · obtain ⟨ad, c, ha, hc⟩ := h.2 h0
    have hbl : ad.block ≠ g := by
      intro e1
      rw [e1] at hc
      unfold Blk at hg
      rw [hg] at hc
      injection hc with hc
      injection hc with _ h2 _
      exact hne h2
    have hlt : ad.block < w.heap.size := by
      rcases Nat.lt_or_ge ad.block w.heap.size with hlt | hge
      · exact hlt
      · rw [Array.getElem?_eq_none hge] at hc; cases hc
    have hbk : w'.heap[ad.block]? = w.heap[ad.block]? := hb.block _ hlt (by simpa using hbl)
    refine ⟨fun h1 => ?_, fun _ => ⟨ad, c, ha, hbk.trans hc⟩⟩
    obtain ⟨ad', ha', _, hcs⟩ := h.1 h1
    obtain rfl : ad = ad' := by rw [ha] at ha'; injection ha'
    refine ⟨ad, ha, Nat.lt_of_lt_of_le hlt hb.size, fun k v hk => ?_⟩
    exact (World.cell?_of_block (w := w) (a := ad.add k) (by rw [addr_block]; exact hbk)).trans (hcs k v hk)
  · have : xs = [] := List.eq_nil_of_length_eq_zero (by omega)
    subst this
    exact TSeg.nil
theorem TSeg.pre {w : World} {e : TypeId} {A : Option Addr} {xs : List Value} (h : TSeg w e A xs) (k : Nat) : TSeg w e A (xs.take k) := by
  refine ⟨h.1.pre k, fun h0 => ?_⟩
  exact h.2 (by rw [List.length_take] at h0; omega)
theorem TSeg.drew {w : World} {e : TypeId} {A : Option Addr} {xs : List Value} (h : TSeg w e A xs) : TSeg w.drew e A xs := h
theorem TSeg.cell {w : World} {e : TypeId} {A : Option Addr} {xs : List Value} (h : TSeg w e A xs) {k : Nat} {u : Value} (hk : xs[k]? = some u) : ∃ ad, A = some ad ∧ w.cell? (ad.add k) = some u := by
  obtain ⟨ad, e, _, hc⟩ := h.1.get hk
  exact ⟨ad, e, hc⟩

/-- The digits ds at A. -/
abbrev Digs (w : World) (A : Option Addr) (ds : List Nat) : Prop := TSeg w tU A (u32s ds)
/-- How many digits a slice may have. -/
abbrev capMax : Nat := 17592186044416
theorem tI_ne : tI ≠ tU := by decide

/-- At the address g, o stands a number: its sign, its digits; it may be read. -/
def IntAt (w : World) (g o : Nat) (b : Bool) (ds : List Nat) : Prop :=
  ∃ t cs A c, Blk w g t cs ∧ t ≠ tU ∧ cs[o]? = some (.bool b) ∧ cs[o + 1]? = some (.slice A ds.length c) ∧ ds.length ≤ c ∧ ds.length ≤ capMax ∧ Digs w A ds
/-- Block g is that of one number: it may be written. -/
def IntBlk (w : World) (g : Nat) : Prop := ∃ x y, Blk w g tI #[x, y]
section
variable {w w' : World} {g g' o : Nat} {b : Bool} {ds : List Nat} {t : TypeId} {cs : Array Value}
theorem IntAt.below (h : IntAt w g o b ds) (hb : Below w.heap.size w w') : IntAt w' g o b ds := by
  obtain ⟨t, cs, A, c, h1, h2, h3, h4, h5, h6, h7⟩ := h
  exact ⟨t, cs, A, c, h1.below hb h1.lt, h2, h3, h4, h5, h6, h7.below hb⟩
theorem IntAt.drew (h : IntAt w g o b ds) : IntAt w.drew g o b ds := h
theorem IntAt.drewN (h : IntAt w g o b ds) (n : Nat) : IntAt (w.drewN n) g o b ds := h
theorem IntAt.alloc (h : IntAt w g o b ds) (x : Obj) : IntAt (w.alloc x) g o b ds := h.below ((Below.refl _ _).alloc (Nat.le_refl _) _)
theorem IntAt.grown (h : IntAt w g o b ds) (hb : w.grownBy w' (some g')) (hne : g ≠ g') (hg : Blk w g' t cs) (ht : t ≠ tU) : IntAt w' g o b ds := by
  obtain ⟨t, cs, A, c, h1, h2, h3, h4, h5, h6, h7⟩ := h
  exact ⟨t, cs, A, c, h1.grown hb hne, h2, h3, h4, h5, h6, h7.grown hb hg ht⟩
theorem IntBlk.lt (h : IntBlk w g) : g < w.heap.size := by
  obtain ⟨x, y, h⟩ := h
  exact h.lt
theorem IntBlk.below (h : IntBlk w g) (hb : Below w.heap.size w w') : IntBlk w' g := by
  obtain ⟨x, y, h⟩ := h
  exact ⟨x, y, h.below hb h.lt⟩
theorem IntBlk.drew (h : IntBlk w g) : IntBlk w.drew g := h
theorem IntBlk.drewN (h : IntBlk w g) (n : Nat) : IntBlk (w.drewN n) g := h
theorem IntBlk.alloc (h : IntBlk w g) (x : Obj) : IntBlk (w.alloc x) g := h.below ((Below.refl _ _).alloc (Nat.le_refl _) _)
theorem IntBlk.grown (h : IntBlk w g) (hb : w.grownBy w' (some g')) (hne : g ≠ g') : IntBlk w' g := by
  obtain ⟨x, y, h⟩ := h
  exact ⟨x, y, h.grown hb hne⟩
end

/-- Sign and digits are those of z. -/
def IsZ (b : Bool) (ds : List Nat) (z : Int) : Prop := dok ds ∧ dnorm ds ∧ (b = true → ds.length ≠ 0) ∧ z = if b then -(dv ds : Int) else (dv ds : Int)
def IntZ (w : World) (g o : Nat) (z : Int) : Prop := ∃ b ds, IntAt w g o b ds ∧ IsZ b ds z
/-- Block g has become the number z; nothing else that was there has changed. -/
def PutZ (w w' : World) (g : Nat) (z : Int) : Prop := IntZ w' g 0 z ∧ IntBlk w' g ∧ w.grownBy w' (some g)
/-- z has no more than L digits. -/
def Fits (z : Int) (L : Nat) : Prop := z.natAbs < bp L
section
variable {w w' : World} {g g' o : Nat} {z : Int} {t : TypeId} {cs : Array Value}
theorem IntZ.below (h : IntZ w g o z) (hb : Below w.heap.size w w') : IntZ w' g o z := by
  obtain ⟨b, ds, h, hz⟩ := h
  exact ⟨b, ds, h.below hb, hz⟩
theorem IntZ.drew (h : IntZ w g o z) : IntZ w.drew g o z := h
theorem IntZ.drewN (h : IntZ w g o z) (n : Nat) : IntZ (w.drewN n) g o z := h
theorem IntZ.alloc (h : IntZ w g o z) (x : Obj) : IntZ (w.alloc x) g o z := h.below ((Below.refl _ _).alloc (Nat.le_refl _) _)
theorem IntZ.grown (h : IntZ w g o z) (hb : w.grownBy w' (some g')) (hne : g ≠ g') (hg : IntBlk w g') : IntZ w' g o z := by
  obtain ⟨b, ds, h, hz⟩ := h
  obtain ⟨x, y, hg⟩ := hg
  exact ⟨b, ds, h.grown hb hne hg tI_ne, hz⟩
theorem IsZ.len {b : Bool} {ds : List Nat} {L : Nat} (h : IsZ b ds z) (hf : Fits z L) : ds.length ≤ L := by
  refine len_le h.2.1 ?_
  have := h.2.2.2
  unfold Fits at hf
  cases b
  · rw [if_neg (by decide)] at this; omega
  · rw [if_pos rfl] at this; omega
theorem IsZ.abs {b : Bool} {ds : List Nat} (h : IsZ b ds z) : z.natAbs = dv ds := by
  have := h.2.2.2
  cases b
  · rw [if_neg (by decide)] at this; omega
  · rw [if_pos rfl] at this; omega
theorem IsZ.neg_iff {b : Bool} {ds : List Nat} (h : IsZ b ds z) : b = decide (z < 0) := by
  obtain ⟨_, h1, h2, h3⟩ := h
  have h4 := dv_zero h1
  cases b
  · rw [if_neg (by decide)] at h3; rw [decide_eq_false (by omega)]
  · rw [if_pos rfl] at h3; have := h2 rfl; rw [decide_eq_true (by omega)]
theorem Fits.mono {L M : Nat} (h : Fits z L) (hl : L ≤ M) : Fits z M := Nat.lt_of_lt_of_le h (bp_le hl)
end

theorem IntZ.open_ {w : World} {g : Nat} {z : Int} (h : IntZ w g 0 z) (hg : IntBlk w g) : ∃ b ds A c, Blk w g tI #[.bool b, .slice A ds.length c] ∧ ds.length ≤ c ∧ ds.length ≤ capMax ∧ Digs w A ds ∧ IsZ b ds z := by
  obtain ⟨b, ds, ⟨t, cs, A, c, h1, h2, h3, h4, h5, h6, h7⟩, hz⟩ := h
  obtain ⟨x, y, hg⟩ := hg
  have e : some (Obj.cells cs t (0, 0)) = some (Obj.cells #[x, y] tI (0, 0)) := h1.symm.trans hg
  injection e with e
  injection e with e1 e2 _
  subst e1; subst e2
  injection h3 with h3
  injection h4 with h4
  subst h3; subst h4
  exact ⟨b, ds, A, c, h1, h5, h6, h7, hz⟩
theorem IntZ.shut {w : World} {g : Nat} {z : Int} {b : Bool} {ds : List Nat} {A : Option Addr} {c : Nat} (h : Blk w g tI #[.bool b, .slice A ds.length c]) (hc : ds.length ≤ c) (hm : ds.length ≤ capMax) (hd : Digs w A ds) (hz : IsZ b ds z) : IntZ w g 0 z :=
  ⟨b, ds, ⟨tI, _, A, c, h, tI_ne, rfl, rfl, hc, hm, hd⟩, hz⟩
/-- How many of n digits are left without noughts at the end. -/
def tlen (ds : List Nat) : Nat → Nat
  | 0 => 0
  | n + 1 => if gd ds n = 0 then tlen ds n else n + 1
theorem tlen_le (ds : List Nat) (n : Nat) : tlen ds n ≤ n := by
  induction n with
  | zero => exact Nat.le_refl _
  | succ n ih => unfold tlen; split <;> omega
theorem tlen_top (ds : List Nat) (n : Nat) : 0 < tlen ds n → gd ds (tlen ds n - 1) ≠ 0 := by
  induction n with
  | zero => intro h; exact absurd h (by simp [tlen])
  | succ n ih =>
    unfold tlen
    split
    · exact ih
    · next h => intro _; simpa using h
theorem tlen_rest (ds : List Nat) (n : Nat) : ∀ i, tlen ds n ≤ i → i < n → gd ds i = 0 := by
  induction n with
  | zero => intro i _ h; omega
  | succ n ih =>
    unfold tlen
    split
    · next h =>
      intro i h1 h2
      by_cases hi : i = n
      · subst hi; exact h
      · exact ih i h1 (by omega)
    · intro i h1 h2; omega
abbrev dtrim (ds : List Nat) : List Nat := ds.take (tlen ds ds.length)
theorem dtrim_len (ds : List Nat) : (dtrim ds).length = tlen ds ds.length := by rw [List.length_take, Nat.min_eq_left (tlen_le _ _)]
theorem dtrim_dv (ds : List Nat) : dv (dtrim ds) = dv ds := by
  have h := tlen_le ds ds.length
  unfold dv
  rw [dtrim_len, fv_cut (g := gd ds) (n := ds.length) (tlen ds ds.length) (tlen_rest ds ds.length) h]
  exact fv_congr fun i hi => gd_take hi h
theorem dtrim_norm (ds : List Nat) : dnorm (dtrim ds) := by
  intro h
  rw [dtrim_len] at h ⊢
  rw [gd_take (by omega) (tlen_le _ _)]
  exact tlen_top ds _ h
/-- What trim makes of a sign and digits is what they are. -/
theorem isz_trim {b : Bool} {ds : List Nat} (h : dok ds) : IsZ (b && decide (tlen ds ds.length ≠ 0)) (dtrim ds) (if b then -(dv ds : Int) else (dv ds : Int)) := by
  refine ⟨dok_take h _, dtrim_norm ds, fun hb => ?_, ?_⟩
  · rw [Bool.and_eq_true, decide_eq_true_iff] at hb
    rw [dtrim_len]; exact hb.2
  · rw [dtrim_dv]
    cases b
    · rfl
    · simp only [Bool.true_and, if_true]
      by_cases h0 : tlen ds ds.length = 0
      · have : dv ds = 0 := by rw [← dtrim_dv]; exact (dv_zero (dtrim_norm ds)).2 (by rw [dtrim_len]; exact h0)
        rw [this, if_neg (by simpa using h0)]; rfl
      · rw [if_pos (by simpa using h0)]
theorem ret_p {a b : Option Addr} (h : a = b) : Ending.returned (.pointer a) = .returned (.pointer b) := by rw [h]

theorem setCell_grown (w : World) (g i : Nat) (u : Value) : w.grownBy (w.setCell ⟨g, i, none⟩ u) (some g) := by
  refine ⟨rfl, rfl, rfl, by simp, fun k _ hne => ?_⟩
  exact Below.heap_setCell w _ _ _ (fun e => hne (by rw [e]))
theorem grown_refl (w : World) (row : Option Nat) : w.grownBy w row := ⟨rfl, rfl, rfl, Nat.le_refl _, fun _ _ _ => rfl⟩
theorem grown_drew (w : World) (row : Option Nat) : w.grownBy w.drew row := ⟨rfl, rfl, rfl, Nat.le_refl _, fun _ _ _ => rfl⟩
theorem grown_drewN (w : World) (n : Nat) (row : Option Nat) : w.grownBy (w.drewN n) row := ⟨rfl, rfl, rfl, Nat.le_refl _, fun _ _ _ => rfl⟩
theorem grown_of_below {w w' : World} (h : Below w.heap.size w w') (row : Option Nat) : w.grownBy w' row := ⟨h.os, h.tape, h.output, h.size, fun k hk _ => h.block k hk⟩
/-- What trim leaves. -/
def TrimOut (w w' : World) (g : Nat) (b : Bool) (A : Option Addr) (c : Nat) (ds : List Nat) : Prop :=
  Blk w' g tI #[.bool (b && decide (tlen ds ds.length ≠ 0)), .slice A (tlen ds ds.length) c] ∧ w.grownBy w' (some g)

set_option maxRecDepth 20000 in
set_option maxHeartbeats 2000000 in
theorem trim_any (g : Nat) (b : Bool) (A : Option Addr) (c : Nat) (ds : List Nat) (w : World) (hb : Blk w g tI #[.bool b, .slice A ds.length c]) (hd : Digs w A ds) (hc : ds.length ≤ c) (hm : ds.length ≤ capMax) :
    Calls Try.prog 102 #[.pointer (some ⟨g, 0, none⟩)] w fun e w' => e = .returned (.pointer (some ⟨g, 0, none⟩)) ∧ TrimOut w w' g b A c ds := by
  have c0 := hb.cell 0 (u := .bool b) rfl
  have c1 := hb.cell 1 (u := .slice A ds.length c) rfl
  have f0 := hb.frozen 0
  have f1 := hb.frozen 1
  have HB := Lib.hid hb
  have HD := Lib.hid hd
  have hl : ds.length ≤ 17592186044416 := hm
  clear hb hd hm
  go_enter Try.func102, Try.ntmps102
  go_wp2_with fail
  go_loop [3] (fun s3 => ∃ n : Nat, n ≤ ds.length ∧ s3 = .int .i64 n ∧ Hid (tlen ds ds.length = tlen ds n)) (fun s3 => (intOf s3).toNat)
  case atStart => exact ⟨ds.length, Nat.le_refl _, rfl, rfl⟩
  case round =>
    obtain ⟨n, hn, rfl, ht⟩ := hrel
    by_cases h0 : n = 0
    · subst h0
      have HT : Hid (tlen ds ds.length = 0) := ht.out
      go_wp2_with fail
      go_ret
      refine ⟨rfl, ?_, (setCell_grown _ _ _ _).trans (setCell_grown _ _ _ _)⟩
      rw [HT.out, show (b && decide ((0 : Nat) ≠ 0)) = false by simp]
      exact (HB.out.set_ 1 _).set_ 0 _
    · obtain ⟨m, rfl⟩ : ∃ m, n = m + 1 := ⟨n - 1, by omega⟩
      obtain ⟨ad, rfl, hcell⟩ := HD.out.cell (u32s_get (show m < ds.length by omega))
      have i1 : (m : Int) < (ds.length : Int) := by omega
      have HX : Hid (tlen ds (m + 1) = if gd ds m = 0 then tlen ds m else m + 1) := rfl
      by_cases hz : gd ds m = 0
      · have d1 : ((gd ds m : Int) == 0) = true := by rw [hz]; rfl
        have HT : Hid (tlen ds ds.length = tlen ds m) := by unfold Hid; rw [ht.out, HX.out, if_pos hz]
        clear hz ht HX
        generalize gd ds m = d at *
        go_wp2_with fail
        go_round
        case rel => exact ⟨m, by omega, rfl, HT⟩
        case measure => simp [intOf]
      · have d1 : ((gd ds m : Int) == 0) = false := by simp; exact hz
        have HT : Hid (tlen ds ds.length = m + 1) := by unfold Hid; rw [ht.out, HX.out, if_neg hz]
        clear hz ht HX
        generalize gd ds m = d at *
        go_wp2_with fail
        go_ret
        refine ⟨rfl, ?_, setCell_grown _ _ _ _⟩
        rw [HT.out, show (b && decide (m + 1 ≠ 0)) = b by simp]
        exact HB.out.set_ 1 _
theorem addr_off (g n : Nat) : (⟨g, 0, none⟩ : Addr).add n = ⟨g, n, none⟩ := by
  unfold Addr.add
  split
  · next h => subst h; rfl
  · simp
theorem tseg_of_blk {w : World} {g : Nat} {t : TypeId} {cs : Array Value} {xs : List Value} (h : Blk w g t cs) (e : ∀ (k : Nat) (u : Value), xs[k]? = some u → cs[k]? = some u) : TSeg w t (some ⟨g, 0, none⟩) xs :=
  ⟨fun _ => ⟨_, rfl, h.lt, fun k u hk => by rw [addr_off]; exact h.cell k (e k u hk)⟩, fun _ => ⟨_, cs, rfl, h⟩⟩
theorem digs_of_blk {w : World} {g : Nat} {cs : Array Value} {ds : List Nat} (h : Blk w g tU cs) (e : cs = (u32s ds).toArray) : Digs w (some ⟨g, 0, none⟩) ds :=
  tseg_of_blk h fun k u hk => by rw [e]; simpa using hk
theorem put_of_trim {w w1 w2 : World} {g : Nat} {b : Bool} {A : Option Addr} {c : Nat} {ds : List Nat} {z : Int} (h0 : w.grownBy w1 (some g)) (hb : Blk w1 g tI #[.bool b, .slice A ds.length c]) (hd : Digs w1 A ds) (hok : dok ds) (hc : ds.length ≤ c) (hm : ds.length ≤ capMax)
    (out : TrimOut w1 w2 g b A c ds) (hz : z = if b then -(dv ds : Int) else (dv ds : Int)) : PutZ w w2 g z := by
  subst hz
  refine ⟨⟨_, dtrim ds, ⟨tI, _, A, c, out.1, tI_ne, rfl, ?_, ?_, by rw [dtrim_len]; exact Nat.le_trans (tlen_le _ _) hm, ?_⟩, isz_trim hok⟩, ⟨_, _, out.1⟩, h0.trans out.2⟩
  · rw [dtrim_len]; rfl
  · rw [dtrim_len]; exact Nat.le_trans (tlen_le _ _) hc
  · show TSeg w2 tU A (u32s (ds.take _)); rw [u32s_take]; exact (hd.grown out.2 hb tI_ne).pre _
theorem IntBlk.put {w w' : World} {g : Nat} {z : Int} (h : PutZ w w' g z) : IntBlk w' g := h.2.1
end Go.Proofs.Ytkffakekakhgdaa
