/- Pools joined: what each of the two answers, always; the law walked. No condition. -/
import Derived.Test.YtmnjgoicppknjaaJoiG
import Derived.Test.YtmnjgoicppknjaaJoiH
import Derived.Test.YtmnjgoicppknjaaJoiL
import Derived.Test.YtmnjgoicppknjaaJoiC
import Derived.Test.YtmnjgoicppknjaaEOf
namespace Go.Proofs.Ytmnjgoicppknjaa
open Go.ChangeShapes Go.WideShapes Go.ChangeAt Go.RowKit
set_option linter.unusedVariables false

theorem jpR_err {ra ka rb kb : Int} {za zb ds ws : List Int} {err : Int} (h : jpe ra ka za.length rb kb zb.length ds.length ws.length = err) (h0 : err ≠ 0) : jpR ra ka za rb kb zb ds ws = ((0, 0, []), err) := by
  unfold jpR; rw [if_neg (by rw [h]; exact h0), h]
theorem lose {f : Nat} {args : Array Value} {w : World} {R : (Int × Int × List Int) × Int} {err : Int} (he : R = ((0, 0, []), err))
    (h : Calls Try.prog f args w fun e w' => e = .returned (.tuple #[PoolV 0 0 (.slice none 0 0), .int .i64 err]) ∧ Below w.heap.size w w') :
    Calls Try.prog f args w fun e w' => (∃ v, e = .returned (.tuple #[v, .int .i64 R.2]) ∧ PoolIs w' v R.1) ∧ Below w.heap.size w w' :=
  h.mono (by rintro e w' ⟨rfl, hb⟩; subst he; exact ⟨⟨_, rfl, nil_is _ _ _⟩, hb⟩)
section
variable (A C E F : Option Addr) (ra ka rb kb : Int) (za zb ds ws : List Int) (ca cb ce cf : Nat) (w : World) (ha : Seg w w.heap.size A (za.map (.int .i64))) (hc : Seg w w.heap.size C (zb.map (.int .i64))) (hd : Seg w w.heap.size E (ds.map (.int .i64))) (hw0 : Seg w w.heap.size F (ws.map (.int .i64)))
    (hwx : ∀ i, -9223372036854775808 ≤ pat ws i ∧ pat ws i ≤ 9223372036854775807)
include ha hc hd hw0 hwx
theorem jp_any : Calls Try.prog 15 #[PoolV ra ka (.slice A za.length ca), PoolV rb kb (.slice C zb.length cb), .slice E ds.length ce, .slice F ws.length cf] w fun e w' => (∃ v, e = .returned (.tuple #[v, .int .i64 (jpR ra ka za rb kb zb ds ws).2]) ∧ PoolIs w' v (jpR ra ka za rb kb zb ds ws).1) ∧ Below w.heap.size w w' := by
  by_cases h : fright ra ka za.length
  · by_cases h2 : fright rb kb zb.length
    · by_cases h3 : ra = rb
      · by_cases h4 : 1099511627776 < ka + kb
        · exact lose (jpR_err (err := 4) (by unfold jpe; rw [if_pos ⟨h, h2, h3⟩, if_pos h4]) (by decide)) (jp_bad4 A C E F ra ka rb kb _ _ _ _ ca cb ce cf w h h2 h3 h4)
        · by_cases h5 : (ds.length : Int) < min ra (ka + kb)
          · exact lose (jpR_err (err := 7) (by unfold jpe; rw [if_pos ⟨h, h2, h3⟩, if_neg h4, if_pos (.inl h5)]) (by decide)) (jp_bad5 A C E F ra ka rb kb _ _ _ _ ca cb ce cf w h h2 h3 h4 h5)
          · by_cases h6 : (ws.length : Int) < min ra (ka + kb)
            · exact lose (jpR_err (err := 7) (by unfold jpe; rw [if_pos ⟨h, h2, h3⟩, if_neg h4, if_pos (.inr h6)]) (by decide)) (jp_bad6 A C E F ra ka rb kb _ _ _ _ ca cb ce cf w h h2 h3 h4 h5 h6)
            · exact jp_good A C E F ra ka rb kb za zb ds ws ca cb ce cf w ha hc hd hw0 hwx h h2 h3 h4 h5 h6
      · exact lose (jpR_err (err := 1) (by unfold jpe; rw [if_neg (fun q => h3 q.2.2)]) (by decide)) (jp_bad3 A C E F ra ka rb kb _ _ _ _ ca cb ce cf w h h2 h3)
    · exact lose (jpR_err (err := 1) (by unfold jpe; rw [if_neg (fun q => h2 q.2.1)]) (by decide)) (jp_bad2 A C E F ra ka rb kb _ _ _ _ ca cb ce cf w h h2)
  · exact lose (jpR_err (err := 1) (by unfold jpe; rw [if_neg (fun q => h q.1)]) (by decide)) (jp_bad1 A C E F ra ka rb kb _ _ _ _ ca cb ce cf w h)
theorem jg_any : Calls Try.prog 16 #[PoolV ra ka (.slice A za.length ca), PoolV rb kb (.slice C zb.length cb), .slice E ds.length ce, .slice F ws.length cf] w fun e w' => (∃ v, e = .returned (.tuple #[v, .int .i64 (jpR ra ka za rb kb zb ds ws).2]) ∧ PoolIs w' v (jpR ra ka za rb kb zb ds ws).1) ∧ Below w.heap.size w w' := by
  by_cases h : fright ra ka za.length
  · by_cases h2 : fright rb kb zb.length
    · by_cases h3 : ra = rb
      · by_cases h4 : 1099511627776 < ka + kb
        · exact lose (jpR_err (err := 4) (by unfold jpe; rw [if_pos ⟨h, h2, h3⟩, if_pos h4]) (by decide)) (jg_bad4 A C E F ra ka rb kb _ _ _ _ ca cb ce cf w h h2 h3 h4)
        · by_cases h7 : ra < ka + kb
          · have hm : min ra (ka + kb) = ra := by omega
            by_cases h5 : (ds.length : Int) < ra
            · exact lose (jpR_err (err := 7) (by unfold jpe; rw [if_pos ⟨h, h2, h3⟩, if_neg h4, hm, if_pos (.inl h5)]) (by decide)) (jg_bad5a A C E F ra ka rb kb _ _ _ _ ca cb ce cf w h h2 h3 h4 h7 h5)
            · by_cases h6 : (ws.length : Int) < ra
              · exact lose (jpR_err (err := 7) (by unfold jpe; rw [if_pos ⟨h, h2, h3⟩, if_neg h4, hm, if_pos (.inr h6)]) (by decide)) (jg_bad6a A C E F ra ka rb kb _ _ _ _ ca cb ce cf w h h2 h3 h4 h7 h5 h6)
              · exact jg_gooda A C E F ra ka rb kb za zb ds ws ca cb ce cf w ha hc hd hw0 h h2 h3 h4 hwx h7 h5 h6
          · have hm : min ra (ka + kb) = ka + kb := by omega
            by_cases h5 : (ds.length : Int) < ka + kb
            · exact lose (jpR_err (err := 7) (by unfold jpe; rw [if_pos ⟨h, h2, h3⟩, if_neg h4, hm, if_pos (.inl h5)]) (by decide)) (jg_bad5b A C E F ra ka rb kb _ _ _ _ ca cb ce cf w h h2 h3 h4 h7 h5)
            · by_cases h6 : (ws.length : Int) < ka + kb
              · exact lose (jpR_err (err := 7) (by unfold jpe; rw [if_pos ⟨h, h2, h3⟩, if_neg h4, hm, if_pos (.inr h6)]) (by decide)) (jg_bad6b A C E F ra ka rb kb _ _ _ _ ca cb ce cf w h h2 h3 h4 h7 h5 h6)
              · exact jg_goodb A C E F ra ka rb kb za zb ds ws ca cb ce cf w ha hc hd hw0 h h2 h3 h4 hwx h7 h5 h6
      · exact lose (jpR_err (err := 1) (by unfold jpe; rw [if_neg (fun q => h3 q.2.2)]) (by decide)) (jg_bad3 A C E F ra ka rb kb _ _ _ _ ca cb ce cf w h h2 h3)
    · exact lose (jpR_err (err := 1) (by unfold jpe; rw [if_neg (fun q => h2 q.2.1)]) (by decide)) (jg_bad2 A C E F ra ka rb kb _ _ _ _ ca cb ce cf w h h2)
  · exact lose (jpR_err (err := 1) (by unfold jpe; rw [if_neg (fun q => h q.1)]) (by decide)) (jg_bad1 A C E F ra ka rb kb _ _ _ _ ca cb ce cf w h)
end
theorem JS.step_len {za zb : List Int} {s s' : JS} {d x : Int} (h : s.step za zb d x = some s') : s'.o.length = s.o.length + 1 := by
  unfold JS.step at h
  split at h
  · cases h
  · split at h <;> split at h
    · injection h with h; subst h; simp
    · cases h
    · injection h with h; subst h; simp
    · cases h
theorem JS.run_len {za zb ds ws : List Int} : ∀ (f j : Nat) (s : JS) (o : List Int), JS.run za zb ds ws f j s = some o → o.length = s.o.length + f
  | 0, _, s, o, h => by rw [JS.run] at h; injection h with h; subst h; rfl
  | f + 1, j, s, o, h => by
    cases hs : s.step za zb (pat ds j) (pat ws j) with
    | none => rw [JS.run_none hs] at h; cases h
    | some s' =>
      rw [JS.run_some hs] at h
      have h1 := JS.run_len f (j + 1) s' o h
      have h2 := JS.step_len hs
      omega
theorem jpR_len (ra ka rb kb : Int) (za zb ds ws : List Int) : (jpR ra ka za rb kb zb ds ws).1.2.2.length ≤ 1000000 := by
  unfold jpR
  split
  · rename_i h
    have hr : ra ≤ 400 := by
      unfold jpe at h
      split at h
      · rename_i h1; have h2 := h1.1; unfold fright at h2; omega
      · cases h
    cases hT : JS.run za zb ds ws (min ra (ka + kb)).toNat 0 (JS.start ka kb) with
    | none => simp
    | some o =>
      have h1 := JS.run_len _ _ _ _ hT
      have h2 : (JS.start ka kb).o.length = 0 := rfl
      show o.length ≤ 1000000
      omega
  · simp
end Go.Proofs.Ytmnjgoicppknjaa
