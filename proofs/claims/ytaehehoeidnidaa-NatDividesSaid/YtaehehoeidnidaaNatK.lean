/- The law on Div and Falling: all ways together. No condition. -/
import Derived.Test.YtaehehoeidnidaaNatJ
namespace Go.Proofs.Ytaehehoeidnidaa
open Go.ChangeShapes Go.WideShapes Go.ChangeAt Go.RowKit
set_option linter.unusedVariables false

theorem one_word {x : Int} (h : (Lit.int .u64 x).wf = true) : ∃ n : Nat, x = n ∧ n < wB := by
  obtain ⟨l, hl, kl⟩ := word_list (z := [x]) (fun n hn => by rw [List.mem_singleton.1 hn]; exact h)
  match l, hl with
  | [n], hl => exact ⟨n, by simpa using hl, kl 0 (by simp)⟩
theorem NatDivides_walk (A0 : Option Addr) (z0 : List Int) (c0 : Nat) (a1 a2 a3 : Int) (w : World)
    (hc0 : z0.length ≤ c0) (hm0 : c0 ≤ maxLen) (hw0 : ∀ n, n ∈ z0 → (Lit.int .u64 n).wf = true) (s0 : Seg w w.heap.size A0 (z0.map (.int .u64)))
    (w1 : (Lit.int .u64 a1).wf = true) (w2 : (Lit.int .u64 a2).wf = true) (_w3 : (Lit.int .i64 a3).wf = true) :
    Calls Try.prog 8 #[.slice A0 z0.length c0, .int .u64 a1, .int .u64 a2, .int .i64 a3] w fun e w' => e = .returned (.bool true) ∧ Below w.heap.size w w' := by
  obtain ⟨a, rfl, ka⟩ := word_list hw0
  obtain ⟨b, rfl, hb⟩ := one_word w1
  obtain ⟨n, rfl, hn⟩ := one_word w2
  rw [List.map_map] at s0
  rw [List.length_map]
  by_cases hf : a3 < 0 ∨ 300 < a3
  · by_cases hd : nright a
    · rcases Nat.eq_zero_or_pos b with e | e
      · subst e; exact ndl_bad_zero A0 a c0 n a3 w s0 ka hn hf hd
      · exact ndl_bad_ok A0 a c0 b n a3 w s0 ka hn hf hd e hb
    · exact ndl_bad_form A0 a c0 b n a3 w s0 ka hn hf hd
  · obtain ⟨m, rfl⟩ : ∃ m : Nat, a3 = m := ⟨a3.toNat, by omega⟩
    have hm : m ≤ 300 := by omega
    by_cases hd : nright a
    · rcases Nat.eq_zero_or_pos b with e | e
      · subst e; exact ndl_ok_zero A0 a c0 n m w s0 ka hn hm hd
      · exact ndl_ok_ok A0 a c0 b n m w s0 ka hn hm hd e hb
    · exact ndl_ok_form A0 a c0 b n m w s0 ka hn hm hd
end Go.Proofs.Ytaehehoeidnidaa
