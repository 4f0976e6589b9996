/- slices.Sort and slices.Sorted at numbers: the shelf's contract at this program; what slices.Sorted hands back. No condition but the slice's own size. -/
import Derived.Shelf.Sort.AssemblyIn
import Derived.Sort.EveryDepth
import Derived.Lib.SlKeysI
import Derived.Test.YtmnjgoicppknjaaMidV
import Derived.Test.YtmnjgoicppknjaaMidM
namespace Go.Proofs.Ytmnjgoicppknjaa
open Go.ChangeShapes Go.WideShapes Go.ChangeAt Go.RowKit Go.Sort
set_option linter.unusedVariables false

def laysSort_ren : Go.Shelf.Ren := ⟨fun | 125 => 208 | 128 => 226 | 129 => 214 | 189 => 204 | 215 => 245 | 216 => 234 | 257 => 217 | 294 => 228 | 295 => 229 | 296 => 230 | 297 => 231 | 298 => 232 | 299 => 233 | 300 => 235 | 301 => 236 | 328 => 242 | 329 => 238 | 330 => 239 | 331 => 243 | 332 => 244 | 343 => 247 | n => n, fun | 0 => 0 | 3 => 3 | 4 => 4 | 5 => 5 | 9 => 9 | 28 => 22 | 46 => 165 | 51 => 164 | 53 => 59 | 131 => 222 | 182 => 217 | 183 => 218 | 218 => 230 | 222 => 233 | 228 => 237 | 229 => 238 | n => n, fun | n => n⟩
theorem laysSort : Go.Proofs.Lays.n189 Try.prog laysSort_ren := {
  mixed := by kernel_rfl
  f125 := Try.func208.trans (congrArg some (by kernel_rfl))
  f128 := Try.func226.trans (congrArg some (by kernel_rfl))
  f129 := Try.func214.trans (congrArg some (by kernel_rfl))
  f189 := Try.func204.trans (congrArg some (by kernel_rfl))
  f215 := Try.func245.trans (congrArg some (by kernel_rfl))
  f216 := Try.func234.trans (congrArg some (by kernel_rfl))
  f257 := Try.func217.trans (congrArg some (by kernel_rfl))
  f294 := Try.func228.trans (congrArg some (by kernel_rfl))
  f295 := Try.func229.trans (congrArg some (by kernel_rfl))
  f296 := Try.func230.trans (congrArg some (by kernel_rfl))
  f297 := Try.func231.trans (congrArg some (by kernel_rfl))
  f298 := Try.func232.trans (congrArg some (by kernel_rfl))
  f299 := Try.func233.trans (congrArg some (by kernel_rfl))
  f300 := Try.func235.trans (congrArg some (by kernel_rfl))
  f301 := Try.func236.trans (congrArg some (by kernel_rfl))
  f328 := Try.func242.trans (congrArg some (by kernel_rfl))
  f329 := Try.func238.trans (congrArg some (by kernel_rfl))
  f330 := Try.func239.trans (congrArg some (by kernel_rfl))
  f331 := Try.func243.trans (congrArg some (by kernel_rfl))
  f332 := Try.func244.trans (congrArg some (by kernel_rfl))
  f343 := Try.func247.trans (congrArg some (by kernel_rfl))
  t0 := Try.underlying0
  a0 := Try.isAgg0
  z0 := Try.sizeOf0
  v0 := Try.zeroValue0
  t3 := Try.underlying3
  a3 := Try.isAgg3
  z3 := Try.sizeOf3
  v3 := Try.zeroValue3
  t4 := Try.underlying4
  a4 := Try.isAgg4
  z4 := Try.sizeOf4
  v4 := Try.zeroValue4
  t5 := Try.underlying5
  a5 := Try.isAgg5
  z5 := Try.sizeOf5
  v5 := Try.zeroValue5
  t9 := Try.underlying9
  a9 := Try.isAgg9
  z9 := Try.sizeOf9
  v9 := Try.zeroValue9
  t28 := Try.underlying22
  a28 := Try.isAgg22
  z28 := Try.sizeOf22
  v28 := Try.zeroValue22
  t46 := Try.underlying165
  a46 := Try.isAgg165
  z46 := Try.sizeOf165
  v46 := Try.zeroValue165
  t51 := Try.underlying164
  a51 := Try.isAgg164
  z51 := Try.sizeOf164
  v51 := Try.zeroValue164
  t53 := Try.underlying59
  a53 := Try.isAgg59
  z53 := Try.sizeOf59
  v53 := Try.zeroValue59
  t131 := Try.underlying222
  a131 := Try.isAgg222
  z131 := Try.sizeOf222
  v131 := Try.zeroValue222
  t182 := Try.underlying217
  a182 := Try.isAgg217
  z182 := Try.sizeOf217
  v182 := Try.zeroValue217
  t183 := Try.underlying218
  a183 := Try.isAgg218
  z183 := Try.sizeOf218
  v183 := Try.zeroValue218
  t218 := Try.underlying230
  a218 := Try.isAgg230
  z218 := Try.sizeOf230
  v218 := Try.zeroValue230
  t222 := Try.underlying233
  a222 := Try.isAgg233
  z222 := Try.sizeOf233
  v222 := Try.zeroValue233
  t228 := Try.underlying237
  a228 := Try.isAgg237
  z228 := Try.sizeOf237
  v228 := Try.zeroValue237
  t229 := Try.underlying238
  a229 := Try.isAgg238
  z229 := Try.sizeOf238
  v229 := Try.zeroValue238 }
theorem sort_any (blk off cap : Nat) (zs : List Int) (w : World) (hH : Holds (Value.int .i64) w blk off zs.toArray) (hblk : blk < w.heap.size) (hsz : zs.length < 4611686018427387904) :
    Calls Try.prog 204 #[.slice (some ⟨blk, off, none⟩) zs.length cap] w fun e w' => e = .returned (.tuple #[]) ∧ ∃ n os, w' = grow (putRow (Value.int .i64) (Sort.ahead w n) blk off (isort zs).toArray) os :=
  calls_of_every_depth fun D => AnyS.slices_Sort_int_in laysSort D blk off cap zs w hH hblk hsz
theorem mints_of {w : World} {A : Option Addr} {zs : List Int} {c : Nat} (hs : Seg w w.heap.size A (zs.map (.int .i64))) (h0 : 0 < zs.length) : MInts w.heap.size w (.slice A zs.length c) zs := by
  obtain ⟨ad, rfl, hb, hc⟩ := hs (by simpa using h0)
  exact .inr ⟨ad, c, rfl, hb, fun j hj => hc j _ (by simp [hj])⟩
set_option maxRecDepth 20000 in
set_option maxHeartbeats 1000000 in
theorem collect_any (Bs : Nat) (sv : Value) (zs : List Int) (hreach : zs.length * 8 ≤ 140737488351232) (w : World) (hBs : Bs < w.heap.size) (hcB : w.cell? ⟨Bs, 0, none⟩ = some sv) (hI : MInts w.heap.size w sv zs) :
    Calls Try.prog 203 #[.func (.func 205) #[] #[.pointer (some ⟨Bs, 0, none⟩)]] w fun e w' =>
      ∃ v, e = .returned v ∧ w'.ownsRow w.heap.size 3 1 v zs.length (zs.map (Value.int .i64)) ∧ Below w.heap.size w w' := by
  have HA := Lib.hid ((callsIn_wide (n := 6)).1 (appendSeq_in Fence.wide 6 trivial trivial rfl (by omega) Bs sv zs hreach w hBs hcB hI))
  clear hI hcB
  go_enter Try.func203, Try.ntmps203
  go_wp2_with fail
  refine HA.out.mono ?_
  rintro e w1 ⟨v, rfl, hrow, _, hb⟩
  have HR := Lib.hid hrow
  have HB := Lib.hid hb
  clear hrow hb
  go_wp2_with fail
  go_ret
  exact ⟨_, rfl, HR.out, HB.out⟩
set_option maxRecDepth 20000 in
set_option maxHeartbeats 1000000 in
theorem sorted_any (Bs : Nat) (sv : Value) (zs : List Int) (hreach : zs.length * 8 ≤ 140737488351232) (h0 : 0 < zs.length) (w : World) (hBs : Bs < w.heap.size) (hcB : w.cell? ⟨Bs, 0, none⟩ = some sv) (hI : MInts w.heap.size w sv zs) :
    Calls Try.prog 174 #[.func (.func 205) #[] #[.pointer (some ⟨Bs, 0, none⟩)]] w fun e w' =>
      (∃ A c, e = .returned (.slice A zs.length c) ∧ Seg w' w'.heap.size A ((isort zs).map (Value.int .i64))) ∧ Below w.heap.size w w' := by
  have HA := Lib.hid (collect_any Bs sv zs hreach w hBs hcB hI)
  have HL := Lib.hid (And.intro hreach h0)
  clear hI hcB hreach h0
  go_enter Try.func174, Try.ntmps174
  go_wp2_with fail
  refine HA.out.mono ?_
  rintro e w1 ⟨v, rfl, hrow, hb⟩
  rcases hrow.2 with ⟨_, hz⟩ | ⟨g, cap, cur, rfl, hbase, hgb, r1, r2, r3, r4⟩
  · have := HL.out.2; omega
  · have HS := Lib.hid (sort_any g 0 cap zs w1 (holds_of_block_i hgb (by simpa using r4)) (Array.getElem?_eq_some_iff.1 hgb).1 (by have := HL.out.1; omega))
    have HO := Lib.hid (fun (n : Nat) (os : Array Obj) => ownsRow_sorted_i (n := n) (os := os) (ts := isort zs) (isort_len zs) hbase hgb r1 r2 r3)
    have HB := Lib.hid hb
    have HG := Lib.hid hbase
    clear hrow hb hgb r1 r2 r3 r4 hbase
    go_wp2_with fail
    refine HS.out.mono ?_
    rintro e w2 ⟨rfl, n, os, rfl⟩
    have HO2 := Lib.hid (HO.out n os)
    have HB2 : Hid (Below w.heap.size w (grow (putRow (Value.int .i64) (Sort.ahead w1 n) g 0 (isort zs).toArray) os)) := HB.out.grown (grownBy_sorted_i _) HB.out.size (fun j hj => by cases hj; exact HG.out)
    generalize grow (putRow (Value.int .i64) (Sort.ahead w1 n) g 0 (isort zs).toArray) os = w3 at *
    go_wp2_with fail
    go_ret
    obtain ⟨A, c, e, _, hs⟩ := (Own.to (by have h := HO2.out; rw [← isort_len zs] at h; simpa using h) : Own w3 w.heap.size 3 (.slice (some ⟨g, 0, none⟩) (isort zs).length cap) ((isort zs).map (.int .i64))).res
    rw [List.length_map, isort_len] at e
    injection e with e1 e2 e3
    subst e1 e3
    exact ⟨⟨_, _, rfl, hs⟩, HB2.out⟩
end Go.Proofs.Ytmnjgoicppknjaa
