/-
  The contract of 'slices.Sorted' at the iterators that 'maps.Keys' hands back for maps with int keys, at this dump: the shelf's contracts, laid in plain words; then as the abstract machine's oracle takes it. No condition.
-/
import Derived.Test.YtapcbpknhnfcfaaGreatDwOrc
import Derived.Test.YtapcbpknhnfcfaaGreatProg
import Derived.Shelf.SlIterI.Nil
import Derived.Shelf.SlIterI.Sorted
import Derived.Shelf.SortM.Plain
import Derived.Shelf.SortM.SortNone
import Derived.KernelRfl
namespace Go.Proofs
open Go.Shelf Go.RowKit Go.Maps Go.Sort
def Tryz.keys353k_ren : Go.Shelf.Ren := ⟨fun | 7 => 353 | 10 => 357 | n => n, fun | 23 => 206 | 26 => 3 | 3 => 481 | 28 => 137 | 0 => 0 | 27 => 136 | 33 => 228 | 4 => 4 | n => n, fun | n => n⟩
theorem Tryz.keys353k : Go.Proofs.SlLaysZI.n7 Tryz.prog Tryz.keys353k_ren := {
  mixed := by kernel_rfl
  f7 := ⟨Tryz.f353.name, by decide, Tryz.func353.trans (congrArg some (by kernel_rfl))⟩
  f10 := ⟨Tryz.f357.name, by decide, Tryz.func357.trans (congrArg some (by kernel_rfl))⟩
  t0 := Tryz.underlying0
  a0 := Tryz.isAgg0
  z0 := Tryz.sizeOf0
  v0 := Tryz.zeroValue0
  t4 := Tryz.underlying4
  a4 := Tryz.isAgg4
  z4 := Tryz.sizeOf4
  v4 := Tryz.zeroValue4
  t23 := Tryz.underlying206
  a23 := Tryz.isAgg206
  z23 := Tryz.sizeOf206
  v23 := Tryz.zeroValue206
  t26 := Tryz.underlying3
  a26 := Tryz.isAgg3
  z26 := Tryz.sizeOf3
  v26 := Tryz.zeroValue3
  t27 := Tryz.underlying136
  a27 := Tryz.isAgg136
  z27 := Tryz.sizeOf136
  v27 := Tryz.zeroValue136
  t28 := Tryz.underlying137
  a28 := Tryz.isAgg137
  z28 := Tryz.sizeOf137
  v28 := Tryz.zeroValue137
  t33 := Tryz.underlying228
  a33 := Tryz.isAgg228
  z33 := Tryz.sizeOf228
  v33 := Tryz.zeroValue228 }
def Tryz.keys427k_ren : Go.Shelf.Ren := ⟨fun | 7 => 427 | 10 => 432 | n => n, fun | 23 => 220 | 26 => 3 | 3 => 22 | 28 => 137 | 0 => 0 | 27 => 136 | 33 => 228 | 4 => 4 | n => n, fun | n => n⟩
theorem Tryz.keys427k : Go.Proofs.SlLaysZI.n7 Tryz.prog Tryz.keys427k_ren := {
  mixed := by kernel_rfl
  f7 := ⟨Tryz.f427.name, by decide, Tryz.func427.trans (congrArg some (by kernel_rfl))⟩
  f10 := ⟨Tryz.f432.name, by decide, Tryz.func432.trans (congrArg some (by kernel_rfl))⟩
  t0 := Tryz.underlying0
  a0 := Tryz.isAgg0
  z0 := Tryz.sizeOf0
  v0 := Tryz.zeroValue0
  t4 := Tryz.underlying4
  a4 := Tryz.isAgg4
  z4 := Tryz.sizeOf4
  v4 := Tryz.zeroValue4
  t23 := Tryz.underlying220
  a23 := Tryz.isAgg220
  z23 := Tryz.sizeOf220
  v23 := Tryz.zeroValue220
  t26 := Tryz.underlying3
  a26 := Tryz.isAgg3
  z26 := Tryz.sizeOf3
  v26 := Tryz.zeroValue3
  t27 := Tryz.underlying136
  a27 := Tryz.isAgg136
  z27 := Tryz.sizeOf136
  v27 := Tryz.zeroValue136
  t28 := Tryz.underlying137
  a28 := Tryz.isAgg137
  z28 := Tryz.sizeOf137
  v28 := Tryz.zeroValue137
  t33 := Tryz.underlying228
  a33 := Tryz.isAgg228
  z33 := Tryz.sizeOf228
  v33 := Tryz.zeroValue228 }
def Tryz.sortedA_ren : Go.Shelf.Ren := ⟨fun | 6 => 352 | 8 => 356 | 9 => 294 | 11 => 366 | 13 => 313 | 12 => 312 | 23 => 331 | 24 => 332 | 14 => 322 | 15 => 323 | 16 => 324 | 17 => 325 | 18 => 326 | 19 => 327 | 20 => 328 | 21 => 329 | 22 => 330 | 25 => 337 | 26 => 338 | 27 => 339 | 28 => 340 | 29 => 341 | 30 => 233 | 31 => 342 | n => n, fun | 26 => 3 | 28 => 137 | 24 => 42 | 0 => 0 | 3 => 3 | 37 => 240 | 48 => 23 | 50 => 46 | 4 => 4 | 40 => 459 | 39 => 458 | 45 => 61 | 5 => 5 | 9 => 9 | 51 => 472 | 55 => 476 | 57 => 478 | 58 => 141 | 33 => 228 | n => n, fun | n => n⟩
theorem Tryz.sortedA : Go.Proofs.SlLaysZI.n6 Tryz.prog Tryz.sortedA_ren := {
  mixed := by kernel_rfl
  f6 := ⟨Tryz.f352.name, by decide, Tryz.func352.trans (congrArg some (by kernel_rfl))⟩
  f8 := ⟨Tryz.f356.name, by decide, Tryz.func356.trans (congrArg some (by kernel_rfl))⟩
  f11 := ⟨Tryz.f366.name, by decide, Tryz.func366.trans (congrArg some (by kernel_rfl))⟩
  t0 := Tryz.underlying0
  a0 := Tryz.isAgg0
  z0 := Tryz.sizeOf0
  v0 := Tryz.zeroValue0
  t24 := Tryz.underlying42
  a24 := Tryz.isAgg42
  z24 := Tryz.sizeOf42
  v24 := Tryz.zeroValue42
  t26 := Tryz.underlying3
  a26 := Tryz.isAgg3
  z26 := Tryz.sizeOf3
  v26 := Tryz.zeroValue3
  t28 := Tryz.underlying137
  a28 := Tryz.isAgg137
  z28 := Tryz.sizeOf137
  v28 := Tryz.zeroValue137
  i26 := by kernel_rfl }
def Tryz.sortA_ren : Go.Shelf.Ren := ⟨fun | 5 => 294 | 8 => 313 | 7 => 312 | 19 => 331 | 20 => 332 | 10 => 322 | 11 => 323 | 12 => 324 | 13 => 325 | 14 => 326 | 15 => 327 | 16 => 328 | 17 => 329 | 18 => 330 | 30 => 337 | 31 => 338 | 32 => 339 | 33 => 340 | 34 => 341 | 35 => 233 | 40 => 342 | n => n, fun | 23 => 42 | 25 => 3 | 3 => 3 | 32 => 240 | 22 => 42 | 0 => 0 | 44 => 23 | 46 => 46 | 4 => 4 | 36 => 459 | 35 => 458 | 41 => 61 | 5 => 5 | 9 => 9 | 53 => 472 | 57 => 476 | 63 => 478 | 64 => 141 | n => n, fun | n => n⟩
theorem Tryz.sortA : Go.Proofs.SlLaysM.n5 Tryz.prog Tryz.sortA_ren := {
  mixed := by kernel_rfl
  f5 := ⟨Tryz.f294.name, by decide, Tryz.func294.trans (congrArg some (by kernel_rfl))⟩
  f7 := ⟨Tryz.f312.name, by decide, Tryz.func312.trans (congrArg some (by kernel_rfl))⟩
  f8 := Tryz.func313.trans (congrArg some (by kernel_rfl))
  f10 := ⟨Tryz.f322.name, by decide, Tryz.func322.trans (congrArg some (by kernel_rfl))⟩
  f11 := ⟨Tryz.f323.name, by decide, Tryz.func323.trans (congrArg some (by kernel_rfl))⟩
  f12 := ⟨Tryz.f324.name, by decide, Tryz.func324.trans (congrArg some (by kernel_rfl))⟩
  f13 := ⟨Tryz.f325.name, by decide, Tryz.func325.trans (congrArg some (by kernel_rfl))⟩
  f14 := ⟨Tryz.f326.name, by decide, Tryz.func326.trans (congrArg some (by kernel_rfl))⟩
  f15 := ⟨Tryz.f327.name, by decide, Tryz.func327.trans (congrArg some (by kernel_rfl))⟩
  f16 := ⟨Tryz.f328.name, by decide, Tryz.func328.trans (congrArg some (by kernel_rfl))⟩
  f17 := ⟨Tryz.f329.name, by decide, Tryz.func329.trans (congrArg some (by kernel_rfl))⟩
  f18 := ⟨Tryz.f330.name, by decide, Tryz.func330.trans (congrArg some (by kernel_rfl))⟩
  f19 := Tryz.func331.trans (congrArg some (by kernel_rfl))
  f20 := Tryz.func332.trans (congrArg some (by kernel_rfl))
  f30 := ⟨Tryz.f337.name, by decide, Tryz.func337.trans (congrArg some (by kernel_rfl))⟩
  f31 := Tryz.func338.trans (congrArg some (by kernel_rfl))
  f32 := Tryz.func339.trans (congrArg some (by kernel_rfl))
  f33 := ⟨Tryz.f340.name, by decide, Tryz.func340.trans (congrArg some (by kernel_rfl))⟩
  f34 := ⟨Tryz.f341.name, by decide, Tryz.func341.trans (congrArg some (by kernel_rfl))⟩
  f35 := ⟨Tryz.f233.name, by decide, Tryz.func233.trans (congrArg some (by kernel_rfl))⟩
  f40 := ⟨Tryz.f342.name, by decide, Tryz.func342.trans (congrArg some (by kernel_rfl))⟩
  t0 := Tryz.underlying0
  a0 := Tryz.isAgg0
  z0 := Tryz.sizeOf0
  v0 := Tryz.zeroValue0
  t3 := Tryz.underlying3
  a3 := Tryz.isAgg3
  z3 := Tryz.sizeOf3
  v3 := Tryz.zeroValue3
  t4 := Tryz.underlying4
  a4 := Tryz.isAgg4
  z4 := Tryz.sizeOf4
  v4 := Tryz.zeroValue4
  t5 := Tryz.underlying5
  a5 := Tryz.isAgg5
  z5 := Tryz.sizeOf5
  v5 := Tryz.zeroValue5
  t9 := Tryz.underlying9
  a9 := Tryz.isAgg9
  z9 := Tryz.sizeOf9
  v9 := Tryz.zeroValue9
  t22 := Tryz.underlying42
  a22 := Tryz.isAgg42
  z22 := Tryz.sizeOf42
  v22 := Tryz.zeroValue42
  t23 := Tryz.underlying42
  a23 := Tryz.isAgg42
  z23 := Tryz.sizeOf42
  v23 := Tryz.zeroValue42
  t25 := Tryz.underlying3
  a25 := Tryz.isAgg3
  z25 := Tryz.sizeOf3
  v25 := Tryz.zeroValue3
  t32 := Tryz.underlying240
  a32 := Tryz.isAgg240
  z32 := Tryz.sizeOf240
  v32 := Tryz.zeroValue240
  t35 := Tryz.underlying458
  a35 := Tryz.isAgg458
  z35 := Tryz.sizeOf458
  v35 := Tryz.zeroValue458
  t36 := Tryz.underlying459
  a36 := Tryz.isAgg459
  z36 := Tryz.sizeOf459
  v36 := Tryz.zeroValue459
  t41 := Tryz.underlying61
  a41 := Tryz.isAgg61
  z41 := Tryz.sizeOf61
  v41 := Tryz.zeroValue61
  t44 := Tryz.underlying23
  a44 := Tryz.isAgg23
  z44 := Tryz.sizeOf23
  v44 := Tryz.zeroValue23
  t46 := Tryz.underlying46
  a46 := Tryz.isAgg46
  z46 := Tryz.sizeOf46
  v46 := Tryz.zeroValue46
  t53 := Tryz.underlying472
  a53 := Tryz.isAgg472
  z53 := Tryz.sizeOf472
  v53 := Tryz.zeroValue472
  t57 := Tryz.underlying476
  a57 := Tryz.isAgg476
  z57 := Tryz.sizeOf476
  v57 := Tryz.zeroValue476
  t63 := Tryz.underlying478
  a63 := Tryz.isAgg478
  z63 := Tryz.sizeOf478
  v63 := Tryz.zeroValue478
  t64 := Tryz.underlying141
  a64 := Tryz.isAgg141
  z64 := Tryz.sizeOf141
  v64 := Tryz.zeroValue141 }
theorem Tryz.sortsA (m : Nat) : AnyZI.SortsIn Tryz.prog Tryz.sortedA_ren Fence.wide m :=
  ⟨fun blk off cap ss W hH hblk hsz => callsIn_wide.2 (AnyM.slices_Sort_int Tryz.sortA blk off cap ss W hH hblk hsz),
   fun p cap W => callsIn_wide.2 (AnyM.slices_Sort_int_none Tryz.sortA p cap W)⟩
theorem Tryz.sortedOk357 : Dw.SortedOk Tryz.prog 352 357 :=
  ⟨⟨Tryz.f352, _, Tryz.func352, rfl, by decide⟩,
   fun w Bm b es clock ks hBm hm hb hst hkeys hwf hlen => by
    obtain ⟨D0, hown, hperm, hsize⟩ := Dw.ownsMap_of (P := Tryz.prog) Tryz.underlying3 hb hst hkeys hwf hlen
    have hseq := AnyZI.keys_gives (ρ := Tryz.keys353k_ren) { Tryz.keys353k with } Fence.wide 2 trivial rfl (by omega) Bm b es.size D0 w hBm hm hown
    have cS := AnyZI.sorted_in Tryz.sortedA Fence.wide 5 trivial trivial trivial trivial rfl (by omega) (Tryz.sortsA _) (enters_of Tryz.func294 (by kernel_rfl) rfl) 357 #[.pointer (some ⟨Bm, 0, none⟩)] trivial (enters_of Tryz.func357 (by kernel_rfl) rfl) _ _ (by rw [hsize]; unfold maxLen; omega) (by rw [hsize]; omega) _ hseq
    exact (callsIn_wide.1 cS).mono fun e w' ⟨v, ss, he, hS, hrow, hnil, hb⟩ => ⟨v, ss, _, he, hS.trans hperm, hrow, hnil, hb⟩,
   fun w Bm hBm hm => by
    have hseq := AnyZI.keys_gives_nil (ρ := Tryz.keys353k_ren) { Tryz.keys353k with } Fence.wide 2 trivial rfl Bm w hBm hm
    have cS := AnyZI.sorted_in Tryz.sortedA Fence.wide 5 trivial trivial trivial trivial rfl (by omega) (Tryz.sortsA _) (enters_of Tryz.func294 (by kernel_rfl) rfl) 357 #[.pointer (some ⟨Bm, 0, none⟩)] trivial (enters_of Tryz.func357 (by kernel_rfl) rfl) _ 0 (Nat.zero_le _) (by omega) _ hseq
    exact (callsIn_wide.1 cS).mono fun e w' ⟨v, ss, he, hS, hrow, hnil, hb⟩ => ⟨by rw [he, hnil.2 hS], hb⟩⟩
theorem Tryz.sortedOk432 : Dw.SortedOk Tryz.prog 352 432 :=
  ⟨⟨Tryz.f352, _, Tryz.func352, rfl, by decide⟩,
   fun w Bm b es clock ks hBm hm hb hst hkeys hwf hlen => by
    obtain ⟨D0, hown, hperm, hsize⟩ := Dw.ownsMap_of (P := Tryz.prog) Tryz.underlying3 hb hst hkeys hwf hlen
    have hseq := AnyZI.keys_gives (ρ := Tryz.keys427k_ren) { Tryz.keys427k with } Fence.wide 2 trivial rfl (by omega) Bm b es.size D0 w hBm hm hown
    have cS := AnyZI.sorted_in Tryz.sortedA Fence.wide 5 trivial trivial trivial trivial rfl (by omega) (Tryz.sortsA _) (enters_of Tryz.func294 (by kernel_rfl) rfl) 432 #[.pointer (some ⟨Bm, 0, none⟩)] trivial (enters_of Tryz.func432 (by kernel_rfl) rfl) _ _ (by rw [hsize]; unfold maxLen; omega) (by rw [hsize]; omega) _ hseq
    exact (callsIn_wide.1 cS).mono fun e w' ⟨v, ss, he, hS, hrow, hnil, hb⟩ => ⟨v, ss, _, he, hS.trans hperm, hrow, hnil, hb⟩,
   fun w Bm hBm hm => by
    have hseq := AnyZI.keys_gives_nil (ρ := Tryz.keys427k_ren) { Tryz.keys427k with } Fence.wide 2 trivial rfl Bm w hBm hm
    have cS := AnyZI.sorted_in Tryz.sortedA Fence.wide 5 trivial trivial trivial trivial rfl (by omega) (Tryz.sortsA _) (enters_of Tryz.func294 (by kernel_rfl) rfl) 432 #[.pointer (some ⟨Bm, 0, none⟩)] trivial (enters_of Tryz.func432 (by kernel_rfl) rfl) _ 0 (Nat.zero_le _) (by omega) _ hseq
    exact (callsIn_wide.1 cS).mono fun e w' ⟨v, ss, he, hS, hrow, hnil, hb⟩ => ⟨by rw [he, hnil.2 hS], hb⟩⟩
theorem Tryz.sortOrc {ρ : Dw.Val} {w : World} : Dw.OrcOk Tryz.prog ρ w (Dw.sortedOrc 352 [357, 432]) := Dw.sortedOrc_ok fun g hg => by
  simp only [List.mem_cons, List.not_mem_nil, or_false] at hg
  rcases hg with rfl | rfl
  · exact Tryz.sortedOk357
  · exact Tryz.sortedOk432
end Go.Proofs
