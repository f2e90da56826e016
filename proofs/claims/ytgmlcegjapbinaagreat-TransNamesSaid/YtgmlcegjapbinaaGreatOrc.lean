/-
  The contract of 'slices.Sorted' at the iterators that 'maps.Keys' hands back for maps with int keys, at this dump: the shelf's contracts, laid in plain words; then as the abstract machine's oracle takes it. No condition.
-/
import Derived.Test.YtgmlcegjapbinaaGreatDwOrc
import Derived.Test.YtgmlcegjapbinaaGreatProg
import Derived.Shelf.SlIterI.Nil
import Derived.Shelf.SlIterI.Sorted
import Derived.Shelf.SortM.Plain
import Derived.Shelf.SortM.SortNone
import Derived.KernelRfl
namespace Go.Proofs
open Go.Shelf Go.RowKit Go.Maps Go.Sort
def Tryz.keys299k_ren : Go.Shelf.Ren := ⟨fun | 7 => 299 | 10 => 304 | n => n, fun | 23 => 214 | 26 => 3 | 3 => 393 | 28 => 161 | 0 => 0 | 27 => 160 | 33 => 47 | 4 => 4 | n => n, fun | n => n⟩
theorem Tryz.keys299k : Go.Proofs.SlLaysZI.n7 Tryz.prog Tryz.keys299k_ren := {
  mixed := by kernel_rfl
  f7 := ⟨Tryz.f299.name, by decide, Tryz.func299.trans (congrArg some (by kernel_rfl))⟩
  f10 := ⟨Tryz.f304.name, by decide, Tryz.func304.trans (congrArg some (by kernel_rfl))⟩
  t0 := Tryz.underlying0
  a0 := Tryz.isAgg0
  z0 := Tryz.sizeOf0
  v0 := Tryz.zeroValue0
  t4 := Tryz.underlying4
  a4 := Tryz.isAgg4
  z4 := Tryz.sizeOf4
  v4 := Tryz.zeroValue4
  t23 := Tryz.underlying214
  a23 := Tryz.isAgg214
  z23 := Tryz.sizeOf214
  v23 := Tryz.zeroValue214
  t26 := Tryz.underlying3
  a26 := Tryz.isAgg3
  z26 := Tryz.sizeOf3
  v26 := Tryz.zeroValue3
  t27 := Tryz.underlying160
  a27 := Tryz.isAgg160
  z27 := Tryz.sizeOf160
  v27 := Tryz.zeroValue160
  t28 := Tryz.underlying161
  a28 := Tryz.isAgg161
  z28 := Tryz.sizeOf161
  v28 := Tryz.zeroValue161
  t33 := Tryz.underlying47
  a33 := Tryz.isAgg47
  z33 := Tryz.sizeOf47
  v33 := Tryz.zeroValue47 }
def Tryz.keys374k_ren : Go.Shelf.Ren := ⟨fun | 7 => 374 | 10 => 379 | n => n, fun | 23 => 228 | 26 => 3 | 3 => 50 | 28 => 161 | 0 => 0 | 27 => 160 | 33 => 47 | 4 => 4 | n => n, fun | n => n⟩
theorem Tryz.keys374k : Go.Proofs.SlLaysZI.n7 Tryz.prog Tryz.keys374k_ren := {
  mixed := by kernel_rfl
  f7 := ⟨Tryz.f374.name, by decide, Tryz.func374.trans (congrArg some (by kernel_rfl))⟩
  f10 := ⟨Tryz.f379.name, by decide, Tryz.func379.trans (congrArg some (by kernel_rfl))⟩
  t0 := Tryz.underlying0
  a0 := Tryz.isAgg0
  z0 := Tryz.sizeOf0
  v0 := Tryz.zeroValue0
  t4 := Tryz.underlying4
  a4 := Tryz.isAgg4
  z4 := Tryz.sizeOf4
  v4 := Tryz.zeroValue4
  t23 := Tryz.underlying228
  a23 := Tryz.isAgg228
  z23 := Tryz.sizeOf228
  v23 := Tryz.zeroValue228
  t26 := Tryz.underlying3
  a26 := Tryz.isAgg3
  z26 := Tryz.sizeOf3
  v26 := Tryz.zeroValue3
  t27 := Tryz.underlying160
  a27 := Tryz.isAgg160
  z27 := Tryz.sizeOf160
  v27 := Tryz.zeroValue160
  t28 := Tryz.underlying161
  a28 := Tryz.isAgg161
  z28 := Tryz.sizeOf161
  v28 := Tryz.zeroValue161
  t33 := Tryz.underlying47
  a33 := Tryz.isAgg47
  z33 := Tryz.sizeOf47
  v33 := Tryz.zeroValue47 }
def Tryz.sortedA_ren : Go.Shelf.Ren := ⟨fun | 6 => 298 | 8 => 303 | 9 => 236 | 11 => 313 | 13 => 258 | 12 => 257 | 23 => 277 | 24 => 278 | 14 => 268 | 15 => 269 | 16 => 270 | 17 => 271 | 18 => 272 | 19 => 273 | 20 => 274 | 21 => 275 | 22 => 276 | 25 => 283 | 26 => 284 | 27 => 285 | 28 => 286 | 29 => 287 | 30 => 185 | 31 => 288 | n => n, fun | 26 => 3 | 28 => 161 | 24 => 48 | 0 => 0 | 3 => 3 | 37 => 183 | 48 => 43 | 50 => 29 | 4 => 4 | 40 => 369 | 39 => 368 | 45 => 80 | 5 => 5 | 9 => 9 | 51 => 382 | 55 => 386 | 57 => 388 | 58 => 165 | 33 => 47 | n => n, fun | n => n⟩
theorem Tryz.sortedA : Go.Proofs.SlLaysZI.n6 Tryz.prog Tryz.sortedA_ren := {
  mixed := by kernel_rfl
  f6 := ⟨Tryz.f298.name, by decide, Tryz.func298.trans (congrArg some (by kernel_rfl))⟩
  f8 := ⟨Tryz.f303.name, by decide, Tryz.func303.trans (congrArg some (by kernel_rfl))⟩
  f11 := ⟨Tryz.f313.name, by decide, Tryz.func313.trans (congrArg some (by kernel_rfl))⟩
  t0 := Tryz.underlying0
  a0 := Tryz.isAgg0
  z0 := Tryz.sizeOf0
  v0 := Tryz.zeroValue0
  t24 := Tryz.underlying48
  a24 := Tryz.isAgg48
  z24 := Tryz.sizeOf48
  v24 := Tryz.zeroValue48
  t26 := Tryz.underlying3
  a26 := Tryz.isAgg3
  z26 := Tryz.sizeOf3
  v26 := Tryz.zeroValue3
  t28 := Tryz.underlying161
  a28 := Tryz.isAgg161
  z28 := Tryz.sizeOf161
  v28 := Tryz.zeroValue161
  i26 := by kernel_rfl }
def Tryz.sortA_ren : Go.Shelf.Ren := ⟨fun | 5 => 236 | 8 => 258 | 7 => 257 | 19 => 277 | 20 => 278 | 10 => 268 | 11 => 269 | 12 => 270 | 13 => 271 | 14 => 272 | 15 => 273 | 16 => 274 | 17 => 275 | 18 => 276 | 30 => 283 | 31 => 284 | 32 => 285 | 33 => 286 | 34 => 287 | 35 => 185 | 40 => 288 | n => n, fun | 23 => 48 | 25 => 3 | 3 => 3 | 32 => 183 | 22 => 48 | 0 => 0 | 44 => 43 | 46 => 29 | 4 => 4 | 36 => 369 | 35 => 368 | 41 => 80 | 5 => 5 | 9 => 9 | 53 => 382 | 57 => 386 | 63 => 388 | 64 => 165 | n => n, fun | n => n⟩
theorem Tryz.sortA : Go.Proofs.SlLaysM.n5 Tryz.prog Tryz.sortA_ren := {
  mixed := by kernel_rfl
  f5 := ⟨Tryz.f236.name, by decide, Tryz.func236.trans (congrArg some (by kernel_rfl))⟩
  f7 := ⟨Tryz.f257.name, by decide, Tryz.func257.trans (congrArg some (by kernel_rfl))⟩
  f8 := Tryz.func258.trans (congrArg some (by kernel_rfl))
  f10 := ⟨Tryz.f268.name, by decide, Tryz.func268.trans (congrArg some (by kernel_rfl))⟩
  f11 := ⟨Tryz.f269.name, by decide, Tryz.func269.trans (congrArg some (by kernel_rfl))⟩
  f12 := ⟨Tryz.f270.name, by decide, Tryz.func270.trans (congrArg some (by kernel_rfl))⟩
  f13 := ⟨Tryz.f271.name, by decide, Tryz.func271.trans (congrArg some (by kernel_rfl))⟩
  f14 := ⟨Tryz.f272.name, by decide, Tryz.func272.trans (congrArg some (by kernel_rfl))⟩
  f15 := ⟨Tryz.f273.name, by decide, Tryz.func273.trans (congrArg some (by kernel_rfl))⟩
  f16 := ⟨Tryz.f274.name, by decide, Tryz.func274.trans (congrArg some (by kernel_rfl))⟩
  f17 := ⟨Tryz.f275.name, by decide, Tryz.func275.trans (congrArg some (by kernel_rfl))⟩
  f18 := ⟨Tryz.f276.name, by decide, Tryz.func276.trans (congrArg some (by kernel_rfl))⟩
  f19 := Tryz.func277.trans (congrArg some (by kernel_rfl))
  f20 := Tryz.func278.trans (congrArg some (by kernel_rfl))
  f30 := ⟨Tryz.f283.name, by decide, Tryz.func283.trans (congrArg some (by kernel_rfl))⟩
  f31 := Tryz.func284.trans (congrArg some (by kernel_rfl))
  f32 := Tryz.func285.trans (congrArg some (by kernel_rfl))
  f33 := ⟨Tryz.f286.name, by decide, Tryz.func286.trans (congrArg some (by kernel_rfl))⟩
  f34 := ⟨Tryz.f287.name, by decide, Tryz.func287.trans (congrArg some (by kernel_rfl))⟩
  f35 := ⟨Tryz.f185.name, by decide, Tryz.func185.trans (congrArg some (by kernel_rfl))⟩
  f40 := ⟨Tryz.f288.name, by decide, Tryz.func288.trans (congrArg some (by kernel_rfl))⟩
  t0 := Tryz.underlying0
  a0 := Tryz.isAgg0
  z0 := Tryz.sizeOf0
  v0 := Tryz.zeroValue0
  t3 := Tryz.underlying3
  a3 := Tryz.isAgg3
  z3 := Tryz.sizeOf3
  v3 := Tryz.zeroValue3
  t4 := Tryz.underlying4
  a4 := Tryz.isAgg4
  z4 := Tryz.sizeOf4
  v4 := Tryz.zeroValue4
  t5 := Tryz.underlying5
  a5 := Tryz.isAgg5
  z5 := Tryz.sizeOf5
  v5 := Tryz.zeroValue5
  t9 := Tryz.underlying9
  a9 := Tryz.isAgg9
  z9 := Tryz.sizeOf9
  v9 := Tryz.zeroValue9
  t22 := Tryz.underlying48
  a22 := Tryz.isAgg48
  z22 := Tryz.sizeOf48
  v22 := Tryz.zeroValue48
  t23 := Tryz.underlying48
  a23 := Tryz.isAgg48
  z23 := Tryz.sizeOf48
  v23 := Tryz.zeroValue48
  t25 := Tryz.underlying3
  a25 := Tryz.isAgg3
  z25 := Tryz.sizeOf3
  v25 := Tryz.zeroValue3
  t32 := Tryz.underlying183
  a32 := Tryz.isAgg183
  z32 := Tryz.sizeOf183
  v32 := Tryz.zeroValue183
  t35 := Tryz.underlying368
  a35 := Tryz.isAgg368
  z35 := Tryz.sizeOf368
  v35 := Tryz.zeroValue368
  t36 := Tryz.underlying369
  a36 := Tryz.isAgg369
  z36 := Tryz.sizeOf369
  v36 := Tryz.zeroValue369
  t41 := Tryz.underlying80
  a41 := Tryz.isAgg80
  z41 := Tryz.sizeOf80
  v41 := Tryz.zeroValue80
  t44 := Tryz.underlying43
  a44 := Tryz.isAgg43
  z44 := Tryz.sizeOf43
  v44 := Tryz.zeroValue43
  t46 := Tryz.underlying29
  a46 := Tryz.isAgg29
  z46 := Tryz.sizeOf29
  v46 := Tryz.zeroValue29
  t53 := Tryz.underlying382
  a53 := Tryz.isAgg382
  z53 := Tryz.sizeOf382
  v53 := Tryz.zeroValue382
  t57 := Tryz.underlying386
  a57 := Tryz.isAgg386
  z57 := Tryz.sizeOf386
  v57 := Tryz.zeroValue386
  t63 := Tryz.underlying388
  a63 := Tryz.isAgg388
  z63 := Tryz.sizeOf388
  v63 := Tryz.zeroValue388
  t64 := Tryz.underlying165
  a64 := Tryz.isAgg165
  z64 := Tryz.sizeOf165
  v64 := Tryz.zeroValue165 }
theorem Tryz.sortsA (m : Nat) : AnyZI.SortsIn Tryz.prog Tryz.sortedA_ren Fence.wide m :=
  ⟨fun blk off cap ss W hH hblk hsz => callsIn_wide.2 (AnyM.slices_Sort_int Tryz.sortA blk off cap ss W hH hblk hsz),
   fun p cap W => callsIn_wide.2 (AnyM.slices_Sort_int_none Tryz.sortA p cap W)⟩
theorem Tryz.sortedOk304 : Dw.SortedOk Tryz.prog 298 304 :=
  ⟨⟨Tryz.f298, _, Tryz.func298, rfl, by decide⟩,
   fun w Bm b es clock ks hBm hm hb hst hkeys hwf hlen => by
    obtain ⟨D0, hown, hperm, hsize⟩ := Dw.ownsMap_of (P := Tryz.prog) Tryz.underlying3 hb hst hkeys hwf hlen
    have hseq := AnyZI.keys_gives (ρ := Tryz.keys299k_ren) { Tryz.keys299k with } Fence.wide 2 trivial rfl (by omega) Bm b es.size D0 w hBm hm hown
    have cS := AnyZI.sorted_in Tryz.sortedA Fence.wide 5 trivial trivial trivial trivial rfl (by omega) (Tryz.sortsA _) (enters_of Tryz.func236 (by kernel_rfl) rfl) 304 #[.pointer (some ⟨Bm, 0, none⟩)] trivial (enters_of Tryz.func304 (by kernel_rfl) rfl) _ _ (by rw [hsize]; unfold maxLen; omega) (by rw [hsize]; omega) _ hseq
    exact (callsIn_wide.1 cS).mono fun e w' ⟨v, ss, he, hS, hrow, hnil, hb⟩ => ⟨v, ss, _, he, hS.trans hperm, hrow, hnil, hb⟩,
   fun w Bm hBm hm => by
    have hseq := AnyZI.keys_gives_nil (ρ := Tryz.keys299k_ren) { Tryz.keys299k with } Fence.wide 2 trivial rfl Bm w hBm hm
    have cS := AnyZI.sorted_in Tryz.sortedA Fence.wide 5 trivial trivial trivial trivial rfl (by omega) (Tryz.sortsA _) (enters_of Tryz.func236 (by kernel_rfl) rfl) 304 #[.pointer (some ⟨Bm, 0, none⟩)] trivial (enters_of Tryz.func304 (by kernel_rfl) rfl) _ 0 (Nat.zero_le _) (by omega) _ hseq
    exact (callsIn_wide.1 cS).mono fun e w' ⟨v, ss, he, hS, hrow, hnil, hb⟩ => ⟨by rw [he, hnil.2 hS], hb⟩⟩
theorem Tryz.sortedOk379 : Dw.SortedOk Tryz.prog 298 379 :=
  ⟨⟨Tryz.f298, _, Tryz.func298, rfl, by decide⟩,
   fun w Bm b es clock ks hBm hm hb hst hkeys hwf hlen => by
    obtain ⟨D0, hown, hperm, hsize⟩ := Dw.ownsMap_of (P := Tryz.prog) Tryz.underlying3 hb hst hkeys hwf hlen
    have hseq := AnyZI.keys_gives (ρ := Tryz.keys374k_ren) { Tryz.keys374k with } Fence.wide 2 trivial rfl (by omega) Bm b es.size D0 w hBm hm hown
    have cS := AnyZI.sorted_in Tryz.sortedA Fence.wide 5 trivial trivial trivial trivial rfl (by omega) (Tryz.sortsA _) (enters_of Tryz.func236 (by kernel_rfl) rfl) 379 #[.pointer (some ⟨Bm, 0, none⟩)] trivial (enters_of Tryz.func379 (by kernel_rfl) rfl) _ _ (by rw [hsize]; unfold maxLen; omega) (by rw [hsize]; omega) _ hseq
    exact (callsIn_wide.1 cS).mono fun e w' ⟨v, ss, he, hS, hrow, hnil, hb⟩ => ⟨v, ss, _, he, hS.trans hperm, hrow, hnil, hb⟩,
   fun w Bm hBm hm => by
    have hseq := AnyZI.keys_gives_nil (ρ := Tryz.keys374k_ren) { Tryz.keys374k with } Fence.wide 2 trivial rfl Bm w hBm hm
    have cS := AnyZI.sorted_in Tryz.sortedA Fence.wide 5 trivial trivial trivial trivial rfl (by omega) (Tryz.sortsA _) (enters_of Tryz.func236 (by kernel_rfl) rfl) 379 #[.pointer (some ⟨Bm, 0, none⟩)] trivial (enters_of Tryz.func379 (by kernel_rfl) rfl) _ 0 (Nat.zero_le _) (by omega) _ hseq
    exact (callsIn_wide.1 cS).mono fun e w' ⟨v, ss, he, hS, hrow, hnil, hb⟩ => ⟨by rw [he, hnil.2 hS], hb⟩⟩
theorem Tryz.sortOrc {ρ : Dw.Val} {w : World} : Dw.OrcOk Tryz.prog ρ w (Dw.sortedOrc 298 [304, 379]) := Dw.sortedOrc_ok fun g hg => by
  simp only [List.mem_cons, List.not_mem_nil, or_false] at hg
  rcases hg with rfl | rfl
  · exact Tryz.sortedOk304
  · exact Tryz.sortedOk379
end Go.Proofs
