/-
  The contract of 'slices.Sorted' at the iterators that 'maps.Keys' hands back for maps with int keys, at this dump: the shelf's contracts, laid in plain words; then as the abstract machine's oracle takes it. No condition.
-/
import Derived.Test.YtfpklobgecgnpaaGreatDwOrc
import Derived.Test.YtfpklobgecgnpaaGreatProg
import Derived.Shelf.SlIterI.Nil
import Derived.Shelf.SlIterI.Sorted
import Derived.Shelf.SortM.Plain
import Derived.Shelf.SortM.SortNone
import Derived.KernelRfl
namespace Go.Proofs
open Go.Shelf Go.RowKit Go.Maps Go.Sort
def Tryz.keys85k_ren : Go.Shelf.Ren := ⟨fun | 7 => 85 | 10 => 135 | n => n, fun | 23 => 137 | 26 => 3 | 3 => 146 | 28 => 143 | 0 => 0 | 27 => 142 | 33 => 106 | 4 => 4 | n => n, fun | n => n⟩
theorem Tryz.keys85k : Go.Proofs.SlLaysZI.n7 Tryz.prog Tryz.keys85k_ren := {
  mixed := by kernel_rfl
  f7 := ⟨Tryz.f85.name, by decide, Tryz.func85.trans (congrArg some (by kernel_rfl))⟩
  f10 := ⟨Tryz.f135.name, by decide, Tryz.func135.trans (congrArg some (by kernel_rfl))⟩
  t0 := Tryz.underlying0
  a0 := Tryz.isAgg0
  z0 := Tryz.sizeOf0
  v0 := Tryz.zeroValue0
  t4 := Tryz.underlying4
  a4 := Tryz.isAgg4
  z4 := Tryz.sizeOf4
  v4 := Tryz.zeroValue4
  t23 := Tryz.underlying137
  a23 := Tryz.isAgg137
  z23 := Tryz.sizeOf137
  v23 := Tryz.zeroValue137
  t26 := Tryz.underlying3
  a26 := Tryz.isAgg3
  z26 := Tryz.sizeOf3
  v26 := Tryz.zeroValue3
  t27 := Tryz.underlying142
  a27 := Tryz.isAgg142
  z27 := Tryz.sizeOf142
  v27 := Tryz.zeroValue142
  t28 := Tryz.underlying143
  a28 := Tryz.isAgg143
  z28 := Tryz.sizeOf143
  v28 := Tryz.zeroValue143
  t33 := Tryz.underlying106
  a33 := Tryz.isAgg106
  z33 := Tryz.sizeOf106
  v33 := Tryz.zeroValue106 }
def Tryz.sortedA_ren : Go.Shelf.Ren := ⟨fun | 6 => 84 | 8 => 134 | 9 => 99 | 11 => 187 | 13 => 157 | 12 => 156 | 23 => 203 | 24 => 204 | 14 => 194 | 15 => 195 | 16 => 196 | 17 => 197 | 18 => 198 | 19 => 199 | 20 => 200 | 21 => 201 | 22 => 202 | 25 => 211 | 26 => 212 | 27 => 213 | 28 => 214 | 29 => 215 | 30 => 216 | 31 => 221 | n => n, fun | 26 => 3 | 28 => 143 | 24 => 79 | 0 => 0 | 3 => 3 | 37 => 86 | 48 => 39 | 50 => 26 | 4 => 4 | 40 => 265 | 39 => 264 | 45 => 270 | 5 => 5 | 9 => 9 | 51 => 281 | 55 => 285 | 57 => 290 | 58 => 291 | 33 => 106 | n => n, fun | n => n⟩
theorem Tryz.sortedA : Go.Proofs.SlLaysZI.n6 Tryz.prog Tryz.sortedA_ren := {
  mixed := by kernel_rfl
  f6 := ⟨Tryz.f84.name, by decide, Tryz.func84.trans (congrArg some (by kernel_rfl))⟩
  f8 := ⟨Tryz.f134.name, by decide, Tryz.func134.trans (congrArg some (by kernel_rfl))⟩
  f11 := ⟨Tryz.f187.name, by decide, Tryz.func187.trans (congrArg some (by kernel_rfl))⟩
  t0 := Tryz.underlying0
  a0 := Tryz.isAgg0
  z0 := Tryz.sizeOf0
  v0 := Tryz.zeroValue0
  t24 := Tryz.underlying79
  a24 := Tryz.isAgg79
  z24 := Tryz.sizeOf79
  v24 := Tryz.zeroValue79
  t26 := Tryz.underlying3
  a26 := Tryz.isAgg3
  z26 := Tryz.sizeOf3
  v26 := Tryz.zeroValue3
  t28 := Tryz.underlying143
  a28 := Tryz.isAgg143
  z28 := Tryz.sizeOf143
  v28 := Tryz.zeroValue143
  i26 := by kernel_rfl }
def Tryz.sortA_ren : Go.Shelf.Ren := ⟨fun | 5 => 99 | 8 => 157 | 7 => 156 | 19 => 203 | 20 => 204 | 10 => 194 | 11 => 195 | 12 => 196 | 13 => 197 | 14 => 198 | 15 => 199 | 16 => 200 | 17 => 201 | 18 => 202 | 30 => 211 | 31 => 212 | 32 => 213 | 33 => 214 | 34 => 215 | 35 => 216 | 40 => 221 | n => n, fun | 23 => 79 | 25 => 3 | 3 => 3 | 32 => 86 | 22 => 79 | 0 => 0 | 44 => 39 | 46 => 26 | 4 => 4 | 36 => 265 | 35 => 264 | 41 => 270 | 5 => 5 | 9 => 9 | 53 => 281 | 57 => 285 | 63 => 290 | 64 => 291 | n => n, fun | n => n⟩
theorem Tryz.sortA : Go.Proofs.SlLaysM.n5 Tryz.prog Tryz.sortA_ren := {
  mixed := by kernel_rfl
  f5 := ⟨Tryz.f99.name, by decide, Tryz.func99.trans (congrArg some (by kernel_rfl))⟩
  f7 := ⟨Tryz.f156.name, by decide, Tryz.func156.trans (congrArg some (by kernel_rfl))⟩
  f8 := Tryz.func157.trans (congrArg some (by kernel_rfl))
  f10 := ⟨Tryz.f194.name, by decide, Tryz.func194.trans (congrArg some (by kernel_rfl))⟩
  f11 := ⟨Tryz.f195.name, by decide, Tryz.func195.trans (congrArg some (by kernel_rfl))⟩
  f12 := ⟨Tryz.f196.name, by decide, Tryz.func196.trans (congrArg some (by kernel_rfl))⟩
  f13 := ⟨Tryz.f197.name, by decide, Tryz.func197.trans (congrArg some (by kernel_rfl))⟩
  f14 := ⟨Tryz.f198.name, by decide, Tryz.func198.trans (congrArg some (by kernel_rfl))⟩
  f15 := ⟨Tryz.f199.name, by decide, Tryz.func199.trans (congrArg some (by kernel_rfl))⟩
  f16 := ⟨Tryz.f200.name, by decide, Tryz.func200.trans (congrArg some (by kernel_rfl))⟩
  f17 := ⟨Tryz.f201.name, by decide, Tryz.func201.trans (congrArg some (by kernel_rfl))⟩
  f18 := ⟨Tryz.f202.name, by decide, Tryz.func202.trans (congrArg some (by kernel_rfl))⟩
  f19 := Tryz.func203.trans (congrArg some (by kernel_rfl))
  f20 := Tryz.func204.trans (congrArg some (by kernel_rfl))
  f30 := ⟨Tryz.f211.name, by decide, Tryz.func211.trans (congrArg some (by kernel_rfl))⟩
  f31 := Tryz.func212.trans (congrArg some (by kernel_rfl))
  f32 := Tryz.func213.trans (congrArg some (by kernel_rfl))
  f33 := ⟨Tryz.f214.name, by decide, Tryz.func214.trans (congrArg some (by kernel_rfl))⟩
  f34 := ⟨Tryz.f215.name, by decide, Tryz.func215.trans (congrArg some (by kernel_rfl))⟩
  f35 := ⟨Tryz.f216.name, by decide, Tryz.func216.trans (congrArg some (by kernel_rfl))⟩
  f40 := ⟨Tryz.f221.name, by decide, Tryz.func221.trans (congrArg some (by kernel_rfl))⟩
  t0 := Tryz.underlying0
  a0 := Tryz.isAgg0
  z0 := Tryz.sizeOf0
  v0 := Tryz.zeroValue0
  t3 := Tryz.underlying3
  a3 := Tryz.isAgg3
  z3 := Tryz.sizeOf3
  v3 := Tryz.zeroValue3
  t4 := Tryz.underlying4
  a4 := Tryz.isAgg4
  z4 := Tryz.sizeOf4
  v4 := Tryz.zeroValue4
  t5 := Tryz.underlying5
  a5 := Tryz.isAgg5
  z5 := Tryz.sizeOf5
  v5 := Tryz.zeroValue5
  t9 := Tryz.underlying9
  a9 := Tryz.isAgg9
  z9 := Tryz.sizeOf9
  v9 := Tryz.zeroValue9
  t22 := Tryz.underlying79
  a22 := Tryz.isAgg79
  z22 := Tryz.sizeOf79
  v22 := Tryz.zeroValue79
  t23 := Tryz.underlying79
  a23 := Tryz.isAgg79
  z23 := Tryz.sizeOf79
  v23 := Tryz.zeroValue79
  t25 := Tryz.underlying3
  a25 := Tryz.isAgg3
  z25 := Tryz.sizeOf3
  v25 := Tryz.zeroValue3
  t32 := Tryz.underlying86
  a32 := Tryz.isAgg86
  z32 := Tryz.sizeOf86
  v32 := Tryz.zeroValue86
  t35 := Tryz.underlying264
  a35 := Tryz.isAgg264
  z35 := Tryz.sizeOf264
  v35 := Tryz.zeroValue264
  t36 := Tryz.underlying265
  a36 := Tryz.isAgg265
  z36 := Tryz.sizeOf265
  v36 := Tryz.zeroValue265
  t41 := Tryz.underlying270
  a41 := Tryz.isAgg270
  z41 := Tryz.sizeOf270
  v41 := Tryz.zeroValue270
  t44 := Tryz.underlying39
  a44 := Tryz.isAgg39
  z44 := Tryz.sizeOf39
  v44 := Tryz.zeroValue39
  t46 := Tryz.underlying26
  a46 := Tryz.isAgg26
  z46 := Tryz.sizeOf26
  v46 := Tryz.zeroValue26
  t53 := Tryz.underlying281
  a53 := Tryz.isAgg281
  z53 := Tryz.sizeOf281
  v53 := Tryz.zeroValue281
  t57 := Tryz.underlying285
  a57 := Tryz.isAgg285
  z57 := Tryz.sizeOf285
  v57 := Tryz.zeroValue285
  t63 := Tryz.underlying290
  a63 := Tryz.isAgg290
  z63 := Tryz.sizeOf290
  v63 := Tryz.zeroValue290
  t64 := Tryz.underlying291
  a64 := Tryz.isAgg291
  z64 := Tryz.sizeOf291
  v64 := Tryz.zeroValue291 }
theorem Tryz.sortsA (m : Nat) : AnyZI.SortsIn Tryz.prog Tryz.sortedA_ren Fence.wide m :=
  ⟨fun blk off cap ss W hH hblk hsz => callsIn_wide.2 (AnyM.slices_Sort_int Tryz.sortA blk off cap ss W hH hblk hsz),
   fun p cap W => callsIn_wide.2 (AnyM.slices_Sort_int_none Tryz.sortA p cap W)⟩
theorem Tryz.sortedOk135 : Dw.SortedOk Tryz.prog 84 135 :=
  ⟨⟨Tryz.f84, _, Tryz.func84, rfl, by decide⟩,
   fun w Bm b es clock ks hBm hm hb hst hkeys hwf hlen => by
    obtain ⟨D0, hown, hperm, hsize⟩ := Dw.ownsMap_of (P := Tryz.prog) Tryz.underlying3 hb hst hkeys hwf hlen
    have hseq := AnyZI.keys_gives (ρ := Tryz.keys85k_ren) { Tryz.keys85k with } Fence.wide 2 trivial rfl (by omega) Bm b es.size D0 w hBm hm hown
    have cS := AnyZI.sorted_in Tryz.sortedA Fence.wide 5 trivial trivial trivial trivial rfl (by omega) (Tryz.sortsA _) (enters_of Tryz.func99 (by kernel_rfl) rfl) 135 #[.pointer (some ⟨Bm, 0, none⟩)] trivial (enters_of Tryz.func135 (by kernel_rfl) rfl) _ _ (by rw [hsize]; unfold maxLen; omega) (by rw [hsize]; omega) _ hseq
    exact (callsIn_wide.1 cS).mono fun e w' ⟨v, ss, he, hS, hrow, hnil, hb⟩ => ⟨v, ss, _, he, hS.trans hperm, hrow, hnil, hb⟩,
   fun w Bm hBm hm => by
    have hseq := AnyZI.keys_gives_nil (ρ := Tryz.keys85k_ren) { Tryz.keys85k with } Fence.wide 2 trivial rfl Bm w hBm hm
    have cS := AnyZI.sorted_in Tryz.sortedA Fence.wide 5 trivial trivial trivial trivial rfl (by omega) (Tryz.sortsA _) (enters_of Tryz.func99 (by kernel_rfl) rfl) 135 #[.pointer (some ⟨Bm, 0, none⟩)] trivial (enters_of Tryz.func135 (by kernel_rfl) rfl) _ 0 (Nat.zero_le _) (by omega) _ hseq
    exact (callsIn_wide.1 cS).mono fun e w' ⟨v, ss, he, hS, hrow, hnil, hb⟩ => ⟨by rw [he, hnil.2 hS], hb⟩⟩
theorem Tryz.sortOrc {ρ : Dw.Val} {w : World} : Dw.OrcOk Tryz.prog ρ w (Dw.sortedOrc 84 [135]) := Dw.sortedOrc_ok fun g hg => by
  simp only [List.mem_cons, List.not_mem_nil, or_false] at hg
  rcases hg with rfl
  · exact Tryz.sortedOk135
end Go.Proofs
