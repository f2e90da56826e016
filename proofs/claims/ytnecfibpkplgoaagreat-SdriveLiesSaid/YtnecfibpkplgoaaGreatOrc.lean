/-
  The contract of 'slices.Sorted' at the iterators that 'maps.Keys' hands back for maps with int keys, at this dump: the shelf's contracts, laid in plain words; then as the abstract machine's oracle takes it. No condition.
-/
import Derived.Test.YtnecfibpkplgoaaGreatDwOrc
import Derived.Test.YtnecfibpkplgoaaGreatProg
import Derived.Shelf.SlIterI.Nil
import Derived.Shelf.SlIterI.Sorted
import Derived.Shelf.SortM.Plain
import Derived.Shelf.SortM.SortNone
import Derived.KernelRfl
namespace Go.Proofs
open Go.Shelf Go.RowKit Go.Maps Go.Sort
def Tryz.keys98k_ren : Go.Shelf.Ren := ⟨fun | 7 => 98 | 10 => 162 | n => n, fun | 23 => 120 | 26 => 3 | 3 => 42 | 28 => 143 | 0 => 0 | 27 => 142 | 33 => 138 | 4 => 4 | n => n, fun | n => n⟩
theorem Tryz.keys98k : Go.Proofs.SlLaysZI.n7 Tryz.prog Tryz.keys98k_ren := {
  mixed := by kernel_rfl
  f7 := ⟨Tryz.f98.name, by decide, Tryz.func98.trans (congrArg some (by kernel_rfl))⟩
  f10 := ⟨Tryz.f162.name, by decide, Tryz.func162.trans (congrArg some (by kernel_rfl))⟩
  t0 := Tryz.underlying0
  a0 := Tryz.isAgg0
  z0 := Tryz.sizeOf0
  v0 := Tryz.zeroValue0
  t4 := Tryz.underlying4
  a4 := Tryz.isAgg4
  z4 := Tryz.sizeOf4
  v4 := Tryz.zeroValue4
  t23 := Tryz.underlying120
  a23 := Tryz.isAgg120
  z23 := Tryz.sizeOf120
  v23 := Tryz.zeroValue120
  t26 := Tryz.underlying3
  a26 := Tryz.isAgg3
  z26 := Tryz.sizeOf3
  v26 := Tryz.zeroValue3
  t27 := Tryz.underlying142
  a27 := Tryz.isAgg142
  z27 := Tryz.sizeOf142
  v27 := Tryz.zeroValue142
  t28 := Tryz.underlying143
  a28 := Tryz.isAgg143
  z28 := Tryz.sizeOf143
  v28 := Tryz.zeroValue143
  t33 := Tryz.underlying138
  a33 := Tryz.isAgg138
  z33 := Tryz.sizeOf138
  v33 := Tryz.zeroValue138 }
def Tryz.keys107k_ren : Go.Shelf.Ren := ⟨fun | 7 => 107 | 10 => 173 | n => n, fun | 23 => 145 | 26 => 3 | 3 => 152 | 28 => 143 | 0 => 0 | 27 => 142 | 33 => 138 | 4 => 4 | n => n, fun | n => n⟩
theorem Tryz.keys107k : Go.Proofs.SlLaysZI.n7 Tryz.prog Tryz.keys107k_ren := {
  mixed := by kernel_rfl
  f7 := ⟨Tryz.f107.name, by decide, Tryz.func107.trans (congrArg some (by kernel_rfl))⟩
  f10 := ⟨Tryz.f173.name, by decide, Tryz.func173.trans (congrArg some (by kernel_rfl))⟩
  t0 := Tryz.underlying0
  a0 := Tryz.isAgg0
  z0 := Tryz.sizeOf0
  v0 := Tryz.zeroValue0
  t4 := Tryz.underlying4
  a4 := Tryz.isAgg4
  z4 := Tryz.sizeOf4
  v4 := Tryz.zeroValue4
  t23 := Tryz.underlying145
  a23 := Tryz.isAgg145
  z23 := Tryz.sizeOf145
  v23 := Tryz.zeroValue145
  t26 := Tryz.underlying3
  a26 := Tryz.isAgg3
  z26 := Tryz.sizeOf3
  v26 := Tryz.zeroValue3
  t27 := Tryz.underlying142
  a27 := Tryz.isAgg142
  z27 := Tryz.sizeOf142
  v27 := Tryz.zeroValue142
  t28 := Tryz.underlying143
  a28 := Tryz.isAgg143
  z28 := Tryz.sizeOf143
  v28 := Tryz.zeroValue143
  t33 := Tryz.underlying138
  a33 := Tryz.isAgg138
  z33 := Tryz.sizeOf138
  v33 := Tryz.zeroValue138 }
def Tryz.sortedA_ren : Go.Shelf.Ren := ⟨fun | 6 => 97 | 8 => 161 | 9 => 124 | 11 => 222 | 13 => 191 | 12 => 190 | 23 => 242 | 24 => 243 | 14 => 233 | 15 => 234 | 16 => 235 | 17 => 236 | 18 => 237 | 19 => 238 | 20 => 239 | 21 => 240 | 22 => 241 | 25 => 260 | 26 => 261 | 27 => 262 | 28 => 263 | 29 => 264 | 30 => 265 | 31 => 270 | n => n, fun | 26 => 3 | 28 => 143 | 24 => 48 | 0 => 0 | 3 => 3 | 37 => 59 | 48 => 39 | 50 => 24 | 4 => 4 | 40 => 279 | 39 => 278 | 45 => 284 | 5 => 5 | 9 => 9 | 51 => 307 | 55 => 311 | 57 => 320 | 58 => 321 | 33 => 138 | n => n, fun | n => n⟩
theorem Tryz.sortedA : Go.Proofs.SlLaysZI.n6 Tryz.prog Tryz.sortedA_ren := {
  mixed := by kernel_rfl
  f6 := ⟨Tryz.f97.name, by decide, Tryz.func97.trans (congrArg some (by kernel_rfl))⟩
  f8 := ⟨Tryz.f161.name, by decide, Tryz.func161.trans (congrArg some (by kernel_rfl))⟩
  f11 := ⟨Tryz.f222.name, by decide, Tryz.func222.trans (congrArg some (by kernel_rfl))⟩
  t0 := Tryz.underlying0
  a0 := Tryz.isAgg0
  z0 := Tryz.sizeOf0
  v0 := Tryz.zeroValue0
  t24 := Tryz.underlying48
  a24 := Tryz.isAgg48
  z24 := Tryz.sizeOf48
  v24 := Tryz.zeroValue48
  t26 := Tryz.underlying3
  a26 := Tryz.isAgg3
  z26 := Tryz.sizeOf3
  v26 := Tryz.zeroValue3
  t28 := Tryz.underlying143
  a28 := Tryz.isAgg143
  z28 := Tryz.sizeOf143
  v28 := Tryz.zeroValue143
  i26 := by kernel_rfl }
def Tryz.sortA_ren : Go.Shelf.Ren := ⟨fun | 5 => 124 | 8 => 191 | 7 => 190 | 19 => 242 | 20 => 243 | 10 => 233 | 11 => 234 | 12 => 235 | 13 => 236 | 14 => 237 | 15 => 238 | 16 => 239 | 17 => 240 | 18 => 241 | 30 => 260 | 31 => 261 | 32 => 262 | 33 => 263 | 34 => 264 | 35 => 265 | 40 => 270 | n => n, fun | 23 => 48 | 25 => 3 | 3 => 3 | 32 => 59 | 22 => 48 | 0 => 0 | 44 => 39 | 46 => 24 | 4 => 4 | 36 => 279 | 35 => 278 | 41 => 284 | 5 => 5 | 9 => 9 | 53 => 307 | 57 => 311 | 63 => 320 | 64 => 321 | n => n, fun | n => n⟩
theorem Tryz.sortA : Go.Proofs.SlLaysM.n5 Tryz.prog Tryz.sortA_ren := {
  mixed := by kernel_rfl
  f5 := ⟨Tryz.f124.name, by decide, Tryz.func124.trans (congrArg some (by kernel_rfl))⟩
  f7 := ⟨Tryz.f190.name, by decide, Tryz.func190.trans (congrArg some (by kernel_rfl))⟩
  f8 := Tryz.func191.trans (congrArg some (by kernel_rfl))
  f10 := ⟨Tryz.f233.name, by decide, Tryz.func233.trans (congrArg some (by kernel_rfl))⟩
  f11 := ⟨Tryz.f234.name, by decide, Tryz.func234.trans (congrArg some (by kernel_rfl))⟩
  f12 := ⟨Tryz.f235.name, by decide, Tryz.func235.trans (congrArg some (by kernel_rfl))⟩
  f13 := ⟨Tryz.f236.name, by decide, Tryz.func236.trans (congrArg some (by kernel_rfl))⟩
  f14 := ⟨Tryz.f237.name, by decide, Tryz.func237.trans (congrArg some (by kernel_rfl))⟩
  f15 := ⟨Tryz.f238.name, by decide, Tryz.func238.trans (congrArg some (by kernel_rfl))⟩
  f16 := ⟨Tryz.f239.name, by decide, Tryz.func239.trans (congrArg some (by kernel_rfl))⟩
  f17 := ⟨Tryz.f240.name, by decide, Tryz.func240.trans (congrArg some (by kernel_rfl))⟩
  f18 := ⟨Tryz.f241.name, by decide, Tryz.func241.trans (congrArg some (by kernel_rfl))⟩
  f19 := Tryz.func242.trans (congrArg some (by kernel_rfl))
  f20 := Tryz.func243.trans (congrArg some (by kernel_rfl))
  f30 := ⟨Tryz.f260.name, by decide, Tryz.func260.trans (congrArg some (by kernel_rfl))⟩
  f31 := Tryz.func261.trans (congrArg some (by kernel_rfl))
  f32 := Tryz.func262.trans (congrArg some (by kernel_rfl))
  f33 := ⟨Tryz.f263.name, by decide, Tryz.func263.trans (congrArg some (by kernel_rfl))⟩
  f34 := ⟨Tryz.f264.name, by decide, Tryz.func264.trans (congrArg some (by kernel_rfl))⟩
  f35 := ⟨Tryz.f265.name, by decide, Tryz.func265.trans (congrArg some (by kernel_rfl))⟩
  f40 := ⟨Tryz.f270.name, by decide, Tryz.func270.trans (congrArg some (by kernel_rfl))⟩
  t0 := Tryz.underlying0
  a0 := Tryz.isAgg0
  z0 := Tryz.sizeOf0
  v0 := Tryz.zeroValue0
  t3 := Tryz.underlying3
  a3 := Tryz.isAgg3
  z3 := Tryz.sizeOf3
  v3 := Tryz.zeroValue3
  t4 := Tryz.underlying4
  a4 := Tryz.isAgg4
  z4 := Tryz.sizeOf4
  v4 := Tryz.zeroValue4
  t5 := Tryz.underlying5
  a5 := Tryz.isAgg5
  z5 := Tryz.sizeOf5
  v5 := Tryz.zeroValue5
  t9 := Tryz.underlying9
  a9 := Tryz.isAgg9
  z9 := Tryz.sizeOf9
  v9 := Tryz.zeroValue9
  t22 := Tryz.underlying48
  a22 := Tryz.isAgg48
  z22 := Tryz.sizeOf48
  v22 := Tryz.zeroValue48
  t23 := Tryz.underlying48
  a23 := Tryz.isAgg48
  z23 := Tryz.sizeOf48
  v23 := Tryz.zeroValue48
  t25 := Tryz.underlying3
  a25 := Tryz.isAgg3
  z25 := Tryz.sizeOf3
  v25 := Tryz.zeroValue3
  t32 := Tryz.underlying59
  a32 := Tryz.isAgg59
  z32 := Tryz.sizeOf59
  v32 := Tryz.zeroValue59
  t35 := Tryz.underlying278
  a35 := Tryz.isAgg278
  z35 := Tryz.sizeOf278
  v35 := Tryz.zeroValue278
  t36 := Tryz.underlying279
  a36 := Tryz.isAgg279
  z36 := Tryz.sizeOf279
  v36 := Tryz.zeroValue279
  t41 := Tryz.underlying284
  a41 := Tryz.isAgg284
  z41 := Tryz.sizeOf284
  v41 := Tryz.zeroValue284
  t44 := Tryz.underlying39
  a44 := Tryz.isAgg39
  z44 := Tryz.sizeOf39
  v44 := Tryz.zeroValue39
  t46 := Tryz.underlying24
  a46 := Tryz.isAgg24
  z46 := Tryz.sizeOf24
  v46 := Tryz.zeroValue24
  t53 := Tryz.underlying307
  a53 := Tryz.isAgg307
  z53 := Tryz.sizeOf307
  v53 := Tryz.zeroValue307
  t57 := Tryz.underlying311
  a57 := Tryz.isAgg311
  z57 := Tryz.sizeOf311
  v57 := Tryz.zeroValue311
  t63 := Tryz.underlying320
  a63 := Tryz.isAgg320
  z63 := Tryz.sizeOf320
  v63 := Tryz.zeroValue320
  t64 := Tryz.underlying321
  a64 := Tryz.isAgg321
  z64 := Tryz.sizeOf321
  v64 := Tryz.zeroValue321 }
theorem Tryz.sortsA (m : Nat) : AnyZI.SortsIn Tryz.prog Tryz.sortedA_ren Fence.wide m :=
  ⟨fun blk off cap ss W hH hblk hsz => callsIn_wide.2 (AnyM.slices_Sort_int Tryz.sortA blk off cap ss W hH hblk hsz),
   fun p cap W => callsIn_wide.2 (AnyM.slices_Sort_int_none Tryz.sortA p cap W)⟩
theorem Tryz.sortedOk162 : Dw.SortedOk Tryz.prog 97 162 :=
  ⟨⟨Tryz.f97, _, Tryz.func97, rfl, by decide⟩,
   fun w Bm b es clock ks hBm hm hb hst hkeys hwf hlen => by
    obtain ⟨D0, hown, hperm, hsize⟩ := Dw.ownsMap_of (P := Tryz.prog) Tryz.underlying3 hb hst hkeys hwf hlen
    have hseq := AnyZI.keys_gives (ρ := Tryz.keys98k_ren) { Tryz.keys98k with } Fence.wide 2 trivial rfl (by omega) Bm b es.size D0 w hBm hm hown
    have cS := AnyZI.sorted_in Tryz.sortedA Fence.wide 5 trivial trivial trivial trivial rfl (by omega) (Tryz.sortsA _) (enters_of Tryz.func124 (by kernel_rfl) rfl) 162 #[.pointer (some ⟨Bm, 0, none⟩)] trivial (enters_of Tryz.func162 (by kernel_rfl) rfl) _ _ (by rw [hsize]; unfold maxLen; omega) (by rw [hsize]; omega) _ hseq
    exact (callsIn_wide.1 cS).mono fun e w' ⟨v, ss, he, hS, hrow, hnil, hb⟩ => ⟨v, ss, _, he, hS.trans hperm, hrow, hnil, hb⟩,
   fun w Bm hBm hm => by
    have hseq := AnyZI.keys_gives_nil (ρ := Tryz.keys98k_ren) { Tryz.keys98k with } Fence.wide 2 trivial rfl Bm w hBm hm
    have cS := AnyZI.sorted_in Tryz.sortedA Fence.wide 5 trivial trivial trivial trivial rfl (by omega) (Tryz.sortsA _) (enters_of Tryz.func124 (by kernel_rfl) rfl) 162 #[.pointer (some ⟨Bm, 0, none⟩)] trivial (enters_of Tryz.func162 (by kernel_rfl) rfl) _ 0 (Nat.zero_le _) (by omega) _ hseq
    exact (callsIn_wide.1 cS).mono fun e w' ⟨v, ss, he, hS, hrow, hnil, hb⟩ => ⟨by rw [he, hnil.2 hS], hb⟩⟩
theorem Tryz.sortedOk173 : Dw.SortedOk Tryz.prog 97 173 :=
  ⟨⟨Tryz.f97, _, Tryz.func97, rfl, by decide⟩,
   fun w Bm b es clock ks hBm hm hb hst hkeys hwf hlen => by
    obtain ⟨D0, hown, hperm, hsize⟩ := Dw.ownsMap_of (P := Tryz.prog) Tryz.underlying3 hb hst hkeys hwf hlen
    have hseq := AnyZI.keys_gives (ρ := Tryz.keys107k_ren) { Tryz.keys107k with } Fence.wide 2 trivial rfl (by omega) Bm b es.size D0 w hBm hm hown
    have cS := AnyZI.sorted_in Tryz.sortedA Fence.wide 5 trivial trivial trivial trivial rfl (by omega) (Tryz.sortsA _) (enters_of Tryz.func124 (by kernel_rfl) rfl) 173 #[.pointer (some ⟨Bm, 0, none⟩)] trivial (enters_of Tryz.func173 (by kernel_rfl) rfl) _ _ (by rw [hsize]; unfold maxLen; omega) (by rw [hsize]; omega) _ hseq
    exact (callsIn_wide.1 cS).mono fun e w' ⟨v, ss, he, hS, hrow, hnil, hb⟩ => ⟨v, ss, _, he, hS.trans hperm, hrow, hnil, hb⟩,
   fun w Bm hBm hm => by
    have hseq := AnyZI.keys_gives_nil (ρ := Tryz.keys107k_ren) { Tryz.keys107k with } Fence.wide 2 trivial rfl Bm w hBm hm
    have cS := AnyZI.sorted_in Tryz.sortedA Fence.wide 5 trivial trivial trivial trivial rfl (by omega) (Tryz.sortsA _) (enters_of Tryz.func124 (by kernel_rfl) rfl) 173 #[.pointer (some ⟨Bm, 0, none⟩)] trivial (enters_of Tryz.func173 (by kernel_rfl) rfl) _ 0 (Nat.zero_le _) (by omega) _ hseq
    exact (callsIn_wide.1 cS).mono fun e w' ⟨v, ss, he, hS, hrow, hnil, hb⟩ => ⟨by rw [he, hnil.2 hS], hb⟩⟩
theorem Tryz.sortOrc {ρ : Dw.Val} {w : World} : Dw.OrcOk Tryz.prog ρ w (Dw.sortedOrc 97 [162, 173]) := Dw.sortedOrc_ok fun g hg => by
  simp only [List.mem_cons, List.not_mem_nil, or_false] at hg
  rcases hg with rfl | rfl
  · exact Tryz.sortedOk162
  · exact Tryz.sortedOk173
end Go.Proofs
