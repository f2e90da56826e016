/-
  Proved: laws on the way to 'PdriveScriptProof' (texts Laid SvA SvB SvC SvD SvE SvF SvG SvH SvI DwBase DwEv DwRun DwLaw DwRel DwMem DwMap DwSym); no condition.
-/
import Derived.Test.YtkemikknnokdhaaGreatRows
import Derived.KernelRfl
import Derived.ProofKit
import Derived.Test.YtkemikknnokdhaaGreatProg
import Derived.Sort.OwnSortedInts
import Derived.Sort.AtCall
import Derived.Maps.AppendAt
import Derived.Maps.RangeWalk
import Derived.Deep.MidRow
import Derived.Deep.WholeRow
import Derived.StillTailTactics
import Derived.Deep.QuietTactic
import Derived.BigQuiet
import Derived.WalkKit
import Derived.Laws.Cover3
import Derived.Laws.CopyOwn
import Derived.Laws.CopyRow
import Derived.Laws.IdiomCopy
import Derived.Deep.RegionWith
import Derived.Deep.CutRange
import Derived.Calls
import Derived.Orders
import Derived.Laws.Cells
import Derived.Laws.AppendOwn
import Derived.LoopN
import Derived.RowKit3
import Derived.Below
set_option linter.unusedSimpArgs false
set_option linter.unusedVariables false
set_option maxHeartbeats 4000000
noncomputable section
namespace Go
abbrev yaa:=@Nat.le_refl
abbrev yab:=@Go.RowKit.Below.refl
abbrev yac:=@Go.Result.andThen_ok
abbrev yad:=@Go.Sem.run_bind
abbrev yae:=@Nat.lt_of_lt_of_le
abbrev yaf:=@Nat.zero_add
abbrev yag:=@Go.Sem.run_pure
abbrev yah:=@if_neg
abbrev yai:=@List.getElem?_eq_getElem
abbrev yaj:=@List.mem_cons
abbrev yak:=@if_pos
abbrev yal:=@Go.World.cell?_of_block
abbrev yam:=@Nat.le_of_ble_eq_true
abbrev yan:=@Go.World.block_lt_of_cell?
abbrev yao:=@decide_eq_false
abbrev yap:=@Go.bodyPost_ret
abbrev yaq:=@List.not_mem_nil
abbrev yar:=@Nat.zero_le
abbrev yas:=@Nat.le_trans
abbrev yat:=@List.getElem?_eq_some_iff
abbrev yau:=@List.getElem?_cons_zero
abbrev yav:=@Array.getD_eq_getD_getElem?
abbrev yaw:=@List.getD_eq_getElem?_getD
abbrev yax:=@Array.getElem?_eq_some_iff
abbrev yay:=@List.getElem?_toArray
abbrev yaz:=@Decidable.not_not
abbrev yaA:=@List.getElem_mem
abbrev yaB:=@congrArg
abbrev yaC:=@List.length_append
abbrev yaD:=@Nat.blt_eq
abbrev yaE:=@Option.some.inj
abbrev yaF:=@Nat.add_zero
abbrev yaG:=@List.getElem?_cons_succ
abbrev yaH:=@decide_eq_true
abbrev yaI:=@List.mem_singleton
abbrev yaJ:=@Option.map_some
abbrev yaK:=@List.length_map
abbrev yaL:=@decide_eq_true_eq
abbrev yaM:=@Int.eq_ofNat_of_zero_le
abbrev yaN:=@Go.World.cell?_setCell_other
abbrev yaO:=@Nat.testBit_or
abbrev yaP:=@List.getElem?_append_left
abbrev yaQ:=@Array.getElem?_eq_getElem
abbrev yaR:=@decide_eq_false_iff_not
abbrev yaS:=@Int.toNat_natCast
abbrev yaT:=@List.getElem?_eq_none
abbrev yaU:=@List.map_cons
abbrev yaV:=@List.getElem?_append_right
abbrev yaW:=@Bool.false_eq_true
abbrev yaX:=@List.length_cons
abbrev yaY:=@List.mem_map
abbrev yaZ:=@or_false
abbrev ya0:=@List.mem_cons_self
abbrev ya1:=@List.length_take
abbrev ya2:=@List.mem_append
abbrev ya3:=@List.mem_cons_of_mem
abbrev ya4:=@decide_eq_decide
abbrev ya5:=@Go.RowKit.Below.heap_setCell
abbrev ya6:=@Nat.mod_eq_of_lt
abbrev ya7:=@Go.Calls.mono
abbrev ya8:=@List.mem_of_getElem?
abbrev ya9:=@Nat.mul_le_mul_right
abbrev yba:=@Go.info_parts
abbrev ybb:=@List.cons.injEq
abbrev ybc:=@Array.length_toList
abbrev ybd:=@Bool.and_eq_true
abbrev ybe:=@Nat.lt_irrefl
abbrev ybf:=@List.getElem?_map
abbrev ybg:=@Array.toList_push
abbrev ybh:=@Nat.eq_of_testBit_eq
abbrev ybi:=@List.mem_of_mem_drop
abbrev ybj:=@BitVec.toNat_ofNat
abbrev ybk:=@Go.wpList_append_own_at
abbrev ybl:=@Array.getElem?_eq_none
abbrev ybm:=@List.length_nil
abbrev ybn:=@Nat.add_assoc
abbrev ybo:=@List.all_eq_true
abbrev ybp:=@Array.getElem?_toList
abbrev ybq:=@and_true
abbrev ybr:=@Bool.true_and
abbrev ybs:=@Option.map_none
abbrev ybt:=@BitVec.ofInt_natCast
abbrev ybu:=@Go.wp_mono
abbrev ybv:=@List.take_succ_eq_append_getElem
abbrev ybw:=@List.length_pos_iff
abbrev ybx:=@List.drop_eq_getElem_cons
abbrev yby:=@Classical.byContradiction
abbrev ybz:=@Nat.mul_comm
abbrev ybA:=@List.map_append
abbrev ybB:=@Nat.eq_zero_or_pos
abbrev ybC:=@Int.emod_lt_of_pos
abbrev ybD:=@List.getElem?_take_of_lt
abbrev ybE:=@List.take_length
abbrev ybF:=@List.any_eq_true
abbrev ybG:=@List.length_eq_zero_iff
abbrev ybH:=@Option.some.injEq
abbrev ybI:=@Int.emod_nonneg
abbrev ybJ:=@Array.toList_modify
abbrev ybK:=@Int.tmod_eq_emod_of_nonneg
abbrev ybL:=@Array.getElem?_append_left
abbrev ybM:=@List.map_nil
abbrev ybN:=@List.getElem?_drop
abbrev ybO:=@Nat.pow_le_pow_right
abbrev ybP:=@List.mem_of_mem_take
abbrev ybQ:=@Int.ofNat_eq_natCast
abbrev ybR:=@Go.World.cell?_setCell_same'
abbrev ybS:=@Bool.eq_iff_iff
abbrev ybT:=@List.append_assoc
abbrev ybU:=@Nat.lt_or_ge
abbrev ybV:=@Go.wpList_append_own
abbrev ybW:=@if_false
abbrev ybX:=@Nat.add_mul
abbrev ybY:=@Int.le_refl
abbrev ybZ:=@bne_eq_false_iff_eq
abbrev yb0:=@Nat.testBit_mod_two_pow
abbrev yb1:=@List.length_drop
abbrev yb2:=@Bool.false_and
abbrev yb3:=@Option.map_eq_some_iff
abbrev yb4:=@List.take_of_length_le
abbrev yb5:=@List.pairwise_cons
abbrev yb6:=@Iff.rfl
abbrev yb7:=@Nat.beq_refl
abbrev yb8:=@Nat.testBit_and
abbrev yb9:=@Nat.ble_eq_true_of_le
abbrev yca:=@List.mem_append_right
abbrev ycb:=@List.size_toArray
abbrev ycc:=@List.flatMap_cons
abbrev ycd:=@Go.RowKit.Below.heap_alloc
abbrev yce:=@List.mem_append_left
abbrev ycf:=@Array.toArray_toList
abbrev ycg:=@Option.getD_some
abbrev ych:=@BitVec.toNat_and
abbrev yci:=@beq_eq_false_iff_ne
abbrev ycj:=@Nat.testBit_two_pow
abbrev yck:=@Array.ext'
abbrev ycl:=@Option.isSome_none
abbrev ycm:=@List.eraseP_cons_of_neg
abbrev ycn:=@Array.getElem?_setIfInBounds_self
abbrev yco:=@Go.World.ownsRow_made
abbrev ycp:=@List.getElem_cons_succ
abbrev ycq:=@of_decide_eq_true
abbrev ycr:=@Array.getElem?_setIfInBounds_ne
abbrev ycs:=@Go.World.frozen?_of_block
abbrev yct:=@List.take_append_drop
abbrev ycu:=@List.length_mergeSort
abbrev ycv:=@ByteArray.data_append
abbrev ycw:=@Nat.and_two_pow_sub_one_eq_mod
abbrev ycx:=@Go.run_program
abbrev ycy:=@Go.results_tmp
abbrev ycz:=@Go.DataW.trod_int
abbrev ycA:=@Option.bind_some
abbrev ycB:=@List.mem_iff_getElem
abbrev ycC:=@beq_iff_eq
abbrev ycD:=@if_true
abbrev ycE:=@Nat.or_comm
abbrev ycF:=@List.range_succ
abbrev ycG:=@List.nodup_cons
abbrev ycH:=@Nat.shiftRight_zero
abbrev ycI:=@List.getElem?_range
abbrev ycJ:=@List.flatMap_append
abbrev ycK:=@Nat.sub_zero
abbrev ycL:=@Nat.or_assoc
abbrev ycM:=@Go.heap_alloc_last
abbrev ycN:=@Nat.shiftLeft_zero
abbrev ycO:=@Int.natCast_nonneg
abbrev ycP:=@Array.ext_getElem?
abbrev ycQ:=@List.pairwise_iff_getElem
abbrev ycR:=@List.extract_eq_take_drop
abbrev ycS:=@Nat.or_lt_two_pow
abbrev ycT:=@Nat.le_succ_of_le
abbrev ycU:=@List.ext_getElem?
abbrev ycV:=@Array.size_append
abbrev ycW:=@Ne.symm
abbrev ycX:=@Prod.mk.injEq
abbrev ycY:=@Option.bind_eq_some_iff
abbrev ycZ:=@List.eraseP_cons_of_pos
abbrev yc0:=@Go.World.cells?_some
abbrev yc1:=@Nat.shiftLeft_eq
abbrev yc2:=@Nat.le_of_not_lt
abbrev yc3:=@List.modify_cons
abbrev yc4:=@Nat.sub_self
abbrev yc5:=@Nat.add_comm
abbrev yc6:=@List.length_set
abbrev yc7:=@Nat.eq_of_beq_eq_true
abbrev yc8:=@List.mem_iff_getElem?
abbrev yc9:=@Array.getElem?_modify
abbrev yda:=@List.drop_eq_nil_iff
abbrev ydb:=@Go.Addr.add_mid
abbrev ydc:=@Go.World.frozen?_setCell
abbrev ydd:=@Nat.or_zero
abbrev yde:=@List.map_eq_nil_iff
abbrev ydf:=@Eq.trans
abbrev ydg:=@Go.heap_alloc_old
abbrev ydh:=@Go.heap_alloc_new
abbrev ydi:=@ByteArray.ext
abbrev ydj:=@Bool.not_true
abbrev ydk:=@Nat.lt_of_le_of_lt
abbrev ydl:=@List.find?_eq_none
abbrev ydm:=@Go.cell_of_row
abbrev ydn:=@Go.run_equal_slice_nil
abbrev ydo:=@Nat.lt_succ_of_lt
abbrev ydp:=@List.pairwise_map
abbrev ydq:=@Go.run_makeSlice
abbrev ydr:=@Nat.zero_mul
abbrev yds:=@Nat.succ_pos
abbrev ydt:=@Nat.mul_zero
abbrev ydu:=@Int.mul_comm
abbrev ydv:=@Go.MapKept.heap_alloc
abbrev ydw:=@Nat.lt_succ_self
abbrev ydx:=@List.mem_flatMap
abbrev ydy:=@Array.toList_map
abbrev ydz:=@Nat.shiftLeft_add_eq_or_of_lt
abbrev ydA:=@Go.run_storeCells_at
abbrev ydB:=@Array.getElem?_setIfInBounds
abbrev ydC:=@dif_pos
abbrev ydD:=@dif_neg
abbrev ydE:=@Nat.testBit_xor
abbrev ydF:=@Nat.not_lt_zero
abbrev ydG:=@Nat.min_eq_left
abbrev ydH:=@List.nil_append
abbrev ydI:=@List.forIn_cons
abbrev ydJ:=@BitVec.toNat_or
abbrev ydK:=@Nat.two_pow_add_eq_or_of_lt
abbrev ydL:=@Array.getElem?_append_right
abbrev ydM:=@List.eraseIdx_of_length_le
abbrev ydN:=@Int.fdiv_eq_ediv_of_nonneg
abbrev ydO:=@Go.RowKit.Below.alloc
abbrev ydP:=@List.take_left
abbrev ydQ:=@List.mapM_cons
abbrev ydR:=@Bool.not_false
abbrev ydS:=@Nat.shiftRight_eq_div_pow
abbrev ydT:=@List.mem_of_find?_eq_some
abbrev ydU:=@Array.mapM_eq_mapM_toList
abbrev ydV:=@Go.getD_set_ne
abbrev ydW:=@Go.run_loadVar_mid
abbrev ydX:=@Option.isSome_iff_exists
abbrev ydY:=@Array.getElem?_replicate
end Go
namespace Go.Proofs.YtkemikknnokdhaaGreat
theorem aa9:laidOutB Tryz.prog=true:=by kernel_rfl
end Go.Proofs.YtkemikknnokdhaaGreat
namespace Go.Proofs
open Go.RowKit Go.Maps Go.Sort
structure Tryz.GM (w:World) (P L Bs B N:Nat) (g:Nat→Int):Prop where
 p0: ∃c,w.cell? ⟨P,0,none⟩=some (.slice (some ⟨L,0,none⟩) 1 c)
 p1:w.cell? ⟨P,1,none⟩=some (.slice (some ⟨Bs,0,none⟩) 1 2)
 l0:w.cell? ⟨L,0,none⟩=some (.int .u64 0)
 l1:w.cell? ⟨L,1,none⟩=some (.int .u64 N)
 b0:w.cell? ⟨Bs,0,none⟩=some (.slice (some ⟨B,0,none⟩) N N)
 full: ∀j,j<N→w.cell? ⟨B,j,none⟩=some (.int .u8 (g j))
 free: ∀j,j<N→w.frozen? ⟨B,j,none⟩=false
 byte: ∀j,0≤g j∧g j<256
 pb:P≠B
 lb:L≠B
 sb:Bs≠B
 bl:B<w.heap.size
theorem Tryz.GM.pl {w:World} {P L Bs B N:Nat} {g:Nat→Int} (h:GM w P L Bs B N g):P<w.heap.size:=yan w _ h.p1
theorem Tryz.GM.ll {w:World} {P L Bs B N:Nat} {g:Nat→Int} (h:GM w P L Bs B N g):L<w.heap.size:=yan w _ h.l0
theorem Tryz.GM.sl {w:World} {P L Bs B N:Nat} {g:Nat→Int} (h:GM w P L Bs B N g):Bs<w.heap.size:=yan w _ h.b0
theorem Tryz.GM.kept {w w':World} {P L Bs B N:Nat} {g:Nat→Int} (h:GM w P L Bs B N g) (hg: ∀k,k<w.heap.size→(k=P∨k=L∨k=Bs∨k=B)→w'.heap[k]? =w.heap[k]?) (hs:w.heap.size≤w'.heap.size):GM w' P L Bs B N g:=by
 have eP:=hg P h.pl (Or.inl rfl);have eL:=hg L h.ll (Or.inr (Or.inl rfl));have eS:=hg Bs h.sl (Or.inr (Or.inr (Or.inl rfl)));have eB:=hg B h.bl (Or.inr (Or.inr (Or.inr rfl)));refine ⟨?_,?_,?_,?_,?_,fun j hj=> ?_,fun j hj=> ?_,h.byte,h.pb,h.lb,h.sb,yae h.bl hs⟩
 ·obtain ⟨c,h0⟩:=h.p0;exact ⟨c,by rw [yal (a:=⟨P,0,none⟩) eP];exact h0⟩
 ·rw [yal (a:=⟨P,1,none⟩) eP];exact h.p1
 ·rw [yal (a:=⟨L,0,none⟩) eL];exact h.l0
 ·rw [yal (a:=⟨L,1,none⟩) eL];exact h.l1
 ·rw [yal (a:=⟨Bs,0,none⟩) eS];exact h.b0
 ·rw [yal (a:=⟨B,j,none⟩) eB];exact h.full j hj
 ·rw [ycs (a:=⟨B,j,none⟩) eB];exact h.free j hj
theorem Tryz.GM.below {w w':World} {P L Bs B N:Nat} {g:Nat→Int} (h:GM w P L Bs B N g) (hb:Below w.heap.size w w'):GM w' P L Bs B N g:=h.kept (fun k hk _=>hb.block k hk) hb.size
theorem Tryz.wrap_u64 (k:Int) (h:0≤k) (h':k<18446744073709551616):IntKind.wrap .u64 k=k:=by unfold IntKind.wrap;simp [IntKind.signed,IntKind.bits];omega
set_option maxRecDepth 100000 in
theorem Tryz.Y6 (P L Bs B N X Y:Nat) (bB:Int) (g:Nat→Int) (w:World) (st:GM w P L Bs B N g) (hN:N≤1048576) (h1:1≤N) (hX:w.cell? ⟨X,0,none⟩=some (.pointer (some ⟨P,0,none⟩))) (hY:w.cell? ⟨Y,0,none⟩=some (.int .u64 bB)):
  Calls prog 130 #[.int .i64 0,.pointer (some ⟨X,0,none⟩),.pointer (some ⟨Y,0,none⟩)] w fun e w'=>e= .returned (.bool (decide (bB≤N-1)))∧ ∃q,w'=w.drewN q:=by
 obtain ⟨lc,c0⟩:=st.p0;have c2:=st.l0;have c3:=st.l1;have hs:IntKind.wrap .u64 ((N:Int)-1)=N-1:=wrap_u64 _ (by omega) (by omega);go_enter func130,ntmps130;go_wp2_with fail;go_quiet (fail);go_wp2;go_ret;exact ⟨rfl,nq,rfl⟩
theorem Tryz.below_drewN {B:Nat} {a w:World} (h:Below B a w) (q:Nat):Below B a (w.drewN q):=⟨h.os,h.tape,h.output,h.size,h.block⟩
set_option maxRecDepth 100000 in
theorem Tryz.WN (P L Bs B N X Y:Nat) (bB:Int) (g:Nat→Int) (w:World) (st:GM w P L Bs B N g) (hN:N≤1048576) (h1:1≤N) (hX:w.cell? ⟨X,0,none⟩=some (.pointer (some ⟨P,0,none⟩))) (hY:w.cell? ⟨Y,0,none⟩=some (.int .u64 bB)) (ha:bB≤N-1):
    Calls prog 129 #[.int .i64 1,.func (.func 130) #[] #[.pointer (some ⟨X,0,none⟩),.pointer (some ⟨Y,0,none⟩)]] w fun e w'=>e= .returned (.int .i64 0)∧ ∃q,w'=w.drewN q:=by
  have he:=Y6 P L Bs B N X Y bB g w st hN h1 hX hY;rw [yaH ha] at he;go_enter func129,ntmps129;go_wp2_with fail;go_loopw [5,6] (fun i j wr=>(i= .int .i64 0∧j= .int .i64 1∧wr=w)∨(i= .int .i64 0∧j= .int .i64 0∧ ∃q,wr=w.drewN q)) (fun _ j _=>(RowKit.intOf j).toNat)
  case atStart=>exact Or.inl ⟨rfl,rfl,rfl⟩
  case round=>
    rcases hrel with ⟨rfl,rfl,rfl⟩|⟨rfl,rfl,q,rfl⟩
    · go_wp2_with (first
        | (go_at_call 130;refine he.mono ?_;rintro e w' ⟨rfl,q,rfl⟩)
        | go_in)
      exact ⟨Or.inr ⟨rfl,rfl,q,rfl⟩,by simp [RowKit.intOf]⟩
    · go_wp2;go_ret;exact ⟨rfl,q,rfl⟩
set_option maxRecDepth 100000 in
theorem Tryz.zpp (P L Bs B N X Y:Nat) (bB:Int) (g:Nat→Int) (w:World) (st:GM w P L Bs B N g) (hN:N≤1048576) (h1:1≤N) (hX:w.cell? ⟨X,0,none⟩=some (.pointer (some ⟨P,0,none⟩))) (hY:w.cell? ⟨Y,0,none⟩=some (.int .u64 bB)) (ha: ¬bB≤N-1):
    Calls prog 129 #[.int .i64 1,.func (.func 130) #[] #[.pointer (some ⟨X,0,none⟩),.pointer (some ⟨Y,0,none⟩)]] w fun e w'=>e= .returned (.int .i64 1)∧ ∃q,w'=w.drewN q:=by
  have he:=Y6 P L Bs B N X Y bB g w st hN h1 hX hY;rw [yao ha] at he;go_enter func129,ntmps129;go_wp2_with fail;go_loopw [5,6] (fun i j wr=>(i= .int .i64 0∧j= .int .i64 1∧wr=w)∨(i= .int .i64 1∧j= .int .i64 1∧ ∃q,wr=w.drewN q)) (fun i j _=>(RowKit.intOf j-RowKit.intOf i).toNat)
  case atStart=>exact Or.inl ⟨rfl,rfl,rfl⟩
  case round=>
    rcases hrel with ⟨rfl,rfl,rfl⟩|⟨rfl,rfl,q,rfl⟩
    · go_wp2_with (first
        | (go_at_call 130;refine he.mono ?_;rintro e w' ⟨rfl,q,rfl⟩)
        | go_in)
      exact ⟨Or.inr ⟨rfl,rfl,q,rfl⟩,by simp [RowKit.intOf]⟩
    · go_wp2;go_ret;exact ⟨rfl,q,rfl⟩
set_option maxRecDepth 100000 in
theorem Tryz.Jk (P L Bs B N a k:Nat) (g:Nat→Int) (w:World) (st:GM w P L Bs B N g) (hN:N≤1048576) (hk:1≤k) (hin:a+k≤N):
    Calls prog 82 #[.pointer (some ⟨P,0,none⟩),.int .u64 a,.int .u64 k] w fun e w'=>e= .returned (.slice (some ⟨B,a,none⟩) k (N-a))∧Below w.heap.size w w':=by
  have hb2:=((yab _ w).alloc (yaa _) (.cells #[.pointer (some ⟨P,0,none⟩)] 34)).alloc (by simp) (.cells #[.int .u64 a] 28);have st2:=st.below hb2;have hX:((w.alloc (.cells #[.pointer (some ⟨P,0,none⟩)] 34)).alloc (.cells #[.int .u64 a] 28)).cell? ⟨w.heap.size,0,none⟩=some (.pointer (some ⟨P,0,none⟩)):=by simp
  have hY:((w.alloc (.cells #[.pointer (some ⟨P,0,none⟩)] 34)).alloc (.cells #[.int .u64 a] 28)).cell? ⟨w.heap.size+1,0,none⟩=some (.int .u64 a):=by simp
  have hse:=WN P L Bs B N w.heap.size (w.heap.size+1) a g _ st2 hN (by omega) hX hY (by omega);go_enter func82,ntmps82;generalize hw2:(w.alloc (.cells #[.pointer (some ⟨P,0,none⟩)] 34)).alloc (.cells #[.int .u64 a] 28)=w2 at*;obtain ⟨lc,c0⟩:=st2.p0;have c1:=st2.p1;have c2:=st2.l0;have c3:=st2.l1;have c4:=st2.b0;have ha:IntKind.wrap .u64 ((N:Int)-a)=N-a:=wrap_u64 _ (by omega) (by omega);have hak:IntKind.wrap .u64 ((a:Int)+k)=a+k:=wrap_u64 _ (by omega) (by omega);have hkk:a+k-a=k:=by omega
  go_wp2_with (first
    | (go_at_call 129;refine hse.mono ?_;rintro e w' ⟨rfl,q,rfl⟩)
    | go_in)
  go_quiet (fail);go_wp2;go_quiet (fail);go_wp2;go_ret;exact ⟨(by show Ending.returned (.slice (some ⟨B,a,none⟩) (a+k-a) (N-a))=_;rw [hkk]),below_drewN hb2 _⟩
set_option maxRecDepth 100000 in
theorem Tryz.zsD (P L Bs B N:Nat) (a k:Int) (g:Nat→Int) (w:World) (st:GM w P L Bs B N g) (hN:N≤1048576) (h1:1≤N) (ha0:0≤a) (ha1:a<18446744073709551616) (hk0:0≤k) (hout: ¬(1≤k∧a+k≤N)):
    Calls prog 82 #[.pointer (some ⟨P,0,none⟩),.int .u64 a,.int .u64 k] w fun e w'=>e= .returned (.slice none 0 0)∧Below w.heap.size w w':=by
  have hb2:=((yab _ w).alloc (yaa _) (.cells #[.pointer (some ⟨P,0,none⟩)] 34)).alloc (by simp) (.cells #[.int .u64 a] 28);have st2:=st.below hb2;have hX:((w.alloc (.cells #[.pointer (some ⟨P,0,none⟩)] 34)).alloc (.cells #[.int .u64 a] 28)).cell? ⟨w.heap.size,0,none⟩=some (.pointer (some ⟨P,0,none⟩)):=by simp
  have hY:((w.alloc (.cells #[.pointer (some ⟨P,0,none⟩)] 34)).alloc (.cells #[.int .u64 a] 28)).cell? ⟨w.heap.size+1,0,none⟩=some (.int .u64 a):=by simp
  have hsi:=WN P L Bs B N w.heap.size (w.heap.size+1) a g _ st2 hN h1 hX hY;have hso:=zpp P L Bs B N w.heap.size (w.heap.size+1) a g _ st2 hN h1 hX hY;go_enter func82,ntmps82;generalize hw2:(w.alloc (.cells #[.pointer (some ⟨P,0,none⟩)] 34)).alloc (.cells #[.int .u64 a] 28)=w2 at*;obtain ⟨lc,c0⟩:=st2.p0;have c1:=st2.p1;have c2:=st2.l0;have c3:=st2.l1;have c4:=st2.b0;by_cases hk1:1≤k
  · by_cases ha:a≤N-1
    · have hsi:=hsi ha;have qW:IntKind.wrap .u64 ((N:Int)-a)=N-a:=wrap_u64 _ (by omega) (by omega);have hkn: ¬k≤N-a:=by omega
      go_wp2_with (first
        | (go_at_call 129;refine hsi.mono ?_;rintro e w' ⟨rfl,q,rfl⟩)
        | go_in)
      go_quiet (fail);go_wp2;go_quiet (fail);go_wp2;go_ret;exact ⟨rfl,below_drewN hb2 _⟩
    · have hso:=hso ha;go_wp2_with (first
        | (go_at_call 129;refine hso.mono ?_;rintro e w' ⟨rfl,q,rfl⟩)
        | go_in)
      go_quiet (fail);go_wp2;go_ret;exact ⟨rfl,below_drewN (below_drewN hb2 _) _⟩
  · go_wp2;go_ret;exact ⟨rfl,hb2⟩
theorem Tryz.O0 (a:Option Addr) (n c:Nat) (w:World):(binOp .eql 59 (.slice a n c) (.slice none 0 0)).run prog w= .ok (.bool a.isNone) w:=by
 simp only [binOp];simp [ydn w 59 5 _ _ _ underlying59]
set_option maxRecDepth 100000 in
theorem Tryz.BK (P L Bs B N:Nat) (g:Nat→Int) (w:World) (st:GM w P L Bs B N g):
  Calls prog 80 #[.pointer (some ⟨P,0,none⟩)] w fun e w'=>e= .returned (.bool true)∧w'=w:=by
 have c1:=st.p1;go_enter func80,ntmps80;go_wp2;go_ret;exact ⟨rfl,rfl⟩
theorem Tryz.Vu (k:Nat) (hk:k=1∨k=2∨k=4∨k=8) (w:World):Calls prog 81 #[.int .i64 k] w fun e w'=>e= .returned (.bool true)∧w'=w:=by
 go_enter func81,ntmps81;rcases hk with rfl|rfl|rfl|rfl<;>(go_wp2;go_ret;exact ⟨rfl,rfl⟩)
def Tryz.bW (g:Nat→Int) (a:Nat):Nat→Int
 | 0=>0
 | k+1=>bW g a k+g (a+k)*256^k
theorem Tryz.sV (g:Nat→Int) (hg: ∀j,0≤g j∧g j<256) (a:Nat): ∀k,0≤bW g a k∧bW g a k<256^k
 | 0=>by simp [bW]
 | k+1=>by
  have h:=sV g hg a k;have h2:=hg (a+k);have h3:(0:Int)<256^k:=Int.pow_pos (by omega);have h4:0≤g (a+k)*256^k:=Int.mul_nonneg h2.1 (by omega);have h5:g (a+k)*256^k≤255*256^k:=Int.mul_le_mul_of_nonneg_right (by omega) (by omega);simp only [bW,Int.pow_succ];omega
theorem Tryz.zxY (x y s:Nat) (hx:x<2^s) (hy:y*2^s<2^64) (hs:s≤64):bits .or .u64 (x:Int) ((y*2^s:Nat):Int)=((x+y*2^s:Nat):Int):=by
 have hx':x<2^64:=yae hx (ybO (by omega) hs);have e:x|||y*2^s=x+y*2^s:=by
  rw [ybz y,ycE,←ydK hx,yc5]
 have hlt:x+y*2^s<2^64:=by rw [←e];exact ycS hx' hy
 unfold bits;simp only [ydJ];have ex:(BitVec.ofInt IntKind.u64.bits (x:Int)).toNat=x:=by
  rw [ybt,ybj];exact ya6 hx'
 have ey:(BitVec.ofInt IntKind.u64.bits ((y*2^s:Nat):Int)).toNat=y*2^s:=by
  rw [ybt,ybj];exact ya6 hy
 rw [ex,ey,e];exact wrap_u64 _ (by omega) (by omega)
theorem Tryz.TK (i:Nat):(256:Int)^i=((2^(8*i):Nat):Int):=by
 rw [Nat.pow_mul,Int.natCast_pow];rfl
theorem Tryz.zwA (g:Nat→Int) (hg: ∀j,0≤g j∧g j<256) (a i:Nat) (hi:i<8):bits .or .u64 (bW g a i) (IntKind.wrap .u64 (IntKind.wrap .u64 (g (a+i))*2^(8*i)))=bW g a (i+1):=by
 have hb:=sV g hg a i;have h2:=hg (a+i);obtain ⟨m,hm⟩:=yaM hb.1;obtain ⟨c,hc⟩:=yaM h2.1;have hlt:c*2^(8*i)<2^64:=by
  have h1:c*2^(8*i)<2^8*2^(8*i):=Nat.mul_lt_mul_of_pos_right (by omega) (Nat.pow_pos (by omega));rw [←Nat.pow_add] at h1;exact yae h1 (ybO (by omega) (by omega))
 have hml:m<2^(8*i):=by
  have:=hb.2;rw [hm,TK] at this;exact Int.ofNat_lt.1 this
 simp only [bW];rw [hm,hc,TK];have e1:IntKind.wrap .u64 (c:Int)=c:=wrap_u64 _ (by omega) (by omega);have e2:((c:Int)*2^(8*i))=((c*2^(8*i):Nat):Int):=by push_cast;rfl
 rw [e1,e2,wrap_u64 _ (by omega) (by omega),zxY m c (8*i) hml hlt (by omega)];push_cast;rfl
set_option maxRecDepth 100000 in
theorem Tryz.JG (P L Bs B N a k:Nat) (g:Nat→Int) (w:World) (st:GM w P L Bs B N g) (hN:N≤1048576) (hk:k=1∨k=2∨k=4∨k=8) (hin:a+k≤N):
    Calls prog 119 #[.pointer (some ⟨P,0,none⟩),.int .u64 a,.int .i64 k] w fun e w'=>e= .returned (.tuple #[.int .u64 (bW g a k),.int .i64 0])∧Below w.heap.size w w':=by
  have hq:=O0;have hm:=BK P L Bs B N g w st;have hby:=Jk P L Bs B N a k g w st hN (by omega) hin;have hwk:IntKind.wrap .u64 (k:Int)=k:=wrap_u64 _ (by omega) (by omega);have hiw:=Vu k hk w;go_enter func119,ntmps119;go_wp2_with (first
    | (go_at_call 80;refine hm.mono ?_;rintro e w' ⟨rfl,hw⟩;have hw:=hw.symm;subst hw)
    | (go_at_call 81;refine hiw.mono ?_;rintro e w' ⟨rfl,hw⟩;have hw:=hw.symm;subst hw)
    | (go_at_call 82;refine hby.mono ?_;rintro e w1 ⟨rfl,hb1⟩)
    | go_in)
  go_loopw [9,25] (fun v c wr=> ∃i:Nat,i≤k∧c= .int .i64 i∧v= .int .u64 (bW g a i)∧wr=w1) (fun _ c _=>k-(RowKit.intOf c).toNat)
  case atStart=>exact ⟨0,yar _,rfl,rfl,rfl⟩
  case round=>
    obtain ⟨i,hi,rfl,rfl,rfl⟩:=hrel;by_cases hik:i<k
    · have hc:=(st.below hb1).full (a+i) (by omega);have ho:=zwA g st.byte a i (by omega);go_wp2;exact ⟨⟨i+1,by omega,by push_cast;rfl,rfl,trivial⟩,by simp only [RowKit.intOf];omega⟩
    · have hik':i=k:=by omega
      subst hik';go_wp2;go_ret2;exact ⟨rfl,hb1⟩
structure Tryz.Mv (S:Nat→Prop) (w w':World):Prop where
 os:w'.os=w.os
 tape:w'.tape=w.tape
 output:w'.output=w.output
 size:w.heap.size≤w'.heap.size
 block: ∀k,k<w.heap.size→ ¬S k→w'.heap[k]? =w.heap[k]?
theorem Tryz.Mv.refl (S:Nat→Prop) (w:World):Mv S w w:=⟨rfl,rfl,rfl,yaa _,fun _ _ _=>rfl⟩
theorem Tryz.Mv.of_below {S:Nat→Prop} {w w':World} (h:Below w.heap.size w w'):Mv S w w':=⟨h.os,h.tape,h.output,h.size,fun k hk _=>h.block k hk⟩
theorem Tryz.Mv.setCell {S:Nat→Prop} {a w:World} (h:Mv S a w) (b o:Nat) (v:Value) (hb:S b∨a.heap.size≤b):Mv S a (w.setCell ⟨b,o,none⟩ v):=
 ⟨h.os,h.tape,h.output,yas h.size (by simp),fun k hk h1=>(ya5 w _ _ k (fun e=>by
  have e':k=b:=e;rcases hb with h2|h2
  ·exact h1 (e'▸h2)
  ·omega)).trans (h.block k hk h1)⟩
theorem Tryz.Mv.grown {S:Nat→Prop} {a w w':World} {r:Nat} (h:Mv S a w) (hg:w.grownBy w' (some r)) (hr:S r∨a.heap.size≤r):Mv S a w':=
  ⟨hg.os.trans h.os,hg.tape.trans h.tape,hg.output.trans h.output,yas h.size hg.size,fun k hk h1=>
    (hg.block k (yae hk h.size) (fun e=>by
      have e':=yaE e;rcases hr with h2|h2
      · exact h1 (e'▸h2)
      · omega)).trans (h.block k hk h1)⟩
theorem Tryz.Mv.below {S:Nat→Prop} {base:Nat} {w w':World} (h:Mv S w w') (hS: ∀k,S k→base≤k) (hw:base≤w.heap.size):Below base w w':=
 ⟨h.os,h.tape,h.output,h.size,fun k hk=>h.block k (by omega) (fun h1=>by have:=hS k h1;omega)⟩
theorem Tryz.GM.congr {w:World} {P L Bs B N:Nat} {g g':Nat→Int} (h:GM w P L Bs B N g) (hf: ∀j,g' j=g j):GM w P L Bs B N g':=by
 have:g'=g:=funext hf;rw [this];exact h
theorem Tryz.GM.Ee {w:World} {P L Bs B N:Nat} {g:Nat→Int} (h:GM w P L Bs B N g) (j:Nat) (hj:j<N) (x:Int) (hx0:0≤x) (hx1:x<256):GM (w.setCell ⟨B,j,none⟩ (.int .u8 x)) P L Bs B N (fun q=>if q=j then x else g q):=by
 have hk: ∀k,k≠B→(w.setCell ⟨B,j,none⟩ (.int .u8 x)).heap[k]? =w.heap[k]? :=fun k hk=>ya5 w _ _ k hk;have eP:=hk P h.pb;have eL:=hk L h.lb;have eS:=hk Bs h.sb;refine ⟨?_,?_,?_,?_,?_,fun q hq=> ?_,fun q hq=> ?_,fun q=> ?_,h.pb,h.lb,h.sb,yae h.bl (by simp)⟩
 ·obtain ⟨c,h0⟩:=h.p0;exact ⟨c,by rw [yal (a:=⟨P,0,none⟩) eP];exact h0⟩
 ·rw [yal (a:=⟨P,1,none⟩) eP];exact h.p1
 ·rw [yal (a:=⟨L,0,none⟩) eL];exact h.l0
 ·rw [yal (a:=⟨L,1,none⟩) eL];exact h.l1
 ·rw [yal (a:=⟨Bs,0,none⟩) eS];exact h.b0
 ·by_cases hqj:q=j
  ·subst hqj;rw [yak rfl];exact ybR _ _ _ (by rw [h.full q hq];rfl)
  ·rw [yah hqj,yaN w ⟨B,j,none⟩ ⟨B,q,none⟩ _ (fun e=>hqj (yaB Addr.off e).symm)];exact h.full q hq
 ·rw [ydc];exact h.free q hq
 ·by_cases hqj:q=j
  ·rw [yak hqj];exact ⟨hx0,hx1⟩
  ·rw [yah hqj];exact h.byte q
def Tryz.iK (g:Nat→Int) (a k:Nat) (v:Int) (j:Nat):Int:=if a≤j∧j<a+k then v/2^(8*(j-a))%256 else g j
theorem Tryz.Yf (g:Nat→Int) (a:Nat) (v:Int) (j:Nat):iK g a 0 v j=g j:=by
 unfold iK;rw [yah (by omega)]
theorem Tryz.Ye (g:Nat→Int) (a i:Nat) (v:Int) (j:Nat):iK g a (i+1) v j=if j=a+i then v/2^(8*i)%256 else iK g a i v j:=by
 unfold iK;by_cases hj:j=a+i
 ·subst hj;rw [yak (by omega),yak rfl,show a+i-a=i by omega]
 ·rw [yah hj];by_cases h2:a≤j∧j<a+i
  ·rw [yak (by omega),yak h2]
  ·rw [yah (by omega),yah h2]
theorem Tryz.wrap_u8 (x:Int):IntKind.wrap .u8 x=x%256:=by unfold IntKind.wrap;simp [IntKind.signed,IntKind.bits]
set_option maxRecDepth 100000 in
theorem Tryz.uZ (P L Bs B N a k:Nat) (v:Int) (g:Nat→Int) (w:World) (st:GM w P L Bs B N g) (hN:N≤1048576) (hk:k=1∨k=2∨k=4∨k=8) (hin:a+k≤N):
    Calls prog 18 #[.pointer (some ⟨P,0,none⟩),.int .u64 a,.int .i64 k,.int .u64 v] w fun e w'=>e= .returned (.int .i64 0)∧GM w' P L Bs B N (iK g a k v)∧Mv (· =B) w w':=by
  have hq:=O0;have hm:=BK P L Bs B N g w st;have hby:=Jk P L Bs B N a k g w st hN (by omega) hin;have hwk:IntKind.wrap .u64 (k:Int)=k:=wrap_u64 _ (by omega) (by omega);have hiw:=Vu k hk w;go_enter func18,ntmps18;go_wp2_with (first
    | (go_at_call 80;refine hm.mono ?_;rintro e w' ⟨rfl,hw⟩;have hw:=hw.symm;subst hw)
    | (go_at_call 81;refine hiw.mono ?_;rintro e w' ⟨rfl,hw⟩;have hw:=hw.symm;subst hw)
    | (go_at_call 82;refine hby.mono ?_;rintro e w1 ⟨rfl,hb1⟩)
    | go_in)
  go_loopw [25] (fun c wr=> ∃i:Nat,i≤k∧c= .int .i64 i∧GM wr P L Bs B N (iK g a i v)∧Mv (· =B) w wr) (fun c _=>k-(RowKit.intOf c).toNat)
  case atStart=>exact ⟨0,yar _,rfl,(st.below hb1).congr (fun j=>Yf g a v j),Mv.of_below hb1⟩
  case round=>
    obtain ⟨i,hi,rfl,st',mv⟩:=hrel;by_cases hik:i<k
    · have hc:=st'.full (a+i) (by omega);have hf:=st'.free (a+i) (by omega);have hw8:=wrap_u8 (v/2^(8*i));go_wp2;exact ⟨⟨i+1,by omega,by push_cast;rfl,(st'.Ee (a+i) (by omega) _ (ybI _ (by omega)) (ybC _ (by omega))).congr (fun j=>Ye g a i v j),mv.setCell _ _ _ (Or.inl rfl)⟩,by simp only [RowKit.intOf];omega⟩
    · have hik':i=k:=by omega
      subst hik';go_wp2;go_ret;exact ⟨rfl,st',mv⟩
theorem Tryz.FO:(prog.info? 5).map (fun i=>(i.zero,i.size,i.bytes))=some (some (.int .u8 0),1,1):=by kernel_rfl
theorem Tryz.aX {w w':World} {b o:Nat} {cs:List Value} (h:w.rangeAt b o cs) (e:w'.heap[b]? =w.heap[b]?):w'.rangeAt b o cs:=fun j v hv=>by
 rw [yal (a:=⟨b,o+j,none⟩) e];exact h j v hv
set_option maxRecDepth 100000 in
theorem Tryz.zun (n:Nat) (w:World) (h1:1≤n) (hn:n≤1048576):
  Calls prog 140 #[.slice none 0 0,.int .i64 n] w fun e w'=> ∃cap,e= .returned (.slice (some ⟨w.heap.size,0,none⟩) 0 cap)∧w'.ownsRow w.heap.size 5 1 (.slice (some ⟨w.heap.size,0,none⟩) 0 cap) 0 []∧Below w.heap.size w w':=by
 obtain ⟨i0,hi0,hz0,hz1,hzb⟩:=yba FO;have hnc:Builtin.nextslicecap n 0=n:=nextslicecap_zero (by omega);have hb1:t5.bytes=1:=rfl;go_enter func140,ntmps140;go_wp2;refine yap (ycy rfl _ _ _) rfl ?_;have hge:=grownCap_ge w n 0 5;have hle:=grownCap_le_maxLen w n 0 5 (by unfold maxLen;omega);refine ⟨_,rfl,⟨by simp,Or.inr ⟨w.heap.size,grownCap w n 0 5,_,rfl,yaa _,ycM w _,yar _,hle,?_,by simp⟩⟩,((yab _ w).alloc (yaa _) _).drew⟩;simp only [ycV,size_zeroCells];show n*1+(grownCap w n 0 5-n)*1=_;omega
def Tryz.row (g:Nat→Int) (a n:Nat):List Value:=(List.range n).map fun j=> .int .u8 (g (a+j))
theorem Tryz.Ou (g:Nat→Int) (a n:Nat):(row g a n).length=n:=by simp [row]
theorem Tryz.row_one (g:Nat→Int) (a n:Nat): ∀v∈row g a n,v.oneCell'=true:=fun v hv=>by
 obtain ⟨j,_,rfl⟩:=yaY.1 hv;rfl
theorem Tryz.GM.range {w:World} {P L Bs B N:Nat} {g:Nat→Int} (h:GM w P L Bs B N g) (a n:Nat) (hn:a+n≤N):w.rangeAt B a (row g a n):=by
 intro j v hv;simp only [row,ybf,yb3] at hv;obtain ⟨k,hk,rfl⟩:=hv;rw [yat] at hk;obtain ⟨h1,h2⟩:=hk;simp at h1 h2;subst h2;exact h.full (a+j) (by omega)
set_option maxRecDepth 100000 in
theorem Tryz.zpY (P L Bs B N:Nat) (g:Nat→Int) (w:World) (st:GM w P L Bs B N g) (h1:1≤N) (hN:N≤1048576):
    Calls prog 91 #[.slice (some ⟨Bs,0,none⟩) 1 2] w fun e w'=> ∃v,e= .returned v∧w'.ownsRow w.heap.size 5 1 v N (row g 0 N)∧Below w.heap.size w w':=by
  obtain ⟨i0,hi0,hz0,hz1,hzb⟩:=yba FO;have hgr:=fun w=>zun N w h1 hN;have c0:=st.b0;go_enter func91,ntmps91;go_wp2;go_loopw [3,11] (fun s i wr=>wr=w∧((i= .int .i64 0∧s= .int .i64 0)∨(i= .int .i64 1∧s= .int .i64 N))) (fun _ i _=>1-(RowKit.intOf i).toNat)
  case atStart=>exact ⟨rfl,Or.inl ⟨rfl,rfl⟩⟩
  case round=>
    obtain ⟨hw,hrel⟩:=hrel;have hw:=hw.symm;subst hw;rcases hrel with ⟨rfl,rfl⟩|⟨rfl,rfl⟩
    · go_wp2;exact ⟨⟨trivial,Or.inr ⟨rfl,rfl⟩⟩,by simp [RowKit.intOf]⟩
    · go_wp2_with (first
        | (go_at_call 140;refine (hgr _).mono ?_;rintro e w1 ⟨aae,rfl,yH,hb1⟩)
        | go_in)
      go_loopw [6,27] (fun v i w2=>(i= .int .i64 0∧v= .slice (some ⟨w.heap.size,0,none⟩) 0 aae∧w2=w1)∨(i= .int .i64 1∧w2.ownsRow w.heap.size 5 1 v N (row g 0 N)∧Below w.heap.size w w2)) (fun _ i _=>1-(RowKit.intOf i).toNat)
      case atStart=>exact Or.inl ⟨rfl,rfl,rfl⟩
      case round=>
        have c1:=(st.below hb1).b0;have hr1:=(st.below hb1).range 0 N (by omega);have hbl:=st.bl;rcases hrel with ⟨rfl,rfl,rfl⟩|⟨rfl,hrow2,hb2⟩
        · go_wp2_with (first
            | (at_builtin;go_loud (refine ybV _ rfl _ _ 59 rfl w.heap.size 5 i0 (.int .u8 0) 1 1 underlying59 hi0 hz0 hz1 hzb rfl (by decide) _ _ _ rfl yH ⟨B,0,none⟩ N N (row g 0 N) rfl (by rw [Ou];simp) (fun j v hv=>by rw [ydb];exact hr1 j v hv) (row_one g 0 N) (by unfold maxLen;omega) (by omega) hb1.size ?_);intro v' w3 hown' hg3 hnil3;go_frame)
            | go_in)
          exact ⟨Or.inr ⟨rfl,by simpa using hown',hb1.grown hg3 hb1.size (fun j hj=>(yH.lt j hj).1)⟩,by simp [RowKit.intOf]⟩
        · go_wp2;go_ret;exact ⟨_,rfl,hrow2,hb2⟩
set_option maxRecDepth 100000 in
theorem Tryz.zr1 (P L Bs B N:Nat) (g:Nat→Int) (w:World) (st:GM w P L Bs B N g) (h1:1≤N) (hN:N≤1048576):
    Calls prog 36 #[.pointer (some ⟨P,0,none⟩)] w fun e w'=> ∃v,e= .returned v∧w'.ownsRow w.heap.size 5 1 v N (row g 0 N)∧Below w.heap.size w w':=by
  have hm:=BK P L Bs B N g w st;have hc:=zpY P L Bs B N g w st h1 hN;have c1:=st.p1;go_enter func36,ntmps36;go_wp2_with (first
    | (go_at_call 80;refine hm.mono ?_;rintro e w' ⟨rfl,hw⟩;have hw:=hw.symm;subst hw)
    | (go_at_call 91;refine hc.mono ?_;rintro e w1 ⟨v1,rfl,yH,hb1⟩)
    | go_in)
  go_ret;exact ⟨_,rfl,yH,hb1⟩
set_option maxRecDepth 100000 in
theorem Tryz.EB (P L Bs B N:Nat) (a:Int) (g:Nat→Int) (w:World) (st:GM w P L Bs B N g):
    Calls prog 53 #[.pointer (some ⟨P,0,none⟩),.int .u64 a,.int .i64 0] w fun e w'=>e= .returned (.tuple #[.slice none 0 0,.int .i64 0])∧w'=w:=by
  have hm:=BK P L Bs B N g w st;go_enter func53,ntmps53;go_wp2_with (first
    | (go_at_call 80;refine hm.mono ?_;rintro e w' ⟨rfl,hw⟩;have hw:=hw.symm;subst hw)
    | go_in)
  go_ret2;exact ⟨rfl,rfl⟩
set_option maxRecDepth 100000 in
theorem Tryz.Jz (P L Bs B N:Nat) (a n:Int) (g:Nat→Int) (w:World) (st:GM w P L Bs B N g) (hN:N≤1048576) (h1:1≤N) (ha0:0≤a) (ha1:a<18446744073709551616) (hn:0≤n):
    Calls prog 55 #[.pointer (some ⟨P,0,none⟩),.int .u64 a,.int .u64 n] w fun e w'=>e= .returned (.bool (decide (1≤n∧a+n≤N)))∧Below w.heap.size w w':=by
  have hm:=BK P L Bs B N g w st;by_cases hin:1≤n∧a+n≤N
  · rw [yaH hin];obtain ⟨a',rfl⟩:=yaM ha0;obtain ⟨n',rfl⟩:=yaM hn;have hby:=Jk P L Bs B N a' n' g w st hN (by omega) (by omega);go_enter func55,ntmps55;go_wp2_with (first
      | (go_at_call 80;refine hm.mono ?_;rintro e w' ⟨rfl,hw⟩;have hw:=hw.symm;subst hw)
      | (go_at_call 82;refine hby.mono ?_;rintro e w1 ⟨rfl,hb1⟩)
      | go_in)
    go_ret;exact ⟨rfl,hb1⟩
  · rw [yao hin];have hby:=zsD P L Bs B N a n g w st hN h1 ha0 ha1 hn hin;go_enter func55,ntmps55;go_wp2_with (first
      | (go_at_call 80;refine hm.mono ?_;rintro e w' ⟨rfl,hw⟩;have hw:=hw.symm;subst hw)
      | (go_at_call 82;refine hby.mono ?_;rintro e w1 ⟨rfl,hb1⟩)
      | go_in)
    go_ret;exact ⟨rfl,hb1⟩
def Tryz.eY (g:Nat→Int) (a:Nat):List Int→Nat→Int
 | [] => g
 | x::r=>eY (fun q=>if q=a then x else g q) (a+1) r
theorem Tryz.GM.Ef {P L Bs B N:Nat}: ∀(xs:List Int) (a:Nat) (g:Nat→Int) (w:World),GM w P L Bs B N g→a+xs.length≤N→(∀x∈xs,0≤x∧x<256)→GM (w.setCells B a (xs.map (Value.int .u8))) P L Bs B N (eY g a xs)
 | [], _,_,_,h,_,_=>h
 | x::r,a,g,w,h,hl,hb=>by
  rw [yaU,World.setCells,eY];rw [yaX] at hl;have hx:=hb x (by simp);exact GM.Ef r (a+1) _ _ (h.Ee a (by omega) x hx.1 hx.2) (by omega) (fun y hy=>hb y (by simp [hy]))
theorem Tryz.Ns (b:Nat): ∀(vs:List Value) (o:Nat) (w:World),w.grownBy (w.setCells b o vs) (some b)
 | [], _,w=>⟨rfl,rfl,rfl,yaa _,fun _ _ _=>rfl⟩
 | v::r,o,w=>by
  rw [World.setCells];have h2:=Ns b r (o+1) (w.setCell ⟨b,o,none⟩ v);exact ⟨h2.os,h2.tape,h2.output,yas (by simp) h2.size,fun k hk hne=>(h2.block k (by simpa using hk) hne).trans (ya5 w _ _ k (fun e=>hne (by rw [e])))⟩
set_option maxRecDepth 100000 in
theorem Tryz.wT (P L Bs B N a R o c:Nat) (xs:List Int) (g:Nat→Int) (w:World) (st:GM w P L Bs B N g) (hN:N≤1048576) (hn:1≤xs.length) (hin:a+xs.length≤N) (hb: ∀x∈xs,0≤x∧x<256)
    (hr:w.rangeAt R o (xs.map (Value.int .u8))) (hR:R<w.heap.size):
    Calls prog 22 #[.pointer (some ⟨P,0,none⟩),.int .u64 a,.slice (some ⟨R,o,none⟩) xs.length c] w fun e w'=>e= .returned (.int .i64 0)∧GM w' P L Bs B N (eY g a xs)∧Mv (· =B) w w':=by
  have hq:=O0;have hm:=BK P L Bs B N g w st;have hby:=Jk P L Bs B N a xs.length g w st hN (by omega) hin;have hwk:IntKind.wrap .u64 (xs.length:Int)=xs.length:=wrap_u64 _ (by omega) (by omega);have hcp:=fun w1 (h:Below w.heap.size w w1)=>run_copy_cells (P:=prog) w1 59 59 3 5 B a xs.length (N-a) ⟨R,o,none⟩ xs.length c (xs.map (Value.int .u8)) underlying59 (by kernel_rfl) (by simp) (fun j v hv=>by rw [ydb];exact (aX hr (h.block R hR)) j v hv)
    (fun j hj=>by rw [(st.below h).full (a+j) (by simp at hj;omega)];rfl) (fun j hj=>(st.below h).free (a+j) (by simp at hj;omega)) (fun v hv=>by obtain ⟨x,_,rfl⟩:=yaY.1 hv;rfl)
  rw [yaK] at hcp;go_enter func22,ntmps22;go_wp2_with (first
    | (go_at_call 80;refine hm.mono ?_;rintro e w' ⟨rfl,hw⟩;have hw:=hw.symm;subst hw)
    | (go_at_call 82;refine hby.mono ?_;rintro e w1 ⟨rfl,hb1⟩;have hcp1:=hcp _ hb1)
    | go_in)
  go_ret;exact ⟨rfl,(st.below hb1).Ef xs a g _ hin hb,(Mv.of_below hb1).grown (Ns B _ _ _) (Or.inl rfl)⟩
set_option maxRecDepth 100000 in
theorem Tryz.zsz (R N c:Nat) (w:World) (c0:w.cell? ⟨R,0,none⟩=some (.int .u64 0)) (c1:w.cell? ⟨R,1,none⟩=some (.int .u64 N)) (h1:1≤N) (hN:N≤1048576):
  Calls prog 50 #[.slice (some ⟨R,0,none⟩) 1 c] w fun e w'=>e= .returned (.int .i64 0)∧Below w.heap.size w w':=by
 have hR:=yan w _ c0;have e1:IntKind.wrap .u64 ((N:Int)-1)=N-1:=wrap_u64 _ (by omega) (by omega);have e2:IntKind.wrap .u64 (1048576-(N:Int))=1048576-N:=wrap_u64 _ (by omega) (by omega);go_enter func50,ntmps50;go_wp2;go_loopw [3,12] (fun r i w2=>(i= .int .i64 0∧r= .int .u64 1048576∧w2=w)∨(i= .int .i64 1∧Below w.heap.size w w2)) (fun _ i _=>1-(RowKit.intOf i).toNat)
 case atStart=>exact Or.inl ⟨rfl,rfl,rfl⟩
 case round=>
  rcases hrel with ⟨rfl,rfl,hw⟩|⟨rfl,hb⟩
  ·have hw:=hw.symm;subst hw;go_wp2;exact ⟨Or.inr ⟨rfl,(yab _ w).alloc (yaa _) _⟩,by simp [RowKit.intOf]⟩
  ·go_wp2;go_ret;exact ⟨rfl,hb⟩
theorem Tryz.zwQ:(prog.info? 38).map (fun i=>(i.zero,i.size,i.bytes))=some (some (.agg #[.int .u64 0,.int .u64 0]),2,16):=by kernel_rfl
theorem Tryz.zwP:(prog.info? 59).map (fun i=>(i.zero,i.size,i.bytes))=some (some (.slice none 0 0),1,24):=by kernel_rfl
theorem Tryz.ztx (a:Option Addr) (n c:Nat) (w:World):(binOp .eql 39 (.slice a n c) (.slice none 0 0)).run prog w= .ok (.bool a.isNone) w:=by
 simp only [binOp];simp [ydn w 39 38 _ _ _ underlying39]
theorem Tryz.Vx (w:World) (cs:Array Value) (t:TypeId) (o:Nat):(w.alloc (.cells cs t)).frozen? ⟨w.heap.size,o,none⟩=false:=by
 have e:=ycM w (.cells cs t);simp only [World.frozen?,e];simp
set_option maxRecDepth 100000 in
theorem Tryz.Wo (R N c:Nat) (w:World) (c0:w.cell? ⟨R,0,none⟩=some (.int .u64 0)) (c1:w.cell? ⟨R,1,none⟩=some (.int .u64 N)):
    Calls prog 51 #[.slice (some ⟨R,0,none⟩) 1 c] w fun e w'=> ∃L cap,e= .returned (.slice (some ⟨L,0,none⟩) 1 cap)∧w.heap.size≤L∧w'.cell? ⟨L,0,none⟩=some (.int .u64 0)∧w'.cell? ⟨L,1,none⟩=some (.int .u64 N)∧Below w.heap.size w w':=by
  have hq:=ztx;have hR:=yan w _ c0;obtain ⟨i0,hi0,hz0,hz1,hzb⟩:=yba zwQ;have lF:=yco (base:=w.heap.size) (e:=38) (size:=2) w #[] 0 (yaa _) (by unfold maxLen;omega) rfl;have hb0:=(yab w.heap.size w).alloc (yaa _) (.cells #[] 38);have hr:(w.alloc (.cells #[] 38)).rangeAt R 0 [.int .u64 0,.int .u64 N]:=by
    refine aX (w:=w) ?_ (ycd w _ R hR);intro j v hv
    match j with
    | 0=>cases hv;exact c0
    | 1=>cases hv;exact c1
    | j+2=>cases hv
  go_enter func51,ntmps51;go_wp2_with (first
    | (at_builtin;go_loud (refine ybV _ rfl _ _ 39 rfl w.heap.size 38 i0 (.agg #[.int .u64 0,.int .u64 0]) 2 16 underlying39 hi0 hz0 hz1 hzb rfl (by decide) _ _ _ rfl lF ⟨R,0,none⟩ 1 c [.int .u64 0,.int .u64 N] rfl rfl (fun j v hv=>by rw [ydb];exact hr j v hv) (by simp [Value.oneCell']) (by unfold maxLen;omega) (by omega) (by simp) ?_);intro v' w3 hown' hg3 hnil3;go_frame)
    | go_in)
  go_ret;rcases hown'.2 with ⟨_,h⟩|⟨L,cap,cur,rfl,hL,hblk,h1,h2,h3,h4⟩
  · omega
  · have e0:cur[0]? =some (.int .u64 0):=by
      have:=yaB (fun l:List Value=>l[0]?) h4;simpa using this
    have e1:cur[1]? =some (.int .u64 N):=by
      have:=yaB (fun l:List Value=>l[1]?) h4;simpa using this
    refine ⟨L,⟨cap,rfl⟩,hL,?_,?_,hb0.grown hg3 (by simp) (fun j hj=>(lF.lt j hj).1)⟩
    · rw [ydm _ L 0 cur _ (0,0) hblk];exact e0
    · rw [ydm _ L 1 cur _ (0,0) hblk];exact e1
set_option maxRecDepth 100000 in
theorem Tryz.zwH (R N c:Nat) (w:World) (c0:w.cell? ⟨R,0,none⟩=some (.int .u64 0)) (c1:w.cell? ⟨R,1,none⟩=some (.int .u64 N)) (h1:1≤N) (hN:N≤1048576):
    Calls prog 9 #[.slice (some ⟨R,0,none⟩) 1 c] w fun e w'=> ∃P L Bs B,e= .returned (.tuple #[.pointer (some ⟨P,0,none⟩),.int .i64 0])∧GM w' P L Bs B N (fun _=>0)∧Below w.heap.size w w'∧w.heap.size≤P∧w.heap.size≤L∧w.heap.size≤Bs∧w.heap.size≤B:=by
  obtain ⟨i0,hi0,hz0,hz1,hzb⟩:=yba zwP;obtain ⟨i1,hi1,hy0,hy1,hyb⟩:=yba FO;have hch:=zsz R N c w c0 c1 h1 hN;have hcl:=fun w1 (h:Below w.heap.size w w1)=>Wo R N c w1 ((h.cell (yan w _ c0)).trans c0) ((h.cell (yan w _ c1)).trans c1);have hmk:=fun w=>ydq (P:=prog) w 116 59 i0 (.slice none 0 0) underlying116 hi0 hz0 .i64 .i64 1 2 (by omega) (by omega) (by rw [hz1];decide) (by rw [hzb];decide) (by decide);have hmc:madeCells (Value.slice none 0 0).cells (2*1)= #[.slice none 0 0,.slice none 0 0]:=by kernel_rfl
  simp only [hz1,show (Int.toNat 1)=1 from rfl,show (Int.toNat 2)=2 from rfl,hmc] at hmk;have hw2:IntKind.wrap .i64 2=2:=by decide
  go_enter func9,ntmps9;go_wp2_with (first
    | (go_at_call 50;refine hch.mono ?_;rintro e w1 ⟨rfl,hb1⟩)
    | go_in)
  have d0:=(hb1.cell (yan w _ c0)).trans c0;have d1:=(hb1.cell (yan w _ c1)).trans c1;have RA:R<w1.heap.size:=yan w1 _ d0;go_cut [5] from 13 to 22 (fun p wx=> ∃P L Bs lc,p= .pointer (some ⟨P,0,none⟩)∧wx.cell? ⟨P,0,none⟩=some (.slice (some ⟨L,0,none⟩) 1 lc)∧wx.cell? ⟨P,1,none⟩=some (.slice (some ⟨Bs,0,none⟩) 1 2)∧
    wx.cell? ⟨L,0,none⟩=some (.int .u64 0)∧wx.cell? ⟨L,1,none⟩=some (.int .u64 N)∧wx.cell? ⟨Bs,0,none⟩=some (.slice none 0 0)∧wx.frozen? ⟨Bs,0,none⟩=false∧w.heap.size≤P∧w.heap.size≤L∧w.heap.size≤Bs∧P≠Bs∧L≠Bs∧Below w.heap.size w wx)
  case first=>
    go_region_with (first
      | (go_at_call 51;refine (Wo R N c _ ?_ ?_).mono ?_;exact (by first|exact d0|exact ((yal (a:=⟨R,0,none⟩) (ycd w1.drew _ R RA)).trans d0));exact (by first|exact d1|exact ((yal (a:=⟨R,1,none⟩) (ycd w1.drew _ R RA)).trans d1));rintro e w2 ⟨L,lc,rfl,hL,hl0,hl1,hb2⟩))
    all_goals (go_wp2_with fail;go_meet)
    · have yg:L<w2.heap.size:=yan _ _ hl0;have hbx:=((yab w2.heap.size w2).alloc (yaa _) (.cells #[.slice none 0 0,.slice none 0 0] 59)).alloc (by simp) (.cells #[.slice (some ⟨L,0,none⟩) 1 lc,.slice (some ⟨w2.heap.size,0,none⟩) 1 2] 118);have z:=hb2.size;have z1:=hb1.size;have z2:w1.drew.heap.size=w1.heap.size:=rfl;exact ⟨w2.heap.size+1,L,w2.heap.size,lc,rfl,by simp,by simp,(hbx.cell (p:=⟨L,0,none⟩) yg).trans hl0,(hbx.cell (p:=⟨L,1,none⟩) yg).trans hl1,by simp,((ycs (a:=⟨w2.heap.size,0,none⟩) (ycd _ _ _ (by simp))).trans (Vx w2 _ _ 0)),by omega,by omega,by omega,by omega,by omega,
        (hb1.trans (((yab _ w1).drew.trans hb2).mono hb1.size)).trans (hbx.mono (by omega))⟩
    · have yg:L<w2.heap.size:=yan _ _ hl0;have hbx:=(yab w2.heap.size w2).alloc (yaa _) (.cells #[.slice (some ⟨L,0,none⟩) 1 lc,.slice (some ⟨w1.heap.size,0,none⟩) 1 2] 118);have z:=hb2.size;have z1:=hb1.size;have z2:w1.drew.heap.size=w1.heap.size:=rfl;have z3:(w1.alloc (.cells #[.slice none 0 0,.slice none 0 0] 59)).drew.heap.size=w1.heap.size+1:=by simp
      rw [z3] at z hL hb2;have q0:(w1.alloc (.cells #[.slice none 0 0,.slice none 0 0] 59)).drew.cell? ⟨w1.heap.size,0,none⟩=some (.slice none 0 0):=by simp
      have q1:(w1.alloc (.cells #[.slice none 0 0,.slice none 0 0] 59)).drew.frozen? ⟨w1.heap.size,0,none⟩=false:=Vx w1 _ _ 0;exact ⟨w2.heap.size,L,w1.heap.size,lc,rfl,by simp,by simp,(hbx.cell (p:=⟨L,0,none⟩) yg).trans hl0,(hbx.cell (p:=⟨L,1,none⟩) yg).trans hl1,
        (hbx.cell (p:=⟨w1.heap.size,0,none⟩) (by show w1.heap.size<_;omega)).trans ((hb2.cell (p:=⟨w1.heap.size,0,none⟩) (by show w1.heap.size<_;omega)).trans q0),
        (hbx.frozen (p:=⟨w1.heap.size,0,none⟩) (by show w1.heap.size<_;omega)).trans ((hb2.frozen (p:=⟨w1.heap.size,0,none⟩) (by show w1.heap.size<_;omega)).trans q1),by omega,by omega,by omega,by omega,by omega,
        (hb1.trans ((((yab _ w1).alloc (yaa _) _).drew).mono hb1.size)).trans ((hb2.mono (by omega)).trans (hbx.mono (by omega)))⟩
  case rest=>
    obtain ⟨P,L,Bs,lc,rfl,d0,d1,d2,d3,d4,d5,d6,d7,d8,d9,d10,hbx⟩:=hcut;have aaP:=fun w=>ydq (P:=prog) w 59 5 i1 (.int .u8 0) underlying59 hi1 hy0 .u64 .u64 N N (by omega) (ybY _) (by rw [hy1];omega) (by rw [hyb];omega) (by omega);simp only [hy1,yaS] at aaP;have hR2:R<w.heap.size:=yan w _ c0;have r0:=(hbx.cell (p:=⟨R,0,none⟩) hR2).trans c0;have r1:=(hbx.cell (p:=⟨R,1,none⟩) hR2).trans c1;have lP:P<wc.heap.size:=yan wc _ d0;have lL:L<wc.heap.size:=yan wc _ d2;have lB:Bs<wc.heap.size:=yan wc _ d4;have hb3:=(yab wc.heap.size wc).alloc (yaa _) (.cells #[.int .u64 0,.int .u64 N] 38);have f1:=(hb3.cell (p:=⟨P,1,none⟩) lP).trans d1;have f4:=(hb3.cell (p:=⟨Bs,0,none⟩) lB).trans d4;have f5:=(hb3.frozen (p:=⟨Bs,0,none⟩) lB).trans d5;go_wp2;go_loopw [25] (fun i wr=>(i= .int .i64 0∧wr=wc)∨(i= .int .i64 1∧ ∃B,GM wr P L Bs B N (fun _=>0)∧Below w.heap.size w wr∧w.heap.size≤B)) (fun i _=>1-(RowKit.intOf i).toNat)
    case atStart=>exact Or.inl ⟨rfl,rfl⟩
    case round=>
      rcases hrel with ⟨rfl,hw⟩|⟨rfl,B,st,hb,hB⟩
      · have hw:=hw.symm;subst hw;go_wp2;go_region;go_wp2_with fail;obtain ⟨C,hC⟩: ∃C,madeCells #[Value.int .u8 0] N=C:=⟨_,rfl⟩;have h1C: ∀j,j<N→C[j]? =some (.int .u8 0):=by
          intro j hj;rw [←hC];simp [madeCells,hj,Nat.mod_one]
        rw [hC];obtain ⟨w4,h4⟩: ∃w4,wc.setCell ⟨Bs,0,none⟩ (.slice (some ⟨wc.heap.size+1,0,none⟩) N N)=w4:=⟨_,rfl⟩;have z4:w4.heap.size=wc.heap.size:=by rw [←h4];simp
        have k4: ∀(a:Addr),a.block≠Bs→w4.cell? a=wc.cell? a:=fun a ha=>by rw [←h4];exact yaN wc ⟨Bs,0,none⟩ a _ (fun e=>ha (yaB Addr.block e).symm)
        have b4:w4.cell? ⟨Bs,0,none⟩=some (.slice (some ⟨wc.heap.size+1,0,none⟩) N N):=by rw [←h4];exact ybR _ _ _ (by rw [d4];rfl)
        have v4:Mv (· =Bs) wc w4:=by rw [←h4];exact (Mv.refl _ wc).setCell _ _ _ (Or.inl rfl)
        rw [h4];clear h4;have hb6:=((yab w4.heap.size w4).alloc (yaa _) (.cells #[.int .u64 0,.int .u64 N] 38)).alloc (by simp) (.cells C 5);have q6:(((w4.alloc (.cells #[.int .u64 0,.int .u64 N] 38)).alloc (.cells C 5)).drew).heap[wc.heap.size+1]? =some (.cells C 5 (0,0)):=by
          have:=ycM (w4.alloc (.cells #[.int .u64 0,.int .u64 N] 38)) (.cells C 5);rw [show (w4.alloc (.cells #[.int .u64 0,.int .u64 N] 38)).heap.size=wc.heap.size+1 by simp [z4]] at this;exact this
        have hcell: ∀(a:Addr) v,a.block≠Bs→wc.cell? a=some v→(((w4.alloc (.cells #[.int .u64 0,.int .u64 N] 38)).alloc (.cells C 5)).drew).cell? a=some v:=fun a v ha hv=>
          (hb6.cell (p:=a) (by rw [z4];exact yan wc _ hv)).trans ((k4 a ha).trans hv)
        refine ⟨Or.inr ⟨rfl,wc.heap.size+1,⟨⟨lc,hcell _ _ d9 d0⟩,hcell _ _ d9 d1,hcell _ _ d10 d2,hcell _ _ d10 d3,(hb6.cell (p:=⟨Bs,0,none⟩) (by rw [z4];exact lB)).trans b4,fun j hj=> ?_,fun j hj=> ?_,fun j=>⟨ybY _,by omega⟩,by omega,by omega,by omega,?_⟩,?_,?_⟩,by simp [RowKit.intOf]⟩
        · rw [ydm _ _ j C _ (0,0) q6];exact h1C j hj
        · simp [World.frozen?,q6]
        · simp [z4]
        · exact hbx.trans ((v4.below (fun k hk=>by rw [hk];exact d8) (hbx.size)).trans ((hb6.mono (by rw [z4];exact hbx.size)).drew))
        · have:=hbx.size;omega
      · go_wp2;go_ret2;exact ⟨P,L,Bs,B,rfl,st,hb,d6,d7,d8,hB⟩
end Go.Proofs
namespace Go.Dw
inductive T (α:Type) where
 | leaf
 | node (l:T α) (v:Option α) (r:T α)
namespace T
variable {α:Type}
noncomputable def get (t:T α):Nat→Option α:=
 T.rec (motive:=fun _=>Nat→Option α) (fun _=>none)
  (fun _ v _ il ir n=>Nat.casesOn n v (fun m=>Nat.casesOn (Nat.mod m 2) (il (Nat.div m 2)) (fun _=>ir (Nat.div m 2)))) t
noncomputable def DZ (v:Option α) (r l:T α):T α:=T.casesOn l (.node .leaf v r) (fun a b c=> .node (.node a b c) v r)
noncomputable def D5 (v:Option α) (l r:T α):T α:=T.casesOn r (.node l v .leaf) (fun a b c=> .node l v (.node a b c))
noncomputable def zvK (ih:T α→Nat→α→T α) (n:Nat) (x:α):T α:=
 Nat.casesOn n (.node .leaf (some x) .leaf)
  (fun m=>Nat.casesOn (Nat.mod m 2) (DZ none .leaf (ih .leaf (Nat.div m 2) x)) (fun _=>D5 none .leaf (ih .leaf (Nat.div m 2) x)))
noncomputable def setNode (ih:T α→Nat→α→T α) (n:Nat) (x:α) (l:T α) (v:Option α) (r:T α):T α:=
 Nat.casesOn n (.node l (some x) r)
  (fun m=>Nat.casesOn (Nat.mod m 2) (DZ v r (ih l (Nat.div m 2) x)) (fun _=>D5 v l (ih r (Nat.div m 2) x)))
noncomputable def nL (f:Nat):T α→Nat→α→T α:=
 Nat.rec (motive:=fun _=>T α→Nat→α→T α) (fun t _ _=>t)
  (fun _ ih t n x=>T.casesOn t (zvK ih n x) (fun l v r=>setNode ih n x l v r)) f
noncomputable def set (t:T α) (n:Nat) (x:α):T α:=nL (Nat.succ n) t n x
end T
structure aL where
 i:Nat
 lo:Nat
 hi:Nat
 fr:Nat
 n:Nat
 sh:Nat
inductive SE where
 | lit (n:Int)
 | var (i:Nat)
 | bin (o:BinOp) (k:IntKind) (a b:SE)
 | wrap (k:IntKind) (a:SE)
 | bn (l:List aL) (c:Nat)
inductive SB where
 | lit (b:Bool)
 | var (i:Nat)
 | cmp (o:BinOp) (a b:SE)
 | not (a:SB)
 | beq (a b:SB)
 | and (a b:SB)
structure Val where
 i:Nat→Int
 b:Nat→Bool
 v:Nat→Value
def Val.zero:Val:=⟨fun _=>0,fun _=>false,fun _=> .bool false⟩
def mV (o:BinOp) (k:IntKind) (x y:Int):Int:=
 let a:=BitVec.ofInt k.bits x
 let b:=BitVec.ofInt k.bits y
 match o with
 | .and=>k.wrap (a&&&b).toNat
 | .or=>k.wrap (a|||b).toNat
 | .xor=>k.wrap (a^^^b).toNat
 | _=>k.wrap (a&&& ~~~b).toNat
def iQ (o:BinOp) (k:IntKind) (x y:Int):Int:=
 match o with
 | .add=>k.wrap (x+y)
 | .sub=>k.wrap (x-y)
 | .mul=>k.wrap (x*y)
 | .quo=>k.wrap (x.tdiv y)
 | .rem=>x.tmod y
 | .shl=>k.wrap (x*2^(min y.toNat k.bits))
 | .shr=>x.fdiv (2^(min y.toNat k.bits))
 | o=>mV o k x y
def mD (o:BinOp) (x y:Int):Bool:=
 match o with
 | .eql=>x==y
 | .neq=>x !=y
 | .lss=>x<y
 | .leq=>x≤y
 | .gtr=>x>y
 | _=>x≥y
def aL.den (ρ:Val) (f:aL):Nat:=(((max f.lo (min (ρ.i f.i).toNat f.hi))>>>f.fr)%2^f.n)<<<f.sh
def aJ (ρ:Val):List aL→Nat→Nat
 | [], c=>c
 | f::l,c=>f.den ρ|||aJ ρ l c
def SE.den (ρ:Val):SE→Int
 | .lit n=>n
 | .var i=>ρ.i i
 | .bin o k a b=>iQ o k (a.den ρ) (b.den ρ)
 | .wrap k a=>k.wrap (a.den ρ)
 | .bn l c=>Int.ofNat (aJ ρ l c)
def SB.den (ρ:Val):SB→Bool
 | .lit b=>b
 | .var i=>ρ.b i
 | .cmp o a b=>mD o (a.den ρ) (b.den ρ)
 | .not a=> !(a.den ρ)
 | .beq a b=>a.den ρ==b.den ρ
 | .and a b=>a.den ρ&&b.den ρ
def aL.beq (f g:aL):Bool:=
 match Nat.beq f.i g.i,Nat.beq f.lo g.lo,Nat.beq f.hi g.hi,Nat.beq f.fr g.fr,Nat.beq f.n g.n,Nat.beq f.sh g.sh with
 | true,true,true,true,true,true=>true
 | _,_,_,_,_,_=>false
def JB:List aL→List aL→Bool
 | [], [] => true
 | f::l,g::m=>match f.beq g with|true=>JB l m|false=>false
 | _,_=>false
def SE.beq:SE→SE→Bool
 | .lit a,.lit b=>match a,b with
  | .ofNat x,.ofNat y=>Nat.beq x y
  | .negSucc x,.negSucc y=>Nat.beq x y
  | _,_=>false
 | .var i,.var j=>Nat.beq i j
 | .bin o k a b,.bin o' k' a' b'=>if o=o' then (if k=k' then (match SE.beq a a' with|true=>SE.beq b b'|false=>false) else false) else false
 | .wrap k a,.wrap k' a'=>if k=k' then SE.beq a a' else false
 | .bn l c,.bn l' c'=>match JB l l' with|true=>Nat.beq c c'|false=>false
 | _,_=>false
def SB.eqv:SB→SB→Bool
 | .lit a,.lit b=>a==b
 | .var i,.var j=>Nat.beq i j
 | .cmp o a b,.cmp o' a' b'=>if o=o' then (match SE.beq a a' with|true=>SE.beq b b'|false=>false) else false
 | .not a,.not b=>SB.eqv a b
 | .beq a b,.beq a' b'=>match SB.eqv a a' with|true=>SB.eqv b b'|false=>false
 | .and a b,.and a' b'=>match SB.eqv a a' with|true=>SB.eqv b b'|false=>false
 | _,_=>false
def jG:IntKind→Nat
 | .i8=>128| .i16=>32768| .i32=>2147483648| .i64=>9223372036854775808
 | .u8=>256| .u16=>65536| .u32=>4294967296| .u64=>18446744073709551616
def rU (k:IntKind) (n:Int):Int:=
 match n with
 | .ofNat m=>match Nat.blt m (jG k) with
  | true=> .ofNat m
  | false=>k.wrap n
 | .negSucc m=>match k.signed with
  | true=>match Nat.blt m (jG k) with
   | true=> .negSucc m
   | false=>k.wrap n
  | false=>k.wrap n
def AO:Int→Int→Bool
 | .ofNat a,.ofNat b=>Nat.blt a b
 | .negSucc _,.ofNat _=>true
 | .ofNat _,.negSucc _=>false
 | .negSucc a,.negSucc b=>Nat.blt b a
def nX:Int→Int→Bool
 | .ofNat a,.ofNat b=>Nat.beq a b
 | .negSucc a,.negSucc b=>Nat.beq a b
 | _,_=>false
def KR (o:BinOp) (x y:Int):Bool:=
 match o with
 | .eql=>nX x y
 | .neq=>match nX x y with|true=>false|false=>true
 | .lss=>AO x y
 | .leq=>match AO y x with|true=>false|false=>true
 | .gtr=>AO y x
 | _=>match AO x y with|true=>false|false=>true
def mY.nat (o:BinOp) (a b:Nat):Int:=
 match o with
 | .and=> .ofNat (Nat.land a b)
 | .or=> .ofNat (Nat.lor a b)
 | .xor=> .ofNat (Nat.xor a b)
 | _=> .ofNat (Nat.xor a (Nat.land a b))
def mY (o:BinOp) (k:IntKind) (x y:Int):Int:=
 match x,y with
 | .ofNat a,.ofNat b=>
  match Nat.blt a (jG k),Nat.blt b (jG k) with
  | true,true=>mY.nat o a b
  | _,_=>mV o k x y
 | _,_=>mV o k x y
def Ua (k:IntKind) (x:Int) (y:Nat):Int:=
 match x with
 | .ofNat a=> .ofNat (Nat.div a (Nat.pow 2 (match Nat.blt y k.bits with|true=>y|false=>k.bits)))
 | .negSucc _=>x.fdiv (2^(min y k.bits))
def T9 (k:IntKind) (x:Int) (y:Nat):Int:=
 match x with
 | .ofNat a=>rU k (.ofNat (Nat.mul a (Nat.pow 2 (match Nat.blt y k.bits with|true=>y|false=>k.bits))))
 | .negSucc _=>k.wrap (x*2^(min y k.bits))
def Ra:Int→Int→Int
 | .ofNat a,.ofNat b=> .ofNat (Nat.add a b)
 | x,y=>x+y
def Ni:Int→Int→Int
 | .ofNat a,.ofNat b=>match Nat.ble b a with|true=> .ofNat (Nat.sub a b)|false=> .negSucc (Nat.sub (Nat.sub b a) 1)
 | x,y=>x-y
def Tw:Int→Int→Int
 | .ofNat a,.ofNat b=> .ofNat (Nat.mul a b)
 | x,y=>x*y
def Rj:Int→Int→Int
 | .ofNat a,.ofNat b=> .ofNat (Nat.div a b)
 | x,y=>x.tdiv y
def Tv:Int→Int→Int
 | .ofNat a,.ofNat b=> .ofNat (Nat.mod a b)
 | x,y=>x.tmod y
def DF (o:BinOp) (k:IntKind) (x y:Int):Option Int:=
 match o with
 | .add=>some (rU k (Ra x y))
 | .sub=>some (rU k (Ni x y))
 | .mul=>some (rU k (Tw x y))
 | .quo=>match nX y 0 with|true=>none|false=>some (rU k (Rj x y))
 | .rem=>match nX y 0 with|true=>none|false=>some (Tv x y)
 | .shl=>match y with| .ofNat n=>some (T9 k x n)|_=>none
 | .shr=>match y with| .ofNat n=>some (Ua k x n)|_=>none
 | .and=>some (mY .and k x y)
 | .or=>some (mY .or k x y)
 | .xor=>some (mY .xor k x y)
 | .andNot=>some (mY .andNot k x y)
 | _=>none
def qp {β:Type} (n:Nat) (k:Nat→β):β:=Nat.casesOn n (k 0) (fun m=>k (Nat.succ m))
def kn:IntKind→Nat
 | .i8=>0| .i16=>1| .i32=>2| .i64=>3| .u8=>4| .u16=>5| .u32=>6| .u64=>7
def bQ:IntKind→Nat
 | .i8=>7| .i16=>15| .i32=>31| .i64=>63| .u8=>8| .u16=>16| .u32=>32| .u64=>64
def yU:IntKind→Bool
 | .i8| .i16| .i32| .i64=>true
 | _=>false
def oQ (W:Nat):List aL→List aL
 | [] => []
 | f::l=>match Nat.blt f.sh W with
  | false=>oQ W l
  | true=>match Nat.ble (Nat.add f.sh f.n) W with
   | true=>f::oQ W l
   | false=>⟨f.i,f.lo,f.hi,f.fr,Nat.sub W f.sh,f.sh⟩::oQ W l
def qy (m:Nat):List aL→List aL
 | [] => []
 | f::l=>match Nat.ble m f.sh with
  | true=>⟨f.i,f.lo,f.hi,f.fr,f.n,Nat.sub f.sh m⟩::qy m l
  | false=>match Nat.blt m (Nat.add f.sh f.n) with
   | true=>⟨f.i,f.lo,f.hi,Nat.add f.fr (Nat.sub m f.sh),Nat.sub f.n (Nat.sub m f.sh),0⟩::qy m l
   | false=>qy m l
def FJ (m:Nat):List aL→List aL
 | [] => []
 | f::l=>⟨f.i,f.lo,f.hi,f.fr,f.n,Nat.add f.sh m⟩::FJ m l
def F5 (g f:aL):Option aL:=
 match Nat.beq g.i f.i,Nat.beq g.lo f.lo,Nat.beq g.hi f.hi,Nat.beq (Nat.add g.fr g.n) f.fr,Nat.beq (Nat.add g.sh g.n) f.sh with
 | true,true,true,true,true=>some ⟨g.i,g.lo,g.hi,g.fr,Nat.add g.n f.n,g.sh⟩
 | _,_,_,_,_=>none
def xJ:List aL→aL→List aL
 | [], f=> [f]
 | g::l,f=>match F5 g f with
  | some h=>xJ l h
  | none=>match F5 f g with
   | some h=>xJ l h
   | none=>g::xJ l f
def rR (l:List aL):List aL→List aL
 | [] => l
 | f::m=>rR (xJ l f) m
def pieces (keep:Nat→Bool) (f:aL):Nat→List aL
 | 0=> []
 | b+1=>match keep (Nat.add f.sh b) with
  | true=>⟨f.i,f.lo,f.hi,Nat.add f.fr b,1,Nat.add f.sh b⟩::pieces keep f b
  | false=>pieces keep f b
def xE (keep:Nat→Bool):List aL→List aL
 | [] => []
 | f::l=>rR (xE keep l) (pieces keep f f.n)
def fits (W:Nat):List aL→Bool
 | [] => true
 | f::l=>match Nat.ble (Nat.add f.sh f.n) W with|true=>fits W l|false=>false
def oV (W:Nat) (l:List aL) (c:Nat):Bool:=match Nat.blt c (Nat.pow 2 W) with|true=>fits W l|false=>false
def Hu:SE→Option (List aL×Nat)
 | .lit (.ofNat n)=>some ([],n)
 | .bn l c=>some (l,c)
 | _=>none
def pV (l:List aL) (c:Nat):SE:=
 match l with
 | [] => qp c fun c=> .lit (.ofNat c)
 | f::l=>qp c fun c=> .bn (f::l) c
def uP (k:IntKind):Option (Nat×Nat):=match yU k with|true=>none|false=>some (0,Nat.sub (Nat.pow 2 (bQ k)) 1)
def bnd (a:SE):Option (Nat×Nat):=
 match a with
 | .lit (.ofNat n)=>some (n,n)
 | .bn [f] 0=>(match Nat.beq f.fr 0,Nat.beq f.sh 0,Nat.blt (Nat.max f.lo f.hi) (Nat.pow 2 f.n) with
  | true,true,true=>some (f.lo,Nat.max f.lo f.hi)
  | _,_,_=>match oV 64 [f] 0 with|true=>some (0,18446744073709551615)|false=>none)
 | .bin .add k x y=>(match bnd x,bnd y with
  | some (p,q),some (r,s)=>(match Nat.blt (Nat.add q s) (Nat.pow 2 (bQ k)) with
   | true=>some (Nat.add p r,Nat.add q s)
   | false=>uP k)
  | _,_=>uP k)
 | .bin .sub k x y=>(match bnd x,bnd y with
  | some (p,q),some (r,s)=>(match Nat.ble s p,Nat.blt q (Nat.pow 2 (bQ k)) with
   | true,true=>some (Nat.sub p s,Nat.sub q r)
   | _,_=>(match Nat.blt q r,Nat.ble s (Nat.pow 2 (bQ k)),yU k with
    | true,true,false=>some (Nat.sub (Nat.add (Nat.pow 2 (bQ k)) p) s,Nat.sub (Nat.add (Nat.pow 2 (bQ k)) q) r)
    | _,_,_=>uP k))
  | _,_=>uP k)
 | .bin .mul k x y=>(match bnd x,bnd y with
  | some (p,q),some (r,s)=>(match Nat.blt (Nat.mul q s) (Nat.pow 2 (bQ k)) with
   | true=>some (Nat.mul p r,Nat.mul q s)
   | false=>uP k)
  | _,_=>uP k)
 | .bin .rem _ x y=>(match bnd x,bnd y with
  | some (_,q),some (r,s)=>(match Nat.blt 0 r with
   | true=>some (0,Nat.min q (Nat.sub s 1))
   | false=>none)
  | _,_=>none)
 | .wrap k _=>uP k
 | _=>none
def Qh (k:IntKind) (a:SE):SE:=
 match bnd a with
 | some (_,q)=>(match Nat.blt q (Nat.pow 2 (bQ k)) with|true=>a|false=> .wrap k a)
 | none=> .wrap k a
def QH (k:IntKind) (a:SE):SE:=
 match a with
 | .bn l c=>(match yU k with
  | true=>(match oV (bQ k) l c with|true=> .bn l c|false=> .wrap k (.bn l c))
  | false=>pV (oQ (bQ k) l) (Nat.mod c (Nat.pow 2 (bQ k))))
 | a=>Qh k a
def M6 (k:IntKind) (a b:SE) (l:List aL) (c:Nat) (l':List aL) (c':Nat):SE:=
 match oV (bQ k) l c,oV (bQ k) l' c' with
 | true,true=>pV (rR l l') (Nat.lor c c')
 | _,_=> .bin .or k a b
def Hr (k:IntKind) (a b:SE) (l:List aL) (c m:Nat):SE:=
 match oV (bQ k) l c,Nat.blt m (Nat.pow 2 (bQ k)) with
 | true,true=>pV (xE (Nat.testBit m) l) (Nat.land c m)
 | _,_=> .bin .and k a b
def PV (k:IntKind) (a b:SE) (l:List aL) (c m:Nat):SE:=
 match oV (bQ k) l c,Nat.blt m (Nat.pow 2 (bQ k)) with
 | true,true=>pV (xE (fun i=>match Nat.testBit m i with|true=>false|false=>true) l) (Nat.xor c (Nat.land c m))
 | _,_=> .bin .andNot k a b
def M9 (k:IntKind) (a b:SE) (l:List aL) (c n:Nat):SE:=
 match Nat.ble n k.bits,yU k with
 | true,false=>pV (oQ (bQ k) (FJ n l)) (Nat.mod (Nat.mul c (Nat.pow 2 n)) (Nat.pow 2 (bQ k)))
 | _,_=> .bin .shl k a b
def Na (k:IntKind) (a b:SE) (l:List aL) (c n:Nat):SE:=
 match Nat.ble n k.bits with
 | true=>pV (qy n l) (Nat.div c (Nat.pow 2 n))
 | false=> .bin .shr k a b
def Kv (m:Nat):List aL→Bool
 | [] => true
 | f::l=>match Nat.ble m f.sh with|true=>Kv m l|false=>false
def width (l:List aL) (c:Nat):Nat:=
 match l with
 | [] => (match c with|0=>0|c+1=>Nat.succ (Nat.log2 (Nat.succ c)))
 | f::l=>Nat.max (Nat.add f.sh f.n) (width l c)
def M0 (k:IntKind) (a b:SE) (l:List aL) (c:Nat) (l':List aL) (c':Nat):SE:=
 match oV (bQ k) l c,oV (bQ k) l' c' with
 | true,true=>(match oV (width l c) l c,Kv (width l c) l',Nat.beq (Nat.mod c' (Nat.pow 2 (width l c))) 0 with
  | true,true,true=>pV (rR l l') (Nat.lor c c')
  | _,_,_=> .bin .add k a b)
 | _,_=> .bin .add k a b
def M7 (k:IntKind) (a b:SE) (l:List aL) (c n:Nat):SE:=
 match oV (bQ k) l c,Nat.beq n (Nat.pow 2 (Nat.log2 n)) with
 | true,true=>pV (qy (Nat.log2 n) l) (Nat.div c (Nat.pow 2 (Nat.log2 n)))
 | _,_=> .bin .quo k a b
def M8 (k:IntKind) (a b:SE) (l:List aL) (c n:Nat):SE:=
 match Nat.beq n (Nat.pow 2 (Nat.log2 n)) with
 | true=>pV (oQ (Nat.log2 n) l) (Nat.mod c (Nat.pow 2 (Nat.log2 n)))
 | false=> .bin .rem k a b
def M5 (o:BinOp) (k:IntKind) (a b:SE) (l:List aL) (c:Nat) (l':List aL) (c':Nat):SE:=
 match l' with
 | [] => (match Nat.beq c' 0,oV (bQ k) l c with
  | true,true=>pV l c
  | _,_=> .bin o k a b)
 | _=> .bin o k a b
def iZ (o:BinOp) (k:IntKind) (a b:SE):SE:=
 match Hu a,Hu b with
 | some (l,c),some (l',c')=>(match o with
  | .or=>M6 k a b l c l' c'
  | .and=>(match l' with
   | [] => Hr k a b l c c'
   | _=>(match l with
    | [] => Hr k b a l' c' c
    | _=> .bin .and k a b))
  | .andNot=>(match l' with| []=>PV k a b l c c'|_=> .bin .andNot k a b)
  | .shl=>(match l' with| []=>M9 k a b l c c'|_=> .bin .shl k a b)
  | .shr=>(match l' with| []=>Na k a b l c c'|_=> .bin .shr k a b)
  | .add=>M0 k a b l c l' c'
  | .quo=>(match l' with| []=>M7 k a b l c c'|_=> .bin .quo k a b)
  | .rem=>(match l' with| []=>M8 k a b l c c'|_=> .bin .rem k a b)
  | .sub=>M5 .sub k a b l c l' c'
  | o=> .bin o k a b)
 | _,_=> .bin o k a b
def Z7 (o:BinOp):Bool:=
 match o with
 | .neq| .lss| .gtr=>false
 | _=>true
def QI (o:BinOp) (a b:SE):SB:=
 match bnd a,bnd b with
 | some (p,q),some (r,s)=>(match o with
  | .eql=>(match Nat.blt q r,Nat.blt s p with|false,false=> .cmp .eql a b|_,_=> .lit false)
  | .neq=>(match Nat.blt q r,Nat.blt s p with|false,false=> .cmp .neq a b|_,_=> .lit true)
  | .lss=>(match Nat.blt q r,Nat.ble s p with|true,_=> .lit true|_,true=> .lit false|_,_=> .cmp .lss a b)
  | .gtr=>(match Nat.blt s p,Nat.ble q r with|true,_=> .lit true|_,true=> .lit false|_,_=> .cmp .gtr a b)
  | .leq=>(match Nat.ble q r,Nat.blt s p with|true,_=> .lit true|_,true=> .lit false|_,_=> .cmp .leq a b)
  | .geq=>(match Nat.ble s p,Nat.blt q r with|true,_=> .lit true|_,true=> .lit false|_,_=> .cmp .geq a b)
  | o=> .cmp o a b)
 | _,_=> .cmp o a b
def M4 (o:BinOp) (a b:SE):SB:=
 match SE.beq a b with
 | true=> .lit (Z7 o)
 | false=>QI o a b
inductive jI where
 | known (c:Nat)
 | upto (skip:Nat)
inductive AV where
 | bool (b:SB)
 | int (k:IntKind) (n:SE)
 | str (s:List Nat)
 | iI
 | ptr (n off:Nat)
 | dz
 | sl (n off len:Nat) (cap:jI)
 | emp
 | nM (n:SE)
 | mg
 | kM
 | map (n:Nat)
 | func (f:FuncId) (first cap:List AV)
 | lH
 | jX
 | iface (t:TypeId) (v:AV)
 | agg (l:List AV)
 | aK (l:List AV)
 | cst (i:Nat) (len:Option SE)
 | opq (n:Nat) (len:Option SE)
 | gH (c:SB) (w:Bool)
 | junk
 | sx (i:Nat) (n:SE) (sz:Nat) (l:List (SE×Nat))
def Km:List (SE×Nat)→List (SE×Nat)→Bool
 | [], [] => true
 | a::l,b::m=>match SE.beq a.1 b.1,Nat.beq a.2 b.2 with|true,true=>Km l m|_,_=>false
 | _,_=>false
def Ke:Option SE→Option SE→Bool
 | none,none=>true
 | some a,some b=>SE.beq a b
 | _,_=>false
def jI.beq:jI→jI→Bool
 | .known a,.known b=>Nat.beq a b
 | .upto a,.upto b=>Nat.beq a b
 | _,_=>false
def lS:List Nat→List Nat→Bool
 | [], [] => true
 | a::l,b::m=>match Nat.beq a b with|true=>lS l m|false=>false
 | _,_=>false
mutual
def AV.beq:AV→AV→Bool
 | .bool a,.bool b=>SB.eqv a b
 | .int k n,.int k' n'=>match SE.beq n n' with|true=>(if k=k' then true else false)|false=>false
 | .str a,.str b=>lS a b
 | .iI,.iI=>true
 | .ptr a b,.ptr c d=>match Nat.beq a c with|true=>Nat.beq b d|false=>false
 | .dz,.dz=>true
 | .sl a b c d,.sl a' b' c' d'=>match Nat.beq a a',Nat.beq b b',Nat.beq c c' with|true,true,true=>jI.beq d d'|_,_,_=>false
 | .emp,.emp=>true
 | .nM a,.nM b=>SE.beq a b
 | .mg,.mg=>true
 | .kM,.kM=>true
 | .map a,.map b=>Nat.beq a b
 | .func f l l',.func g m m'=>match Nat.beq f g,AV.qE l m with|true,true=>AV.qE l' m'|_,_=>false
 | .lH,.lH=>true
 | .jX,.jX=>true
 | .iface t v,.iface u w=>match Nat.beq t u with|true=>AV.beq v w|false=>false
 | .agg l,.agg m=>AV.qE l m
 | .aK l,.aK m=>AV.qE l m
 | .cst i l,.cst i' l'=>match Nat.beq i i' with|true=>Ke l l'|false=>false
 | .opq i l,.opq i' l'=>match Nat.beq i i' with|true=>Ke l l'|false=>false
 | .junk,.junk=>true
 | .sx i n s l,.sx i' n' s' l'=>match Nat.beq i i',SE.beq n n',Nat.beq s s' with|true,true,true=>Km l l'|_,_,_=>false
 | .gH c w,.gH c' w'=>match SB.eqv c c' with|true=>(match w,w' with|true,true=>true|false,false=>true|_,_=>false)|false=>false
 | _,_=>false
def AV.qE:List AV→List AV→Bool
 | [], [] => true
 | a::l,b::m=>match AV.beq a b with|true=>AV.qE l m|false=>false
 | _,_=>false
end
def jb:AV:= .aK []
def Kc:Value→Option AV
 | .bool b=>some (.bool (.lit b))
 | .int k n=>some (.int k (.lit n))
 | .string s=>some (.str (s.data.toList.map (·.toNat)))
 | .pointer none=>some .iI
 | .slice none 0 0=>some .dz
 | .map none=>some .kM
 | .nilFunc=>some .lH
 | .nilIface=>some .jX
 | _=>none
def BO:List Value→Option (List AV)
 | [] => some []
 | v::l=>match Kc v with
  | none=>none
  | some a=>match BO l with
   | none=>none
   | some m=>some (a::m)
def ofValue (v:Value):Option AV:=
 match v with
 | .agg cs=>match BO cs.toList with|some l=>some (.agg l)|none=>none
 | .tuple vs=>match BO vs.toList with|some l=>some (.aK l)|none=>none
 | v=>Kc v
def AV.cells:AV→List AV
 | .agg l=>l
 | v=> [v]
structure Vec where
 t:T AV
 n:Nat
 d:AV
def Vec.get (v:Vec) (i:Nat):AV:=match v.t.get i with|some x=>x|none=>v.d
def Vec.set (v:Vec) (i:Nat) (x:AV):Vec:=match v with|⟨t,n,d⟩=>match t.set i x with| .leaf=>⟨.leaf,n,d⟩| .node a b c=>⟨.node a b c,n,d⟩
def Vec.list (v:Vec) (i:Nat):Nat→List AV
 | 0=> []
 | n+1=>v.get i::Vec.list v (Nat.succ i) n
def Vec.put (v:Vec) (i:Nat):List AV→Vec
 | [] => v
 | x::l=>Vec.put (v.set i x) (Nat.succ i) l
def Vec.ofList (l:List AV):Vec:=Vec.put ⟨.leaf,l.length,jb⟩ 0 l
structure ME where
 key:AV
 val:AV
 born:Nat
inductive Obj where
 | cells (v:Vec) (aW lX:Nat) (closed:Option Nat) (shared own:Bool)
 | map (es:List ME) (clock:Nat)
 | iter (m:Option Nat) (since:Nat) (seen:List Nat) (stepped:Nat)
 | wP (es:List ME)
 | dw (kn:List (AV×Option AV)) (log:List (AV×Option AV))
 | opq
 | gs (k:Nat)
structure Heap where
 m:T Obj
 nx:Nat
 gw:T Nat
def Heap.alloc (H:Heap) (o:Obj):Heap:=
 match H with
 | ⟨m,nx,gw⟩=>match m.set nx o with
  | .leaf=>⟨.leaf,nx+1,gw⟩
  | .node a b c=>qp (nx+1) fun x=>⟨.node a b c,x,gw⟩
def Heap.upd (H:Heap) (n:Nat) (o:Obj):Heap:=
 match H with
 | ⟨m,nx,gw⟩=>match m.set n o with
  | .leaf=>⟨.leaf,nx,gw⟩
  | .node a b c=>⟨.node a b c,nx,gw⟩
def Heap.wrote (H:Heap) (g:Nat):Heap:=match H with|⟨m,nx,gw⟩=>⟨m,nx,gw.set g nx⟩
def alive (gw:T Nat) (g:Nat) (closed:Option Nat):Bool:=
 match closed with
 | none=>true
 | some t=>match gw.get g with
  | none=>true
  | some w=>Nat.blt w t
def Heap.row (H:Heap) (n:Nat):Option Vec:=
 match H.m.get n with
 | some (.cells v _ g closed _ _)=>match alive H.gw g closed with
  | true=>some v
  | false=>none
 | _=>none
def Qs:AV→Bool
 | .agg _=>false
 | .aK _=>false
 | .gH _ _=>false
 | .junk=>false
 | _=>true
def zf:List AV→Bool
 | [] => true
 | a::l=>match Qs a with|true=>zf l|false=>false
def Heap.store (H:Heap) (n off:Nat) (l:List AV):Option Heap:=
 match H.m.get n with
 | some (.cells v aW g none sh true)=>
  match Nat.ble (Nat.add off l.length) v.n,zf l with
  | true,true=>match sh with
   | false=>some (H.upd n (.cells (v.put off l) aW g none false true))
   | true=>some ((H.upd n (.cells (v.put off l) aW g none false true)).wrote g)
  | _,_=>none
 | _=>none
def Heap.gP (H:Heap) (n:Nat):Option (List ME×Nat):=
 match H.m.get n with
 | some (.map es c)=>some (es,c)
 | _=>none
def Heap.uI (H:Heap) (n:Nat):Option (List (AV×Option AV)×List (AV×Option AV)):=
 match H.m.get n with
 | some (.dw kn log)=>some (kn,log)
 | _=>none
def Heap.gs (H:Heap):Nat:=
 match H.m.get 0 with
 | some (.gs k)=>k
 | _=>0
end Go.Dw
namespace Go.Dw
inductive Ob where
 | ok
 | bad (n:Nat) (s:String)
 | all (l:List Ob)
 | ite (c:SB) (t e:Ob)
mutual
def Ob.den (ρ:Val):Ob→Prop
 | .ok=>True
 | .bad _ _=>False
 | .all l=>Ob.FZ ρ l
 | .ite c t e=>(c.den ρ=true→t.den ρ)∧(c.den ρ=false→e.den ρ)
def Ob.FZ (ρ:Val):List Ob→Prop
 | [] => True
 | o::l=>o.den ρ∧Ob.FZ ρ l
end
mutual
def Ob.good:Ob→Bool
 | .ok=>true
 | .bad _ _=>false
 | .all l=>Ob.F7 l
 | .ite _ t e=>match t.good with|true=>e.good|false=>false
def Ob.F7:List Ob→Bool
 | [] => true
 | o::l=>match o.good with|true=>Ob.F7 l|false=>false
end
inductive Ex where
 | normal
 | exit (id:Nat)
 | ret
section
variable (P:Program)
def bN:Nat:=1000000
def aR (env:T AV):Operand→Option AV
 | .tmp t=>match Nat.blt t bN with
  | true=>(match env.get t with|some .junk=>none|some v=>some v|none=>some jb)
  | false=>none
 | .const v=>ofValue v
 | .func f=>some (.func f [] [])
 | .global _=>none
def jY (env:T AV):List Operand→Option (List AV)
 | [] => some []
 | x::l=>match aR env x with
  | none=>none
  | some a=>match jY env l with
   | none=>none
   | some m=>some (a::m)
def ig (t:TypeId):Option Nat:=match P.info? t with|some i=>some i.size|none=>none
def J4 (t:TypeId):Option Bool:=
 match P.underlying t with
 | some (.struct _)=>some true
 | some (.array _ _)=>some true
 | some _=>some false
 | none=>none
def rT (t:TypeId):Option AV:=
 match P.info? t with
 | some i=>(match i.zero with|some v=>ofValue v|none=>none)
 | none=>none
def zL:Nat→List AV→List AV
 | 0,l=>l
 | _+1,[]=> []
 | n+1,_::l=>zL n l
def takeN:Nat→List AV→Option (List AV)
 | 0,_=>some []
 | _+1,[]=>none
 | n+1,a::l=>match takeN n l with|some m=>some (a::m)|none=>none
def qz (t:TypeId) (cs:List AV) (off:Nat):Option AV:=
 match J4 P t,ig P t with
 | some true,some n=>match takeN n (zL off cs) with|some l=>some (.agg l)|none=>none
 | some false,_=>match zL off cs with|a::_=>some a| []=>none
 | _,_=>none
def FM (o:BinOp) (a b:SE):SB:=
 match a,b with
 | .lit x,.lit y=> .lit (KR o x y)
 | a,b=>M4 o a b
def mkNot:SB→SB
 | .lit true=> .lit false
 | .lit false=> .lit true
 | .not b=>b
 | b=> .not b
def QN (a b:SB):SB:=
 match a,b with
 | .lit true,b=>b
 | .lit false,b=>mkNot b
 | a,.lit true=>a
 | a,.lit false=>mkNot a
 | a,b=> .beq a b
def mkInt (o:BinOp) (k:IntKind) (a b:SE):Option SE:=
 match a,b with
 | .lit x,.lit y=>match DF o k x y with
  | some (.ofNat m)=>qp m fun m=>some (.lit (.ofNat m))
  | some (.negSucc m)=>qp m fun m=>some (.lit (.negSucc m))
  | none=>none
 | a,.lit y=>match o with
  | .add=>some (iZ .add k a (.lit y))| .sub=>some (iZ .sub k a (.lit y))| .mul=>some (iZ .mul k a (.lit y))
  | .and=>some (iZ .and k a (.lit y))| .or=>some (iZ .or k a (.lit y))| .xor=>some (iZ .xor k a (.lit y))| .andNot=>some (iZ .andNot k a (.lit y))
  | .quo=>match nX y 0 with|true=>none|false=>some (iZ .quo k a (.lit y))
  | .rem=>match nX y 0 with|true=>none|false=>some (iZ .rem k a (.lit y))
  | .shl=>match y with| .ofNat _=>some (iZ .shl k a (.lit y))|_=>none
  | .shr=>match y with| .ofNat _=>some (iZ .shr k a (.lit y))|_=>none
  | _=>none
 | a,b=>match o with
  | .quo=>(match bnd b with|some (q,_)=>(match Nat.blt 0 q with|true=>some (iZ .quo k a b)|false=>none)|none=>none)
  | .rem=>(match bnd b with|some (q,_)=>(match Nat.blt 0 q with|true=>some (iZ .rem k a b)|false=>none)|none=>none)
  | .add=>some (iZ .add k a b)| .sub=>some (iZ .sub k a b)| .mul=>some (iZ .mul k a b)
  | .and=>some (iZ .and k a b)| .or=>some (iZ .or k a b)| .xor=>some (iZ .xor k a b)| .andNot=>some (iZ .andNot k a b)
  | _=>none
def mkWrap (k:IntKind) (a:SE):SE:=
 match a with
 | .lit x=>match rU k x with
  | .ofNat m=>qp m fun m=> .lit (.ofNat m)
  | .negSucc m=>qp m fun m=> .lit (.negSucc m)
 | a=>QH k a
def zJ:BinOp→Bool
 | .eql| .neq| .lss| .leq| .gtr| .geq=>true
 | _=>false
def E9:BinOp→Bool
 | .shl| .shr=>true
 | _=>false
def vK (H:Heap) (n m:Nat):Bool:=
 match H.m.get n,H.m.get m with
 | some (.cells _ _ g _ _ true),some (.cells _ _ g' _ _ true)=>
  match Nat.beq g g' with
  | true=>false
  | false=>match H.row n,H.row m with
   | some _,some _=>true
   | _,_=>false
 | _,_=>false
def mkAnd (a b:SB):SB:=
 match a,b with
 | .lit true,b=>b
 | .lit false,_=> .lit false
 | a,.lit true=>a
 | _,.lit false=> .lit false
 | a,b=> .and a b
def eqFields (eq:TypeId→AV→AV→Option SB):List Field→List AV→List AV→Option SB
  | [], _,_=>some (.lit true)
  | fd::l,xs,ys=>
    if fd.name = "_" then eqFields eq l xs ys else
    match qz P fd.type xs fd.offset,qz P fd.type ys fd.offset with
    | some a,some b=>match eq fd.type a b with
      | none=>none
      | some c=>match eqFields eq l xs ys with
        | some d=>some (mkAnd c d)
        | none=>none
    | _,_=>none
def vg (eq:AV→AV→Option SB) (e:TypeId) (s:Nat):Nat→Nat→List AV→List AV→Option SB
 | 0,_,_,_=>some (.lit true)
 | n+1,i,xs,ys=>
  match qz P e xs (i*s),qz P e ys (i*s) with
  | some a,some b=>match eq a b with
   | none=>none
   | some c=>match vg eq e s n (i+1) xs ys with
    | some d=>some (mkAnd c d)
    | none=>none
  | _,_=>none
def iF (H:Heap):Nat→TypeId→AV→AV→Option SB
 | 0,_,_,_=>none
 | f+1,t,x,y=>
  match P.underlying t with
  | some .bool=>match x,y with
   | .bool a,.bool b=>some (QN a b)
   | _,_=>none
  | some (.int _)=>match x,y with
   | .int k a,.int k' b=>match Nat.beq (kn k) (kn k') with|true=>some (FM .eql a b)|false=>none
   | _,_=>none
  | some .string=>match x,y with
   | .str a,.str b=>some (.lit (lS a b))
   | _,_=>none
  | some (.pointer e)=>match x,y with
   | .iI,.iI=>some (.lit true)
   | .iI,.ptr _ _=>some (.lit false)
   | .ptr _ _,.iI=>some (.lit false)
   | .ptr n o,.ptr m p=>match ig P e with
    | some (_+1)=>match Nat.beq n m with
     | true=>some (.lit (Nat.beq o p))
     | false=>match vK H n m with
      | true=>some (.lit false)
      | false=>none
    | _=>none
   | _,_=>none
  | some (.slice _)=>match x,y with
   | .dz,.dz=>some (.lit true)
   | .dz,.sl _ _ _ _=>some (.lit false)
   | .dz,.emp=>some (.lit false)
   | .sl _ _ _ _,.dz=>some (.lit false)
   | .emp,.dz=>some (.lit false)
   | .dz,.mg=>some (.lit false)
   | .mg,.dz=>some (.lit false)
   | _,_=>none
  | some (.map _ _)=>match x,y with
   | .kM,.kM=>some (.lit true)
   | .kM,.map _=>some (.lit false)
   | .map _,.kM=>some (.lit false)
   | _,_=>none
  | some (.func _ _ _)=>match x,y with
   | .lH,.lH=>some (.lit true)
   | .lH,.func _ _ _=>some (.lit false)
   | .func _ _ _,.lH=>some (.lit false)
   | _,_=>none
  | some (.interface _)=>match x,y with
   | .jX,.jX=>some (.lit true)
   | .jX,.iface _ _=>some (.lit false)
   | .iface _ _,.jX=>some (.lit false)
   | _,_=>none
  | some (.struct fs)=>match x,y with
   | .agg xs,.agg ys=>match P.stoodInHeld t with
    | true=>none
    | false=>eqFields P (iF H f) fs.toList xs ys
   | _,_=>none
  | some (.array len e)=>match x,y with
   | .agg xs,.agg ys=>match ig P e with
    | some s=>vg P (iF H f e) e s len 0 xs ys
    | none=>none
   | _,_=>none
  | _=>none
def Qx (o:BinOp) (k k':IntKind) (a b:SE):Option AV:=
 match E9 o with
 | true=>(match mkInt o k a b with|some c=>some (.int k c)|none=>none)
 | false=>match Nat.beq (kn k) (kn k') with
  | true=>(match zJ o with
   | true=>some (.bool (FM o a b))
   | false=>match mkInt o k a b with|some c=>some (.int k c)|none=>none)
  | false=>none
def Qw (o:BinOp) (a b:List Nat):Option AV:=
 match o with
 | .eql=>some (.bool (.lit (lS a b)))
 | .neq=>some (.bool (.lit (match lS a b with|true=>false|false=>true)))
 | .add=>(match Nat.blt (Nat.add a.length b.length) 4611686018427387904 with|true=>some (.str (a++b))|false=>none)
 | _=>none
def jr (H:Heap) (o:BinOp) (t:TypeId) (x y:AV):Option AV:=
 match o with
 | .eql=>(match iF P H 8 t x y with|some b=>some (.bool b)|none=>none)
 | .neq=>(match iF P H 8 t x y with|some b=>some (.bool (mkNot b))|none=>none)
 | _=>none
def vM (H:Heap) (c:Bool) (o:BinOp) (t:TypeId) (x y:AV):Option AV:=
 match x with
 | .int k a=>(match y with| .int k' b=>Qx o k k' a b|_=>none)
 | .str a=>(match y with| .str b=>Qw o a b|_=>none)
 | .jX=>(match c with|true=>jr P H o t .jX y|false=>none)
 | .agg l=>(match P.eqGuardType P.depth t with|true=>none|false=>jr P H o t (.agg l) y)
 | x=>jr P H o t x y
def Uf (o:UnOp) (x:AV):Option AV:=
 match o,x with
 | .not,.bool b=>some (.bool (mkNot b))
 | .neg,.int k n=>match mkInt .sub k (.lit 0) n with|some c=>some (.int k c)|none=>none
 | .xor,.int k n=>match mkInt .xor k n (.lit (if k.signed then-1 else k.max)) with|some c=>some (.int k c)|none=>none
 | _,_=>none
def EK:List AV→Option (List Nat)
 | [] => some []
 | .int .u8 (.lit (.ofNat n))::l=>match Nat.blt n 256 with
  | true=>match EK l with|some m=>some (n::m)|none=>none
  | false=>none
 | _::_=>none
def Fq:List Nat→List AV
 | [] => []
 | b::l=> .int .u8 (.lit (.ofNat b))::Fq l
def nW (H:Heap) (sz n:Nat) (x:AV):Option (List AV):=
 match x with
 | .dz=>(match n with|0=>some []|_+1=>none)
 | .emp=>(match n with|0=>some []|_+1=>none)
 | .sl b off len _=>(match Nat.ble n len with
  | false=>none
  | true=>match H.row b with
   | none=>none
   | some v=>match Nat.ble (Nat.add off (Nat.mul n sz)) v.n with
    | true=>some (v.list off (Nat.mul n sz))
    | false=>none)
 | .str s=>(match Nat.beq sz 1 with|true=>takeN n (Fq s)|false=>none)
 | _=>none
def sO (x:AV):Option Nat:=
 match x with
 | .dz=>some 0
 | .emp=>some 0
 | .sl _ _ len _=>some len
 | .str s=>some s.length
 | _=>none
def vQ (H:Heap) (e:TypeId) (x:AV):Option AV:=
 match P.underlying e with
 | some (.int .u8)=>(match x with
  | .str _=>none
  | x=>match sO x with
   | none=>none
   | some n=>match nW H 1 n x with
    | none=>none
    | some l=>match EK l with|some m=>some (.str m)|none=>none)
 | _=>none
def xW (H:Heap) (src dst:TypeId) (x:AV):Option AV:=
 match P.underlying src with
 | none=>none
 | some s=>match P.underlying dst with
  | some (.int k)=>(match x with| .int _ n=>some (.int k (mkWrap k n))|_=>none)
  | some .string=>(match s with
   | .slice e=>vQ P H e x
   | .string=>(match x with| .str s=>some (.str s)|_=>none)
   | _=>none)
  | _=>none
def nE (env:T AV) (x:Operand):Option Nat:=
 match aR env x with
 | some (.int _ (.lit (.ofNat n)))=>some n
 | _=>none
def oI (env:T AV) (x:Option Operand) (d:Nat):Option Nat:=
 match x with
 | none=>some d
 | some x=>nE env x
def xG (t:TypeId):Option Nat:=
 match P.underlying t with
 | some (.slice e)=>ig P e
 | _=>none
def Ci (t:TypeId):Option (Nat×TypeId×Nat):=
 match P.underlying t with
 | some (.array len e)=>(match ig P e with|some s=>some (len,e,s)|none=>none)
 | _=>none
def J3 (t:TypeId):Bool:=
 match P.underlying t with
 | some .string=>true
 | _=>false
def bounds (env:T AV) (len cap:Nat) (lo hi mx:Option Operand):Option (Nat×Nat×Nat):=
 match mx with
 | some m=>(match nE env m with
  | none=>none
  | some m=>(match Nat.ble m cap with
   | false=>none
   | true=>match hi with
    | none=>none
    | some h=>match nE env h with
     | none=>none
     | some h=>match Nat.ble h m with
      | false=>none
      | true=>match oI env lo 0 with
       | none=>none
       | some l=>match Nat.ble l h with
        | true=>some (l,h,m)
        | false=>none))
 | none=>(match oI env hi len with
  | none=>none
  | some h=>(match Nat.ble h cap with
   | false=>none
   | true=>match oI env lo 0 with
    | none=>none
    | some l=>match Nat.ble l h with
     | true=>some (l,h,cap)
     | false=>none))
def Cv (b off s l h m:Nat):AV:=
 match Nat.beq m l with
 | true=> .sl b off (Nat.sub h l) (.known 0)
 | false=> .sl b (Nat.add off (Nat.mul l s)) (Nat.sub h l) (.known (Nat.sub m l))
def KS (b off s l h len k:Nat):AV:=
 match Nat.beq l 0 with
 | true=> .sl b off h (.upto k)
 | false=>match Nat.blt l len with
  | true=> .sl b (Nat.add off (Nat.mul l s)) (Nat.sub h l) (.upto (Nat.add k l))
  | false=> .emp
def BZ (env:T AV) (c:Nat) (lo hi:Option Operand):Bool:=
 match oI env lo 0,hi with
 | some l,some h=>(match aR env h with
  | some (.int _ e)=>(match bnd e with
   | some (p,q)=>(match Nat.ble l p,Nat.ble q c with|true,true=>true|_,_=>false)
   | none=>false)
  | _=>false)
 | _,_=>false
def Fj (env:T AV) (s b off len:Nat) (cap:jI) (lo hi mx:Option Operand):Option AV:=
 match cap with
 | .known c=>(match bounds env len c lo hi mx with
  | some (l,h,m)=>some (Cv b off s l h m)
  | none=>(match mx,BZ env c lo hi with
   | none,true=>some .mg
   | _,_=>none))
 | .upto k=>(match bounds env len len lo hi mx with
  | some (l,h,m)=>(match mx with
   | some _=>some (Cv b off s l h m)
   | none=>some (KS b off s l h len k))
  | none=>none)
def Ce (env:T AV) (t:TypeId) (x:AV) (lo hi mx:Option Operand):Option AV:=
 match x with
 | .str s=>(match J3 P t,mx with
  | true,none=>(match bounds env s.length s.length lo hi none with
   | some (l,h,_)=>some (.str ((s.drop l).take (Nat.sub h l)))
   | none=>none)
  | _,_=>none)
 | .dz=>(match xG P t,bounds env 0 0 lo hi mx with
  | some _,some _=>some .dz
  | _,_=>none)
 | .emp=>(match xG P t,mx with
  | some _,none=>(match bounds env 0 0 lo hi none with
   | some _=>some .emp
   | none=>none)
  | _,_=>none)
 | .sl b off len cap=>(match xG P t with
  | some s=>Fj env s b off len cap lo hi mx
  | none=>none)
 | .ptr b off=>(match Ci P t with
  | some (n,_,s)=>(match bounds env n n lo hi mx with
   | some (l,h,m)=>some (Cv b off s l h m)
   | none=>none)
  | none=>none)
 | _=>none
def Fg (t:TypeId) (f:Nat):Option Field:=
 match P.underlying t with
 | some (.struct fs)=>fs[f]?
 | _=>none
def PN (x y:SE):Option Bool:=
 match x,y with
 | .lit x,.lit y=>some (nX x y)
 | x,y=>match SE.beq x y with
  | true=>some true
  | false=>match bnd x,bnd y with
   | some (p,q),some (r,s)=>(match Nat.blt q r,Nat.blt s p with
    | false,false=>none
    | _,_=>some false)
   | _,_=>none
def KA (kd:TypeDesc) (a b:AV):Option Bool:=
 match kd with
 | .int _=>(match a,b with
  | .int k x,.int k' y=>(match Nat.beq (kn k) (kn k') with|true=>PN x y|false=>none)
  | _,_=>none)
 | .string=>(match a,b with
  | .str x,.str y=>some (lS x y)
  | _,_=>none)
 | _=>none
def xL (kd:TypeDesc) (k:AV):List ME→Nat→Option (Option (Nat×AV))
 | [], _=>some none
 | e::l,i=>match KA kd k e.key with
  | some true=>some (some (i,e.val))
  | some false=>xL kd k l (Nat.succ i)
  | none=>none
def mapOf (t:TypeId):Option (TypeDesc×TypeId):=
 match P.underlying t with
 | some (.map kt et)=>(match P.underlying kt with
  | some (.int k)=>some (.int k,et)
  | some .string=>some (.string,et)
  | _=>none)
 | _=>none
def isKey (kd:TypeDesc) (k:AV):Bool:=
 match kd with
 | .int _=>(match k with| .int _ _=>true|_=>false)
 | .string=>(match k with| .str _=>true|_=>false)
 | _=>false
def rY (H:Heap) (m:AV):Option (List ME):=
 match m with
 | .kM=>some []
 | .map n=>(match H.gP n with|some (es,_)=>some es|none=>none)
 | _=>none
def QS:AV→Bool
 | .aK _=>true
 | _=>false
def tH:List (AV×Option AV)→List (AV×Option AV)
 | [] => []
 | e::l=>match QS e.1 with|true=>tH l|false=>e::tH l
def Cn (kd:TypeDesc) (k:AV):List (AV×Option AV)→Option (Option AV)
 | [] => none
 | e::l=>match KA kd k e.1 with
  | some true=>some e.2
  | some false=>Cn kd k l
  | none=>none
def wO (H:Heap) (kd:TypeDesc) (et:TypeId) (m k:AV) (ok:Bool):Option AV:=
 match m with
 | .map n=>(match H.uI n,isKey kd k with
  | some (kn,_),true=>(match Cn kd k (tH kn) with
   | none=>none
   | some (some v)=>some (match ok with|true=> .aK [v,.bool (.lit true)]|false=>v)
   | some none=>match rT P et with
    | none=>none
    | some z=>some (match ok with|true=> .aK [z,.bool (.lit false)]|false=>z))
  | _,_=>none)
 | _=>none
def wN (H:Heap) (t:TypeId) (m k:AV) (ok:Bool):Option AV:=
 match mapOf P t with
 | none=>none
 | some (kd,et)=>match rY H m with
  | none=>wO P H kd et m k ok
  | some es=>match isKey kd k with
   | false=>none
   | true=>match xL kd k es 0 with
    | none=>none
    | some (some (_,v))=>some (match ok with|true=> .aK [v,.bool (.lit true)]|false=>v)
    | some none=>match rT P et with
     | none=>none
     | some z=>some (match ok with|true=> .aK [z,.bool (.lit false)]|false=>z)
def D6:List AV→Nat→Option AV
 | [], _=>none
 | a::l,n=>match n with|0=>some a|m+1=>D6 l m
abbrev L:=T AV→Heap→Option AV
def iH:L:=fun _ _=>none
def QO (x:Operand):L:=fun env _=>aR env x
def given (s:SB) (w:Bool) (y:AV):AV:=
 match y with
 | .bool t=>(match SB.eqv t s with|true=> .bool (.lit w)|false=> .bool t)
 | y=>y
def QU (s x y:SB):SB:=
 match SB.eqv y s with
 | true=>mkAnd s x
 | false=>match SB.eqv x s with
  | true=>mkNot (mkAnd (mkNot s) (mkNot y))
  | false=>mkNot (mkAnd (mkNot (mkAnd s x)) (mkNot (mkAnd (mkNot s) y)))
def QV (s:SB) (x y:AV):Option AV:=
 match x with
 | .gH c w=>(match SB.eqv c s,w with|true,true=>some (given s false y)|_,_=>none)
 | x=>match y with
  | .gH c w=>(match SB.eqv c s,w with|true,false=>some (given s true x)|_,_=>none)
  | .bool q=>(match x with| .bool p=>some (.bool (QU s p q))|_=>none)
  | _=>none
def Kz (c a b:Operand):L:=fun env _=>
 match aR env c with
 | some (.bool (.lit true))=>aR env a
 | some (.bool (.lit false))=>aR env b
 | some (.bool s)=>(match aR env a,aR env b with
  | some x,some y=>QV s x y
  | _,_=>none)
 | _=>none
def Jg (x:Operand) (i:Nat):L:=fun env _=>
 match aR env x with
 | some (.aK l)=>D6 l i
 | _=>none
def IQ (x:Operand):L:=fun env _=>
 match aR env x with
 | some .iI=>none
 | some .jX=>none
 | some .lH=>none
 | some (.cst _ _)=>none
 | some (.opq _ _)=>none
 | some (.gH _ _)=>none
 | some (.sx _ _ _ _)=>none
 | x=>x
def Y4 (t:TypeId) (f:Nat):Option Nat:=
 match Fg P t f with
 | some fd=>match ig P fd.type with
  | some (_+1)=>some fd.offset
  | _=>none
 | none=>none
def IK (t:TypeId) (x:Operand) (f:Nat):L:=fun env _=>
 match Y4 P t f,aR env x with
 | some o,some (.ptr n off)=>some (.ptr n (Nat.add off o))
 | _,_=>none
def O7 (t:TypeId):Option (Option Nat):=
 match J4 P t,ig P t with
 | some false,some _=>some none
 | some true,some s=>some (some s)
 | _,_=>none
def loadAt (k:Option (Option Nat)) (v:Vec) (off:Nat):Option AV:=
 match k with
 | some none=>match Nat.blt off v.n with|true=>some (v.get off)|false=>none
 | some (some s)=>match Nat.ble (Nat.add off s) v.n with|true=>some (.agg (v.list off s))|false=>none
 | none=>none
def FN (t:TypeId) (x:Operand):L:=fun env H=>
 match aR env x with
 | some (.ptr n off)=>match H.row n with
  | some v=>loadAt (O7 P t) v off
  | none=>none
 | _=>none
def wJ:Operand→Bool
 | .const _=>true
 | _=>false
def Fw (o:BinOp) (t:TypeId) (x y:Operand) (_:TypeId):L:=fun env H=>
 match aR env x,aR env y with
 | some a,some b=>vM P H (match wJ x with|true=>true|false=>wJ y) o t a b
 | _,_=>none
def Ky (o:UnOp) (_:TypeId) (x:Operand):L:=fun env _=>
 match aR env x with
 | some a=>Uf o a
 | none=>none
def EL (s d:TypeId) (x:Operand):L:=fun env H=>
 match aR env x with
 | some a=>xW P H s d a
 | none=>none
def Fy (e:SE):List (SE×Nat)→Option Nat
 | [] => none
 | p::l=>match SE.beq p.1 e with|true=>some p.2|false=>Fy e l
def Jw (t:TypeId) (x i:Operand):L:=fun env _=>
 match aR env x,aR env i with
 | some (.sx _ _ sz l),some (.int _ e)=>(match xG P t with
  | some s=>(match Nat.beq s sz with
   | true=>(match Fy e l with
    | some n=>some (.ptr n 0)
    | none=>none)
   | false=>none)
  | none=>none)
 | _,_=>none
def IJ (t:TypeId) (x i:Operand):L:=fun env H=>
 match aR env x,nE env i with
 | some (.sl n off len _),some i=>(match xG P t with
  | some s=>(match Nat.blt i len with
   | true=>some (.ptr n (Nat.add off (Nat.mul i s)))
   | false=>none)
  | none=>none)
 | some (.ptr n off),some i=>(match Ci P t with
  | some (len,_,s)=>(match Nat.blt i len with
   | true=>some (.ptr n (Nat.add off (Nat.mul i s)))
   | false=>none)
  | none=>none)
 | _,_=>Jw P t x i env H
def YX (s:List Nat) (i:Nat):Option AV:=
 match s[i]? with
 | some b=>some (.int .u8 (.lit (.ofNat b)))
 | none=>none
def JZ (t:TypeId) (x i:Operand):L:=fun env _=>
 match aR env x,nE env i with
 | some (.agg cs),some i=>(match Ci P t with
  | some (len,e,s)=>(match Nat.blt i len with
   | true=>qz P e cs (Nat.mul i s)
   | false=>none)
  | none=>none)
 | some (.str s),some i=>(match J3 P t with
  | true=>YX s i
  | false=>none)
 | _,_=>none
def J2 (t:TypeId) (x:Operand) (f:Nat):L:=fun env _=>
 match Fg P t f,aR env x with
 | some fd,some (.agg cs)=>qz P fd.type cs fd.offset
 | _,_=>none
def JY (t:TypeId) (x:Operand) (lo hi mx:Option Operand):L:=fun env _=>
 match aR env x with
 | some a=>Ce P env t a lo hi mx
 | none=>none
def JH (t:TypeId) (x:Operand):L:=fun env _=>
 match Ci P t,aR env x with
 | some (n,_,_),some (.sl b off len _)=>(match Nat.ble n len with
  | true=>some (.ptr b off)
  | false=>none)
 | some (n,_,_),some (.sx _ (.lit (.ofNat len)) _ l)=>(match Nat.ble n len,Fy (.lit (.ofNat 0)) l with
  | true,some m=>some (.ptr m 0)
  | _,_=>none)
 | _,_=>none
def IU (fn:Fn) (first cap:Array Operand):L:=fun env _=>
 match fn with
 | .func f=>match jY env first.toList,jY env cap.toList with
  | some l,some m=>some (.func f l m)
  | _,_=>none
 | _=>none
def II (t:TypeId) (x:Operand):L:=fun env _=>
 match P.underlying t with
 | some (.interface _)=>none
 | none=>none
 | some _=>match aR env x with
  | some a=>some (.iface t a)
  | none=>none
def Ih (x:Operand) (_ t:TypeId) (ok:Bool):L:=fun env _=>
 match P.underlying t with
 | some (.interface _)=>none
 | none=>none
 | some _=>match aR env x with
  | some (.iface u v)=>match Nat.beq u t with
   | true=>some (match ok with|true=> .aK [v,.bool (.lit true)]|false=>v)
   | false=>none
  | _=>none
def E8 (t:TypeId) (x i:Operand) (ok:Bool):L:=fun env H=>
 match aR env x,aR env i with
 | some m,some k=>wN P H t m k ok
 | _,_=>none
def uK (n:Nat):Option AV:=qp n fun n=>some (.int .i64 (.lit (.ofNat n)))
def wM (d:Option TypeDesc) (H:Heap) (x:AV):Option AV:=
 match d with
 | some (.slice _)=>(match x with
  | .dz=>uK 0
  | .emp=>uK 0
  | .sl _ _ n _=>uK n
  | .nM n=>some (.int .i64 n)
  | .cst _ (some n)=>some (.int .i64 n)
  | .opq _ (some n)=>some (.int .i64 n)
  | .sx _ n _ _=>some (.int .i64 n)
  | _=>none)
 | some .string=>(match x with
  | .str s=>uK s.length
  | _=>none)
 | some (.array n _)=>uK n
 | some (.map _ _)=>(match x with
  | .kM=>uK 0
  | .map m=>(match H.gP m with
   | some (es,_)=>uK es.length
   | none=>none)
  | _=>none)
 | _=>none
def yM (ts:List TypeId) (xs:List Operand):L:=fun env H=>
 match ts,xs with
 | t::_,[x]=>match aR env x with
  | some a=>wM (P.underlying t) H a
  | none=>none
 | _,_=>none
def vE (c:Call):L:=
 match c.callee with
 | .builtin .len=>yM P c.argTypes.toList c.args.toList
 | _=>iH
def eY:List AV→Nat→List AV→List AV
 | [], _,_=> []
 | c::cs,off,vs=>match off with
  | 0=>(match vs with
   | [] => c::cs
   | v::vs=>v::eY cs 0 vs)
  | o+1=>c::eY cs o vs
def zK (place:Nat→Option (Nat×Nat)):List AV→List (Nat×AV)→Option (List AV)
 | cells,[]=>some cells
 | cells,p::rest=>match place p.1 with
  | none=>none
  | some (off,size)=>match Nat.beq p.2.cells.length size,Nat.ble (Nat.add off size) cells.length with
   | true,true=>zK place (eY cells off p.2.cells) rest
   | _,_=>none
def partsOf (env:T AV):List (Nat×Operand)→Option (List (Nat×AV))
 | [] => some []
 | p::l=>match aR env p.2 with
  | none=>none
  | some a=>match partsOf env l with
   | some m=>some ((p.1,a)::m)
   | none=>none
def sS:Nat→List AV→List AV
 | 0,_=> []
 | n+1,l=>l++sS n l
def uniform:List AV→Option AV
 | [] => none
 | a::l=>match go a l with|true=>some a|false=>none
where
 go (a:AV):List AV→Bool
  | [] => true
  | b::l=>match AV.beq b a with|true=>go a l|false=>false
def Fp:List Field→Option (List (Nat×Nat))
 | [] => some []
 | f::l=>match ig P f.type with
  | none=>none
  | some s=>match Fp l with
   | some m=>some ((f.offset,s)::m)
   | none=>none
def D7:List (Nat×Nat)→Nat→Option (Nat×Nat)
 | [], _=>none
 | a::l,n=>match n with|0=>some a|m+1=>D7 l m
def Kh (env:T AV) (t:TypeId) (parts:List (Nat×Operand)):Option AV:=
 match rT P t,partsOf env parts with
 | some z,some ps=>match P.underlying t with
  | some (.struct fs)=>(match Fp P fs.toList with
   | some pl=>(match zK (D7 pl) z.cells ps with|some l=>some (.agg l)|none=>none)
   | none=>none)
  | some (.array _ e)=>(match ig P e with
   | some s=>(match zK (fun i=>some (Nat.mul i s,s)) z.cells ps with|some l=>some (.agg l)|none=>none)
   | none=>none)
  | _=>none
 | _,_=>none
def Qo (t:TypeId) (parts:Array (Nat×Operand)):L:=fun env _=>Kh P env t parts.toList
def light (o:Op):L:=
 Op.casesOn (motive:=fun _=>L) o QO QO Kz (fun _=>iH) (fun _ _=>iH) (Qo P) (fun _ _ _=>iH) (fun _ _ _ _=>iH) (FN P)
  (fun _ _ _=>iH) (fun _=>iH) (fun _=>iH) IQ (Fw P) (Ky) (EL P) (JH P) (II P) IU (fun _ _=>iH) (fun _ _=>iH)
  (fun _ _ _=>iH) (JY P) (IK P) (J2 P) (IJ P) (JZ P) (E8 P) (fun _ _ _ _=>iH) (fun _ _ _=>iH) (fun _ _ _ _=>iH)
  (fun _ _=>iH) (fun _ _=>iH) (fun _=>iH) (Ih P) Jg (vE P) (fun _=>iH) (fun _=>iH) (fun _=>iH) (fun _ _=>iH) (fun _ _ _=>iH) (fun _ _=>iH)
def sW (l:List AV) (s nx:Nat):Obj:= .cells (Vec.ofList l) s nx none false true
def FE (t:TypeId) (nx:Nat):Option (AV×Obj):=
 match rT P t,ig P t with
 | some z,some _=>some (.ptr nx 0,sW z.cells 0 nx)
 | _,_=>none
def zS (t:TypeId) (x:Operand) (env:T AV) (nx:Nat):Option (AV×Obj):=
 match aR env x,ig P t with
 | some v,some _=>some (.ptr nx 0,sW v.cells 0 nx)
 | _,_=>none
def Bo (t:TypeId) (len:Nat) (parts:Array (Nat×Operand)) (env:T AV) (nx:Nat):Option (AV×Obj):=
 match P.underlying t with
 | some (.slice e)=>(match ig P e,rT P e,partsOf env parts.toList with
  | some s,some z,some ps=>(match Nat.ble (Nat.mul len s) 16777216,Nat.beq z.cells.length s with
   | true,true=>(match zK (fun i=>some (Nat.mul i s,s)) (sS len z.cells) ps with
    | some l=>some (.sl nx 0 len (.known len),sW l s nx)
    | none=>none)
   | _,_=>none)
  | _,_,_=>none)
 | _=>none
def BF (t:TypeId) (r:Option Operand) (env:T AV) (nx:Nat):Option (AV×Obj):=
 match r with
 | none=>some (.map nx,.map [] 0)
 | some r=>(match P.underlying t,nE env r with
  | some (.map _ _),some _=>some (.map nx,.map [] 0)
  | _,_=>none)
def rowOf (z:List AV) (c s:Nat):Option Vec:=
 match uniform z with
 | some u=>some ⟨.leaf,Nat.mul c s,u⟩
 | none=>(match Nat.ble (Nat.mul c s) 100000 with
  | true=>some (Vec.ofList (sS c z))
  | false=>none)
def Bv (t:TypeId) (l c:Operand) (env:T AV) (nx:Nat):Option (AV×Obj):=
 match P.underlying t,nE env l,nE env c with
 | some (.slice e),some l,some c=>(match P.info? e,rT P e with
  | some inf,some z=>(match Nat.ble l c,Nat.ble (Nat.mul inf.bytes c) 140737488355328,Nat.blt c 4611686018427387904,Nat.beq z.cells.length inf.size with
   | true,true,true,true=>(match rowOf z.cells c inf.size with
    | some r=>some (.sl nx 0 l (.known c),.cells r inf.size nx none false true)
    | none=>none)
   | _,_,_,_=>none)
  | _,_=>none)
 | _,_,_=>none
abbrev A:=T AV→Nat→Option (AV×Obj)
def KL:A:=fun _ _=>none
def mW (o:Op):A:=
 match o with
 | .alloc t=>fun _ nx=>FE P t nx
 | .box t x=>zS P t x
 | .buildSlice t len parts=>Bo P t len parts
 | .makeMap t r=>BF P t r
 | .makeSlice t l c=>Bv P t l c
 | _=>KL
def zu4 (H:Heap) (t:TypeId) (n off:Nat) (v:AV):Option Heap:=
 match ig P t with
 | some s=>match Nat.beq v.cells.length s with
  | true=>H.store n off v.cells
  | false=>none
 | none=>none
def Fu (es:List ME) (i:Nat) (e:ME):List ME:=
 match es with
 | [] => []
 | x::l=>match i with|0=>e::l|j+1=>x::Fu l j e
def BU (es:List ME) (i:Nat):List ME:=
 match es with
 | [] => []
 | x::l=>match i with|0=>l|j+1=>x::BU l j
def AR:List ME→Nat→Option ME
 | [], _=>none
 | a::l,n=>match n with|0=>some a|m+1=>AR l m
def Cm:AV→Bool
 | .int .i64 _=>true
 | _=>false
def PD (H:Heap) (kd:TypeDesc) (n:Nat) (k v:AV):Option Heap:=
 match kd with
 | .int _=>(match Cm k,H.uI n with
  | true,some (_,log)=>some (H.upd n (.dw [(k,some v)] ((k,some v)::log)))
  | _,_=>none)
 | _=>none
def JF (H:Heap) (t:TypeId) (m k v:AV):Option Heap:=
 match mapOf P t with
 | none=>none
 | some (kd,_)=>match m with
  | .map n=>(match isKey kd k,H.gP n with
   | true,some (es,clock)=>(match xL kd k es 0 with
    | none=>none
    | some (some (i,_))=>(match AR es i with
     | none=>none
     | some e=>match AV.beq e.key k with
      | true=>some (H.upd n (.map (Fu es i ⟨k,v,e.born⟩) clock))
      | false=>none)
    | some none=>some (H.upd n (.map (es++ [⟨k,v,clock⟩]) (Nat.succ clock))))
   | _,_=>PD H kd n k v)
  | _=>none
def zrI (H:Heap) (kd:TypeDesc) (n:Nat) (k:AV):Option Heap:=
 match kd with
 | .int _=>(match Cm k,H.uI n with
  | true,some (_,log)=>some (H.upd n (.dw [(k,none)] ((k,none)::log)))
  | _,_=>none)
 | _=>none
def Pm (H:Heap) (t:TypeId) (m k:AV):Option Heap:=
 match mapOf P t with
 | none=>none
 | some (kd,_)=>match isKey kd k with
  | false=>none
  | true=>match m with
   | .kM=>some H
   | .map n=>(match H.gP n with
    | none=>zrI H kd n k
    | some (es,clock)=>match xL kd k es 0 with
     | none=>none
     | some (some (i,_))=>some (H.upd n (.map (BU es i) clock))
     | some none=>some H)
   | _=>none
def Jf (H:Heap) (kd:TypeDesc) (et:TypeId) (n:Nat) (k:AV):Option (AV×Heap):=
 match kd with
 | .int _=>(match Cm k,H.uI n with
  | true,some (kn,log)=>(match Cn kd k (tH kn),rT P et with
   | some none,some z=>some (.aK [z,.opq H.nx none],(H.alloc .opq).upd n (.dw [(k,some z),(.aK [.opq H.nx none,k],none)] ((k,some z)::log)))
   | _,_=>none)
  | _,_=>none)
 | _=>none
def XY (H:Heap) (t:TypeId) (m k:AV):Option (AV×Heap):=
 match mapOf P t with
 | none=>none
 | some (kd,et)=>match m with
  | .map n=>(match isKey kd k,H.gP n with
   | true,some (es,clock)=>(match xL kd k es 0 with
    | none=>none
    | some (some (i,v))=>(match AR es i with
     | none=>none
     | some e=>match AV.beq e.key k with
      | true=>some (.aK [v,.int .i64 (.lit (.ofNat e.born))],H)
      | false=>none)
    | some none=>match rT P et with
     | none=>none
     | some z=>some (.aK [z,.int .i64 (.lit (.ofNat clock))],H.upd n (.map (es++ [⟨k,z,clock⟩]) (Nat.succ clock))))
   | _,_=>Jf P H kd et n k)
  | _=>none
def JJ (b:Nat) (v:AV):List ME→Option (List ME)
 | [] => none
 | e::l=>match Nat.beq e.born b with
  | true=>some (⟨e.key,v,e.born⟩::l)
  | false=>match JJ b v l with|some m=>some (e::m)|none=>none
def FC (s:AV):List (AV×Option AV)→Option AV
 | [] => none
 | e::l=>match e.1 with
  | .aK [s',k]=>(match AV.beq s' s with|true=>some k|false=>FC s l)
  | _=>FC s l
def Ib (H:Heap) (n q:Nat) (v:AV):Option Heap:=
 match H.uI n with
 | some (kn,log)=>(match FC (.opq q none) kn with
  | some k=>some (H.upd n (.dw [(k,some v)] ((k,some v)::log)))
  | none=>none)
 | none=>none
def UZ (H:Heap) (m s v:AV):Option Heap:=
 match m,s with
 | .map n,.int _ (.lit (.ofNat b))=>match H.gP n with
  | none=>none
  | some (es,clock)=>match JJ b v es with
   | some l=>some (H.upd n (.map l clock))
   | none=>none
 | .map n,.opq q none=>Ib H n q v
 | _,_=>none
def Jh (t:TypeId):Option (Nat×Nat):=
 match P.underlying t with
 | some (.slice e)=>(match P.info? e,rT P e with
  | some inf,some z=>(match Nat.beq z.cells.length inf.size,inf.size with
   | true,s+1=>some (inf.bytes,s+1)
   | _,_=>none)
  | _,_=>none)
 | _=>none
def zF (t:TypeId):Bool:=
 match P.underlying t with
 | some (.slice _)=>true
 | some .string=>true
 | _=>false
def DJ:AV→Bool
 | .dz=>true
 | .emp=>true
 | .sl _ _ _ _=>true
 | _=>false
def Jl (H:Heap) (bytes sz need:Nat) (l:List AV):Option (AV×Heap):=
 match Nat.ble (Nat.mul need bytes) 35184372088832,Nat.ble (Nat.mul need sz) 35184372088832 with
 | true,true=>(match H with
  | ⟨m,nx,gw⟩=>some (.sl nx 0 need (.upto 0),Heap.alloc ⟨m,nx,gw⟩ (.cells (Vec.ofList l) sz nx none false true)))
 | _,_=>none
def extended (v:Vec) (off n:Nat) (new:List AV):Vec:=
 match Nat.beq off 0 with
 | true=>(match v with|⟨t,m,d⟩=>Vec.put ⟨t,Nat.add m new.length,d⟩ m new)
 | false=>Vec.ofList (v.list off n++new)
def P8 (H:Heap) (bytes sz n:Nat) (new:List AV) (b off len k:Nat):Option (AV×Heap):=
 match H.m.get b with
 | some (.cells v aW g none _ true)=>(match Nat.beq aW sz,Nat.beq off (Nat.mul k sz),zf new with
  | true,true,true=>(match Nat.beq (Nat.add off (Nat.mul len sz)) v.n with
   | true=>(match Nat.ble (Nat.mul (Nat.add len n) bytes) 35184372088832,Nat.ble (Nat.mul (Nat.add len n) sz) 35184372088832 with
    | true,true=>(match H with
     | ⟨m,nx,gw⟩=>some (.sl nx 0 (Nat.add len n) (.upto 0),Heap.alloc (Heap.upd ⟨m,nx,gw⟩ b (.cells v sz g (some (Nat.succ nx)) true true)) (.cells (extended v off (Nat.mul len sz) new) sz g none true true)))
    | _,_=>none)
   | false=>(match Nat.ble (Nat.add off (Nat.mul (Nat.add len n) sz)) v.n with
    | true=>(match H.store b (Nat.add off (Nat.mul len sz)) new with
     | some H'=>some (.sl b off (Nat.add len n) (.upto k),H')
     | none=>none)
    | false=>none))
  | _,_,_=>none)
 | _=>none
def zyh (H:Heap) (bytes sz n:Nat) (new:List AV) (s:AV):Option (AV×Heap):=
 match s with
 | .dz=>Jl H bytes sz n new
 | .sl b off len cap=>(match cap with
  | .known c=>(match Nat.ble (Nat.add len n) c with
   | true=>(match H.store b (Nat.add off (Nat.mul len sz)) new with
    | some H'=>some (.sl b off (Nat.add len n) (.known c),H')
    | none=>none)
   | false=>(match nW H sz len (.sl b off len (.known c)) with
    | some old=>Jl H bytes sz (Nat.add len n) (old++new)
    | none=>none))
  | .upto k=>P8 H bytes sz n new b off len k)
 | _=>none
def P7 (H:Heap) (ts tx:TypeId) (s x:AV):Option (AV×Heap):=
 match Jh P ts,zF P tx with
 | some (bytes,sz),true=>(match sO x with
  | none=>none
  | some n=>(match nW H sz n x with
   | none=>none
   | some new=>(match n with
    | 0=>(match DJ s with|true=>some (s,H)|false=>none)
    | m+1=>zyh H bytes sz (Nat.succ m) new s)))
 | _,_=>none
def YN (H:Heap) (sz c:Nat) (d s:AV):Option (AV×Heap):=
 match c with
 | 0=>(match DJ d with|true=>some (.int .i64 (.lit 0),H)|false=>none)
 | c+1=>(match nW H sz (Nat.succ c) s,d with
  | some l,.sl b off _ _=>(match H.store b off l with
   | some H'=>some (.int .i64 (.lit (.ofNat (Nat.succ c))),H')
   | none=>none)
  | _,_=>none)
def MC (m n:Nat):Nat:=match Nat.ble m n with|true=>m|false=>n
def QX (H:Heap) (td:TypeId) (d s:AV):Option (AV×Heap):=
 match xG P td,sO d,sO s with
 | some sz,some n,some m=>YN H sz (MC m n) d s
 | _,_,_=>none
end
end Go.Dw
namespace Go.Dw
inductive rV where
 | run (o:Oper)
 | tV (l:List Oper)
inductive Task where
 | code (c:Code) (p:List Nat) (N:Nat) (env:T AV) (H:Heap) (k:Ex→T AV→Heap→Ob)
 | ops (all:Array Oper) (l:List Oper) (N:Nat) (env:T AV) (H:Heap) (k:T AV→Heap→Ob)
 | call (f:FuncId) (args:List AV) (H:Heap) (k:AV→Heap→Ob)
 | app (t:TypeId) (s:AV) (n:Nat) (xs:List AV) (H:Heap) (k:AV→Heap→Ob)
inductive Q5 where
 | light|alloc|heavy|FY
def oZ (o:Op):Q5:=
 match o with
 | .alloc _| .box _ _| .buildSlice _ _ _| .makeMap _ _| .makeSlice _ _ _=> .alloc
 | .store _ _ _| .mapUpdate _ _ _ _| .insert _ _ _ _| .mapEntry _ _ _| .entryStore _ _ _ _| .range _ _| .next _ _=> .heavy
 | .call c=>match c.callee with
  | .builtin .len| .builtin .cap| .builtin .min| .builtin .max=> .light
  | _=> .heavy
 | .defer _=> .FY
 | _=> .light
def nQ (ms:List Nat):List Edge→Nat
 | [] => 0
 | e::l=>match Region.binds .any e with
  | true=>Nat.lor (Nat.lor (2^e.on) (ms.getD e.on 0)) (nQ ms l)
  | false=>nQ ms l
def nN:List Oper→List Nat→List Nat
 | [], ms=>ms
 | o::l,ms=>nN l (ms++ [nQ ms o.after.toList])
def kC (l:List Oper):List Nat:=nN l []
def iy (o:Oper):Bool:=match oZ o.op with| .heavy=>true| .FY=>true|_=>false
def Fe (o:Oper):Bool:=match oZ o.op with| .FY=>true|_=>false
def Fa (o:Oper):Bool:=match oZ o.op with| .light=>true|_=>false
structure PO where
 o:Oper
 i:Nat
 m:Nat
 s:Nat
def kZ (m:Nat):List Nat→Nat→Nat→Nat
 | [], _,acc=>acc
 | h::l,t,acc=>match m.testBit h with
  | true=>kZ m l (Nat.succ t) (Nat.succ t)
  | false=>kZ m l (Nat.succ t) acc
def ql:List Oper→Nat→List Nat
 | [], _=> []
 | o::l,i=>match iy o with
  | true=>i::ql l (Nat.succ i)
  | false=>ql l (Nat.succ i)
def posOf (hs:List Nat):List Oper→List Nat→Nat→List PO
 | o::l,m::ms,i=>⟨o,i,m,kZ m hs 0 0⟩::posOf hs l ms (Nat.succ i)
 | _,_,_=> []
def chained (ms:List Nat):List Nat→Bool
 | [] => true
 | h::l=>match l with
  | [] => true
  | h'::_=>match (ms.getD h' 0).testBit h with|true=>chained ms l|false=>false
def EW:List PO→Bool
 | [] => true
 | p::l=>match p.o.after.toList.all (fun e=>match Region.binds .any e with|true=>Nat.blt e.on p.i|false=>true) with
  | true=>EW l
  | false=>false
def looks (ops:Array Oper) (o:Oper):List Tmp:=
 o.op.operands.toList.filterMap (fun x=>match x with| .tmp t=>some t|_=>none)++(match o.guard with
  | some (g,_)=>(match ops[g]? with|some q=>(match q.dst with|some t=> [t]|none=> [])|none=> [])
  | none=> [])
def ZV (ops:Array Oper) (all:List PO) (p:PO):Bool:=
 all.all fun q=>match q.o.dst with
  | none=>true
  | some t=>match (looks ops p.o).any (Nat.beq t),p.m.testBit q.i||q.m.testBit p.i with
   | true,false=>false
   | _,_=>match Nat.beq p.i q.i,p.o.dst with
    | false,some u=>(match Nat.beq t u with|true=>false|false=>true)
    | _,_=>true
def zB (s:Nat):List PO→List rV
 | [] => []
 | p::l=>match iy p.o,Nat.beq p.s s with
  | false,true=> .run p.o::zB s l
  | _,_=>zB s l
def wW (s hm:Nat):List PO→List PO
 | [] => []
 | p::l=>match Fa p.o,Nat.ble p.s s,hm.testBit p.i with
  | true,true,false=>p::wW s hm l
  | _,_,_=>wW s hm l
def EZ:List PO→List Oper
 | [] => []
 | p::l=>p.o::EZ l
def xA (s hm:Nat) (l:List PO):List Oper:=EZ (wW s hm l)
def O1 (ops:Array Oper) (all:List PO) (s:Nat) (p:PO):Bool:=
 all.all fun q=>match q.o.dst with
  | none=>true
  | some t=>match (looks ops p.o).any (Nat.beq t),p.m.testBit q.i||Nat.blt s q.s with
   | true,false=>false
   | _,_=>true
def EA (ops:Array Oper) (all:List PO):Nat→List PO→Bool
 | _,[]=>true
 | s,h::rest=>match (wW s h.m all).all (O1 ops all s) with
  | true=>EA ops all (Nat.succ s) rest
  | false=>false
def wX (all:List PO):Nat→List PO→List rV
 | s,[]=>zB s all
 | s,h::rest=>zB s all++ .run h.o:: .tV (xA s h.m all)::wX all (Nat.succ s) rest
def Qu (ops:Array Oper):Option (List rV):=
 let ms:=kC ops.toList
 let hs:=ql ops.toList 0
 let all:=posOf hs ops.toList ms 0
 let hp:=all.filter fun p=>iy p.o
 match chained ms hs&&EW all&&all.all (ZV ops all)&& !(ops.toList.any Fe)&&EA ops all 0 hp with
 | true=>some (wX all 0 hp)
 | false=>none
section
variable (P:Program)
inductive G where
 | yes|no
 | test (t:Nat) (b:SB) (want:Bool)
 | none
def lV (all:Array Oper) (env:T AV) (o:Oper):G:=
 match o.guard with
 | none=> .yes
 | some (j,want)=>match all[j]? with
  | none=> .no
  | some oj=>match oj.dst with
   | none=> .no
   | some t=>match env.get t with
    | none=> .no
    | some (.bool (.lit true))=>(match want with|true=> .yes|false=> .no)
    | some (.bool (.lit false))=>(match want with|true=> .no|false=> .yes)
    | some (.bool b)=> .test t b want
    | some (.aK [])=> .no
    | some (.gH _ _)=> .no
    | _=> .none
def Py (t:TypeId) (name:String):Option FuncId:=
 match P.info? t with
 | none=>none
 | some i=>match i.methods.find? (·.name==name) with
  | none=>none
  | some m=>match m.path.toList,m.func,P.underlying t with
   | [], some (f,true),some (.pointer _)=>some f
   | [], some (_,false),some (.pointer _)=>none
   | [], some (f,false),some _=>some f
   | _,_,_=>none
def zn (H:Heap) (env:T AV):List ResultVar→Option (List AV)
 | [] => some []
 | .tmp t::l=>match aR env (.tmp t),zn H env l with
  | some v,some m=>some (v::m)
  | _,_=>none
 | .cell a t::l=>match light P (.load t (.tmp a)) env H,zn H env l with
  | some v,some m=>some (v::m)
  | _,_=>none
def Po (fn:Func) (H:Heap) (env:T AV):Option AV:=
 match zn P H env fn.results.toList with
 | some [v]=>some v
 | some l=>some (.aK l)
 | none=>none
def xM:List AV→Nat→T AV→T AV
 | [], _,env=>env
 | a::l,i,env=>xM l (Nat.succ i) (env.set i a)
def zsa (k:AV→Heap→Ob):List (AV×Heap)→Ob
  | [] => .bad 90 "no way"
  | [(v,H)]=>k v H
  | l=> .all (l.map fun x=>k x.1 x.2)
abbrev K:=AV→Heap→Ob
abbrev D:=T AV→Heap→K→Ob
def dG : D := fun _ _ _ => .bad 29 ""
def G7 (k:K):Option Heap→Ob
  | some H=>k jb H
  | none => .bad 3 ""
def TF (k:K):Option (AV×Heap)→Ob
  | some (v,H)=>k v H
  | none => .bad 4 ""
def J9 (t:TypeId) (a v:Operand):D:=fun env H k=>
  match aR env a,aR env v with
  | some (.ptr n off),some x=>G7 k (zu4 P H t n off x)
  | _, _ => .bad 5 ""
def BV (t:TypeId) (m kk v:Operand):D:=fun env H k=>
  match aR env m,aR env kk,aR env v with
  | some m,some kk,some v=>G7 k (JF P H t m kk v)
  | _, _, _ => .bad 6 ""
def IX (t:TypeId) (m kk:Operand):D:=fun env H k=>
  match aR env m,aR env kk with
  | some m,some kk=>TF k (XY P H t m kk)
  | _, _ => .bad 9 ""
def Ic (_:TypeId) (m s v:Operand):D:=fun env H k=>
  match aR env m,aR env s,aR env v with
  | some m,some s,some v=>G7 k (UZ H m s v)
  | _, _, _ => .bad 11 ""
def JU (rec:Task→Ob) (f:Operand) (args:List Operand):D:=fun env H k=>
  match aR env f,jY env args with
  | some (.func g first cap),some args=>match first,cap with
    | [], [] => rec (.call g args H k)
    | _,_=>rec (.call g (first++(args++cap)) H k)
  | _, _ => .bad 17 ""
def JV (rec:Task→Ob) (r:Operand) (name:String) (args:List Operand):D:=fun env H k=>
  match aR env r,jY env args with
  | some (.iface t v),some args=>match Py P t name with
    | some g=>rec (.call g (v::args) H k)
    | none => .bad 18 ""
  | _, _ => .bad 19 ""
def KN (rec:Task→Ob) (ts tx:TypeId) (rest:List TypeId) (s x:AV) (H:Heap) (k:K):Ob:=
  match rest,Nat.beq tx ts,Jh P ts,x with
  | [], true,some (_,sz),.sl b off len _=>(match H.row b with
    | some v=>(match Nat.ble (Nat.add off (Nat.mul len sz)) v.n with
      | true=>rec (.app ts s len (v.list off (Nat.mul len sz)) H k)
      | false => .bad 4 "")
    | none => .bad 4 "")
  | _, _, _, _ => .bad 4 ""
def JN (rec:Task→Ob) (ts:List TypeId) (args:List Operand):D:=fun env H k=>
  match ts,jY env args with
  | ts::tx::rest,some [s,x]=>(match P7 P H ts tx s x with
    | some q=>k q.1 q.2
    | none=>KN P rec ts tx rest s x H k)
  | _, _ => .bad 21 ""
def Kt (ts:List TypeId) (args:List Operand):D:=fun env H k=>
  match ts,jY env args with
  | td::_,some [d,s]=>TF k (QX P H td d s)
  | _, _ => .bad 23 ""
def JM (ts:List TypeId) (args:List Operand):D:=fun env H k=>
  match ts,jY env args with
  | t::_,some [m,kk]=>G7 k (Pm P H t m kk)
  | _, _ => .bad 25 ""
def Jj (rec:Task→Ob) (b:Builtin) (c:Call):D:=
 match b with
 | .append=>JN P rec c.argTypes.toList c.args.toList
 | .copy=>Kt P c.argTypes.toList c.args.toList
 | .delete=>JM P c.argTypes.toList c.args.toList
 | _=>dG
def QW (rec:Task→Ob) (c:Call):D:=
 match c.callee with
 | .value f=>JU rec f c.args.toList
 | .invoke r name=>JV P rec r name c.args.toList
 | .builtin b=>Jj P rec b c
def heavy (rec:Task→Ob) (o:Op):D:=
 Op.casesOn (motive:=fun _=>D) o (fun _=>dG) (fun _=>dG) (fun _ _ _=>dG) (fun _=>dG) (fun _ _=>dG) (fun _ _=>dG) (fun _ _ _=>dG) (BV P) (fun _ _=>dG)
  (J9 P) (fun _=>dG) (fun _=>dG) (fun _=>dG) (fun _ _ _ _ _=>dG) (fun _ _ _=>dG) (fun _ _ _=>dG) (fun _ _=>dG) (fun _ _=>dG) (fun _ _ _=>dG) (fun _ _=>dG) (fun _ _=>dG)
  (fun _ _ _=>dG) (fun _ _ _ _ _=>dG) (fun _ _ _=>dG) (fun _ _ _=>dG) (fun _ _ _=>dG) (fun _ _ _=>dG) (fun _ _ _ _=>dG) (BV P) (IX P) (Ic)
  (fun _ _=>dG) (fun _ _=>dG) (fun _=>dG) (fun _ _ _ _=>dG) (fun _ _=>dG) (QW P rec) (fun _=>dG) (fun _=>dG) (fun _=>dG) (fun _ _=>dG) (fun _ _ _=>dG) (fun _ _=>dG)
def ML (o:Oper) (H:Heap) (k:K):Option AV→Ob
 | some v=>k v H
 | none=> .bad 1 o.pos
def MK (o:Oper) (H:Heap) (k:K):Option (AV×Obj)→Ob
 | some (v,ob)=>k v (H.alloc ob)
 | none=> .bad 2 o.pos
abbrev K3:=T AV→AV→Heap→Ob
abbrev D3:=T AV→Heap→K3→Ob
def zw7 (_:Task→Ob) (o:Oper):D3:=fun env H k=>ML o H (k env) (light P o.op env H)
def zw9 (_:Task→Ob) (o:Oper):D3:=fun env H k=>match H with|⟨m,nx,gw⟩=>MK o ⟨m,nx,gw⟩ (k env) (mW P o.op env nx)
def zw8 (rec:Task→Ob) (o:Oper):D3:=fun env H k=>heavy P rec o.op env H (k env)
def PZ (_:Task→Ob) (o:Oper):D3:=fun env H k=>
 match o.op with
 | .defer c=>match c.callee with
  | .value f=>match aR env f,jY env c.args.toList with
   | some (.func g first cap),some args=>k (env.set bN (.aK [.func g [] (first++(args++cap)),match env.get bN with|some v=>v|none=>jb])) jb H
   | _,_=> .bad 60 o.pos
  | _=> .bad 61 o.pos
 | _=> .bad 62 o.pos
def vS (rec:Task→Ob) (o:Oper):D3:=
 Q5.casesOn (motive:=fun _=>(Task→Ob)→Oper→D3) (oZ o.op) (zw7 P) (zw9 P) (zw8 P) PZ rec o
def nG (dst:Option Tmp) (N:Nat) (env:T AV) (v:AV) (k:T AV→Ob):Ob:=
  match dst with
  | none=>k env
  | some d=>match Nat.blt d N with
    | true=>k (env.set d v)
    | false => .bad 30 ""
def vB (c:SB):List (SB×Bool)→Option Bool
 | [] => none
 | p::l=>match SB.eqv c p.1 with|true=>some p.2|false=>vB c l
def vz (fs:List (SB×Bool)) (all:Array Oper) (env:T AV) (o:Oper):G:=
 match lV all env o with
 | .test t b want=>(match vB b fs with
  | some true=>(match want with|true=> .yes|false=> .no)
  | some false=>(match want with|true=> .no|false=> .yes)
  | none=> .test t b want)
 | g=>g
def QL (all:Array Oper) (env:T AV) (o:Oper):AV:=
 match lV all env o with
 | .test _ b want=> .gH b want
 | _=>jb
def vN (fs:List (SB×Bool)) (all:Array Oper) (env:T AV) (H:Heap):List Oper→Bool
 | [] => true
 | o::l=>match vz fs all env o with
  | .no=>vN fs all env H l
  | .yes=>match light P o.op env H,o.dst with
   | some v,some d=>match env.get d with
    | some u=>match AV.beq v u with|true=>vN fs all env H l|false=>false
    | none=>false
   | some _,none=>vN fs all env H l
   | none,_=>false
  | _=>false
def Fz (rec:Task→Ob) (o:Oper) (N:Nat) (kk:T AV→Heap→Ob) (env:T AV) (H:Heap) (b:Bool) (z:AV):Ob:=
 match b with
 | true=>vS P rec o env H fun env v H=>nG o.dst N env v fun env'=>kk env' H
 | false=>nG o.dst N env z fun env'=>kk env' H
def fK (rec:Task→Ob) (all:Array Oper) (N:Nat) (k:T AV→Heap→Ob):List rV→List (SB×Bool)→T AV→Heap→Ob
  | [], _,env,H=>k env H
  | .run o::rest,fs,env,H=>(match vz fs all env o with
    | .yes=>Fz P rec o N (fK rec all N k rest fs) env H true jb
    | .no=>Fz P rec o N (fK rec all N k rest fs) env H false (QL all env o)
    | .test _ b want=> .ite b (Fz P rec o N (fK rec all N k rest ((b,true)::fs)) env H want (.gH b want)) (Fz P rec o N (fK rec all N k rest ((b,false)::fs)) env H (match want with|true=>false|false=>true) (.gH b want))
    | .none=> .bad 47 o.pos)
  | .tV os::rest,fs,env,H=>(match vN P fs all env H os with
    | true=>fK rec all N k rest fs env H
    | false => .bad 48 (match os with | o :: _ => o.pos | [] => ""))
abbrev KC:=Ex→T AV→Heap→Ob
abbrev SC:=(Task→Ob)→List Nat→Nat→T AV→Heap→KC→Ob
def Ht : SC := fun _ _ _ _ _ _ => .bad 43 "a statement"
def zxE:SC:=fun _ _ _ env H k=>k .normal env H
def PU (_:Nat) (ops:Array Oper) (draw:Bool):SC:=fun rec _ N env H k=>
  match draw with
  | false=>rec (.ops ops ops.toList N env H (k .normal))
  | true=>match Qu ops with
    | some l=>fK P rec ops N (k .normal) l [] env H
    | none => .bad 40 "a region without a plan"
def Kl (rec:Task→Ob) (b:Code) (p:List Nat) (N:Nat) (k:KC):KC:=fun e env H=>
 Ex.casesOn e (rec (.code b p N env H k)) (fun id=>k (.exit id) env H) (k .ret env H)
def TS (a b:Code):SC:=fun rec p N env H k=>rec (.code a (0::p) N env H (Kl rec b (1::p) N k))
def zxH (c:Operand) (a b:Code):SC:=fun rec p N env H k=>
  match aR env c with
  | some (.bool s)=>match s with
    | .lit true=>rec (.code a (0::p) N env H k)
    | .lit false=>rec (.code b (1::p) N env H k)
    | s=>match c with
      | .tmp t=>match Nat.blt t N with
        | true=> .ite s (rec (.code a (0::p) N (env.set t (.bool (.lit true))) H k)) (rec (.code b (1::p) N (env.set t (.bool (.lit false))) H k))
        | false => .bad 41 ""
      | _ => .bad 41 ""
  | _ => .bad 42 "a test"
def zvt (id:Nat) (k:KC):KC:=fun e env H=>
 match e with
 | .exit id'=>match Nat.beq id' id with
  | true=>k .normal env H
  | false=>k (.exit id') env H
 | e=>k e env H
def zxI (id:Nat) (c:Code):SC:=fun rec p N env H k=>rec (.code c (0::p) N env H (zvt id k))
abbrev FT:=List (SB×Ex×T AV×Heap)
abbrev qC:=List Nat→Nat→T AV→Heap→Option FT
def TB:qC:=fun _ _ _ _=>none
abbrev xQ:=TypeId→AV→Nat→List AV→Heap→Option (AV×Heap)
def TA:xQ:=fun _ _ _ _ _=>none
def FL (k:KC):FT→Ob
  | [] => .bad 91 "no end"
  | (b,x,env,H)::l=>match b with
    | .lit true=>k x env H
    | b=> .ite b (k x env H) (FL k l)
def BM:List Nat→List Nat
 | 2::i::q=>i::q
 | p=>p
def Ko (jh:qC) (c:Code):SC:=fun rec p N env H k=>
 match jh p N env H with
 | some l=>FL k l
 | none=>rec (.code c (0::BM p) N env H (Kl rec (.loop c) (2::BM p) N k))
def zxF (jh:qC) (a b:Code):SC:=fun rec p N env H k=>
 match jh p N env H with
 | some l=>FL k l
 | none=>TS a b rec p N env H k
def zyq (id:Nat):SC:=fun _ _ _ env H k=>k (.exit id) env H
def zxG (_:Nat):SC:=zxE
def abv:SC:=fun _ _ _ env H k=>k .ret env H
def Pf (jh:qC) (rec:Task→Ob) (c:Code) (p:List Nat) (N:Nat) (env:T AV) (H:Heap) (k:KC):Ob:=
 Code.casesOn (motive:=fun _=>SC) c zxE (PU P) (zxF jh) zxH zxI (Ko jh) (fun _ _ _ _=>Ht) zyq (fun _=>Ht) zxG (fun _=>Ht) abv (fun _=>Ht) rec p N env H k
def abl (rec:Task→Ob) (all:Array Oper) (rest:List Oper) (N:Nat) (k:T AV→Heap→Ob) (o:Oper):K3:=fun env v H=>
 nG o.dst N env v fun env'=>rec (.ops all rest N env' H k)
def PI (rec:Task→Ob) (all:Array Oper) (l:List Oper) (N:Nat) (env:T AV) (H:Heap) (k:T AV→Heap→Ob):Ob:=
  match l with
  | [] => k env H
  | o::rest=>match lV all env o with
    | .yes=>vS P rec o env H (abl rec all rest N k o)
    | .no=>nG o.dst N env jb fun env'=>rec (.ops all rest N env' H k)
    | .test t b _=>match Nat.blt t N with
      | true=> .ite b (rec (.ops all l N (env.set t (.bool (.lit true))) H k)) (rec (.ops all l N (env.set t (.bool (.lit false))) H k))
      | false => .bad 44 ""
    | .none=> .bad 45 o.pos
def Ch (f:FuncId):Option (Func×Code):=
  match P.funcs[f]? with
  | none=>none
  | some fn=>match fn.body with
    | none=>none
    | some c => if fn.name = "runtime.NumGoroutine" then none else some (fn, c)
def leave (fn:Func) (env:T AV) (k:K):Heap→Ob:=fun H=>
 match Po P fn H env with
 | some v=>k v H
 | none=> .bad 54 fn.name
def zyc (fn:Func) (k:K):KC:=fun e env H=>
 match e with
 | .exit _=> .bad 56 fn.name
 | _=>match env.get bN with
  | none=>leave P fn env k H
  | some _=> .bad 57 fn.name
def Bt (rec:Task→Ob) (fin:Heap→Ob):Nat→AV→Heap→Ob
  | 0, _, _ => .bad 70 ""
  | n+1,d,H=>match d with
    | .aK []=>fin H
    | .aK [.func g [] args,rest]=>(match Ch P g with
      | none => .bad 72 ""
      | some (fn,c)=>(match Nat.ble args.length fn.ntmps&&Nat.ble fn.ntmps bN with
        | true=>rec (.code c [g] fn.ntmps (xM args 0 .leaf) H (zyc P fn fun _ H'=>Bt rec fin n rest H'))
        | false=> .bad 73 fn.name))
    | _ => .bad 71 ""
def zyA (rec:Task→Ob) (fn:Func) (k:K):KC:=fun e env H=>
 match e with
 | .exit _=> .bad 53 fn.name
 | _=>match env.get bN with
  | none=>leave P fn env k H
  | some d=>Bt P rec (leave P fn env k) 8 d H
def Pg (fP:FuncId→List AV→Heap→Option (List (AV×Heap))) (rec:Task→Ob) (f:FuncId) (args:List AV) (H:Heap) (k:K):Ob:=
  match fP f args H with
  | some l=>zsa k l
  | none=>match Ch P f with
    | none => .bad 50 ""
    | some (fn,c)=>match Nat.ble args.length fn.ntmps&&Nat.ble fn.ntmps bN with
      | true=>rec (.code c [f] fn.ntmps (xM args 0 .leaf) H (zyA P rec fn k))
      | false=> .bad 55 fn.name
def PK (pG:xQ) (t:TypeId) (s:AV) (n:Nat) (xs:List AV) (H:Heap) (k:K):Ob:=
  match pG t s n xs H with
  | some q=>k q.1 q.2
  | none => .bad 4 "append"
def step (fP:FuncId→List AV→Heap→Option (List (AV×Heap))) (jh:qC) (pG:xQ) (rec:Task→Ob) (t:Task):Ob:=
 Task.casesOn (motive:=fun _=>Ob) t (Pf P jh rec) (PI P rec) (Pg P fP rec) (PK pG)
noncomputable def kH (fP:FuncId→List AV→Heap→Option (List (AV×Heap))) (jh:qC) (pG:xQ) (n:Nat):Task→Ob:=
  Nat.rec (motive := fun _ => Task → Ob) (fun _ => .bad 0 "no fuel") (fun _ ih => step P fP jh pG ih) n
noncomputable def ev (fP:FuncId→List AV→Heap→Option (List (AV×Heap))) (n:Nat):Task→Ob:=kH P fP TB TA n
def ax (i:Nat):Code→Code
 | .seq a b=>(match i with|0=>a|1=>b|_=> .skip)
 | .cond _ a b=>(match i with|0=>a|1=>b|_=> .skip)
 | .block _ c=>(match i with|0=>c|_=> .skip)
 | .loop c=>(match i with|0=>c|2=> .loop c|_=> .skip)
 | _=> .skip
def bS:List Nat→Code
 | [] => .skip
 | i::p=>match p with
  | [] => (match Ch P i with|some (_,c)=>c|none=> .skip)
  | _::_=>ax i (bS p)
def og:Heap:=⟨.leaf,1,.leaf⟩
def isTrue (v:AV) (_:Heap):Ob:=
  match v with
  | .bool (.lit true)=> .ok
  | .bool (.lit false) => .bad 99 "false"
  | .bool b => .ite b .ok (.bad 98 "false")
  | _ => .bad 97 "no bool"
def zH:FuncId→List AV→Heap→Option (List (AV×Heap)):=fun _ _ _=>none
end
end Go.Dw
namespace Go.Dw
namespace T
variable {α:Type}
theorem ve (n:Nat):(leaf:T α).get n=none:=rfl
theorem BN (l:T α) (v:Option α) (r:T α):(node l v r).get 0=v:=rfl
theorem u7 (l:T α) (v:Option α) (r:T α) (m:Nat):
  (node l v r).get (m+1)=if m%2=0 then l.get (m/2) else r.get (m/2):=by
 show Nat.casesOn (motive:=fun _=>Option α) (Nat.mod m 2) (l.get (Nat.div m 2)) (fun _=>r.get (Nat.div m 2))=_;have h:Nat.mod m 2=m%2:=rfl;have h2:Nat.div m 2=m/2:=rfl;rw [h,h2];cases e:m%2 with
 | zero=>rw [yak rfl];rfl
 | succ k=>rw [yah (by omega)]
theorem zvm (v:Option α) (r l:T α):DZ v r l=node l v r:=by cases l<;>rfl
theorem zvl (v:Option α) (l r:T α):D5 v l r=node l v r:=by cases r<;>rfl
theorem zin (f:Nat) (x:α):nL (f+1) leaf 0 x=node leaf (some x) leaf:=rfl
theorem zil (f:Nat) (l:T α) (v:Option α) (r:T α) (x:α):nL (f+1) (node l v r) 0 x=node l (some x) r:=rfl
theorem zio (f m:Nat) (x:α):nL (f+1) (leaf:T α) (m+1) x=
  if m%2=0 then node (nL f leaf (m/2) x) none leaf else node leaf none (nL f leaf (m/2) x):=by
 show Nat.casesOn (motive:=fun _=>T α) (Nat.mod m 2) (DZ none leaf (nL f leaf (Nat.div m 2) x)) (fun _=>D5 none leaf (nL f leaf (Nat.div m 2) x))=_;have h:Nat.mod m 2=m%2:=rfl;have h2:Nat.div m 2=m/2:=rfl;rw [h,h2];cases e:m%2 with
 | zero=>rw [yak rfl];exact zvm _ _ _
 | succ k=>rw [yah (by omega)];exact zvl _ _ _
theorem zim (f m:Nat) (l:T α) (v:Option α) (r:T α) (x:α):nL (f+1) (node l v r) (m+1) x=
  if m%2=0 then node (nL f l (m/2) x) v r else node l v (nL f r (m/2) x):=by
 show Nat.casesOn (motive:=fun _=>T α) (Nat.mod m 2) (DZ v r (nL f l (Nat.div m 2) x)) (fun _=>D5 v l (nL f r (Nat.div m 2) x))=_;have h:Nat.mod m 2=m%2:=rfl;have h2:Nat.div m 2=m/2:=rfl;rw [h,h2];cases e:m%2 with
 | zero=>rw [yak rfl];exact zvm _ _ _
 | succ k=>rw [yah (by omega)];exact zvl _ _ _
theorem zuo: ∀(f:Nat) (t:T α) (n m:Nat) (x:α),n<f→(nL f t n x).get m=if m=n then some x else t.get m:=by
 intro f
 induction f with
 | zero=>intro t n m x h;omega
 | succ f ih=>
  intro t n m x h;cases n with
  | zero=>
   cases t with
   | leaf=>
    rw [zin];cases m with
    | zero=>rfl
    | succ m=>rw [u7];simp [ve]
   | node l v r=>
    rw [zil];cases m with
    | zero=>rfl
    | succ m=>rw [u7,u7];simp
  | succ n=>
   have hn:n/2<f:=by omega
   cases t with
   | leaf=>
    rw [zio];by_cases hp:n%2=0
    ·rw [yak hp];cases m with
     | zero=>rw [BN];simp [ve]
     | succ m=>
      rw [u7,ve,ve,ih _ _ _ _ hn,ve];by_cases hm:m%2=0
      ·rw [yak hm];by_cases e:m/2=n/2
       ·rw [yak e,yak (by omega)]
       ·rw [yah e,yah (by omega)]
      ·rw [yah hm,yah (by omega)]
    ·rw [yah hp];cases m with
     | zero=>rw [BN];simp [ve]
     | succ m=>
      rw [u7,ve,ve,ih _ _ _ _ hn,ve];by_cases hm:m%2=0
      ·rw [yak hm,yah (by omega)]
      ·rw [yah hm];by_cases e:m/2=n/2
       ·rw [yak e,yak (by omega)]
       ·rw [yah e,yah (by omega)]
   | node l v r=>
    rw [zim];by_cases hp:n%2=0
    ·rw [yak hp];cases m with
     | zero=>rw [BN,BN];simp
     | succ m=>
      rw [u7,u7,ih _ _ _ _ hn];by_cases hm:m%2=0
      ·rw [yak hm,yak hm];by_cases e:m/2=n/2
       ·rw [yak e,yak (by omega)]
       ·rw [yah e,yah (by omega)]
      ·rw [yah hm,yah hm,yah (by omega)]
    ·rw [yah hp];cases m with
     | zero=>rw [BN,BN];simp
     | succ m=>
      rw [u7,u7,ih _ _ _ _ hn];by_cases hm:m%2=0
      ·rw [yak hm,yak hm,yah (by omega)]
      ·rw [yah hm,yah hm];by_cases e:m/2=n/2
       ·rw [yak e,yak (by omega)]
       ·rw [yah e,yah (by omega)]
theorem lC (t:T α) (n m:Nat) (x:α):(t.set n x).get m=if m=n then some x else t.get m:=zuo _ _ _ _ _ (ydw n)
theorem get_set_same (t:T α) (n:Nat) (x:α):(t.set n x).get n=some x:=by rw [lC,yak rfl]
theorem jw (t:T α) {n m:Nat} (x:α) (h:m≠n):(t.set n x).get m=t.get m:=by rw [lC,yah h]
end T
theorem uT {β:Type} (n:Nat) (k:Nat→β):qp n k=k n:=by cases n<;>rfl
theorem Vec.get_eq (v:Vec) (i:Nat):v.get i=(v.t.get i).getD v.d:=by
 unfold Vec.get;cases v.t.get i<;>rfl
theorem Vec.TY (v:Vec) (i:Nat) (x:AV):v.set i x=⟨v.t.set i x,v.n,v.d⟩:=by
 obtain ⟨t,n,d⟩:=v;show (match t.set i x with| .leaf=>(⟨.leaf,n,d⟩:Vec)| .node a b c=>⟨.node a b c,n,d⟩)=_;cases t.set i x<;>rfl
theorem Vec.lC (v:Vec) (i j:Nat) (x:AV):(v.set i x).get j=if j=i then x else v.get j:=by
 rw [Vec.TY,Vec.get_eq,Vec.get_eq,T.lC];by_cases h:j=i<;>simp [h]
theorem Vec.abe (v:Vec) (i:Nat) (x:AV):(v.set i x).n=v.n:=by rw [Vec.TY]
theorem Vec.AP: ∀(l:List AV) (v:Vec) (i:Nat),(v.put i l).n=v.n
 | [], _,_=>rfl
 | x::l,v,i=>by unfold Vec.put;rw [Vec.AP l,Vec.abe]
theorem Vec.get_put: ∀(l:List AV) (v:Vec) (i j:Nat),(v.put i l).get j=if h:i≤j∧j<i+l.length then l[j-i]'(by omega) else v.get j
 | [], v,i,j=>by
  unfold Vec.put;rw [ydD (by simp)]
 | x::l,v,i,j=>by
  unfold Vec.put;rw [Vec.get_put l,Vec.lC];by_cases h:j=i
  ·subst h;rw [ydD (by simp;omega),yak rfl,ydC (by simp)];simp
  ·by_cases h2:i≤j∧j<i+(x::l).length
   ·rw [ydC (by simp at h2 ⊢;omega),ydC h2];have e:j-i=(j-Nat.succ i)+1:=by simp at h2;omega
    simp only [e,ycp]
   ·rw [ydD (by simp at h2 ⊢;omega),ydD h2,yah h]
theorem Vec.rq (l:List AV):(Vec.ofList l).n=l.length:=by unfold Vec.ofList;rw [Vec.AP]
theorem Vec.xY (l:List AV) (i:Nat) (h:i<l.length):(Vec.ofList l).get i=l[i]:=by
 unfold Vec.ofList;rw [Vec.get_put,ydC (by omega)];simp
theorem Vec.rf: ∀(n:Nat) (v:Vec) (i:Nat),(v.list i n).length=n
 | 0,_,_=>rfl
 | n+1,v,i=>by unfold Vec.list;rw [yaX,Vec.rf]
theorem Vec.zY: ∀(n:Nat) (v:Vec) (i k:Nat) (h:k<n),(v.list i n)[k]? =some (v.get (i+k))
 | 0,_,_,_,h=>by omega
 | n+1,v,i,0,_=>by unfold Vec.list;simp
 | n+1,v,i,k+1,h=>by
  unfold Vec.list;rw [yaG,Vec.zY n v (Nat.succ i) k (by omega)];congr 2;omega
theorem zx4 (x y:Int):AO x y=decide (x<y):=by
 cases x<;>cases y<;>unfold AO<;>rw [ybS]<;>simp [yaD]<;>omega
theorem zvq (x y:Int):nX x y=(x==y):=by
 cases x<;>cases y<;>unfold nX<;>rw [ybS]<;>simp [Nat.beq_eq]<;>omega
theorem zxf (o:BinOp) (x y:Int):KR o x y=mD o x y:=by
 cases o<;>simp only [KR,mD,zvq,zx4]
 case neq=>show (match (x==y) with|true=>false|false=>true)=(!(x==y));cases (x==y)<;>rfl
 case leq=>by_cases h:y<x<;>simp [h]<;>omega
 all_goals (by_cases h:x<y<;>simp [h]<;>omega)
theorem zxm (x y:Int):Ra x y=x+y:=by cases x<;>cases y<;>rfl
theorem zwI (x y:Int):Tw x y=x*y:=by cases x<;>cases y<;>rfl
theorem zxa (x y:Int):Rj x y=x.tdiv y:=by cases x<;>cases y<;>rfl
theorem zwJ (x y:Int):Tv x y=x.tmod y:=by cases x<;>cases y<;>rfl
theorem zvC (x y:Int):Ni x y=x-y:=by
 cases x<;>cases y<;>try rfl
 rename_i a b;have e:Ni (Int.ofNat a) (Int.ofNat b)=match Nat.ble b a with|true=>Int.ofNat (Nat.sub a b)|false=>Int.negSucc (Nat.sub (Nat.sub b a) 1):=rfl
 rw [e];cases h:Nat.ble b a with
 | true=>
  have:=yam h;show Int.ofNat (a-b)=(a:Int)-(b:Int);simp only [ybQ];omega
 | false=>
  have: ¬b≤a:=fun hh=>by rw [yb9 hh] at h;cases h
  show Int.negSucc (b-a-1)=(a:Int)-(b:Int);rw [Int.negSucc_eq];omega
theorem Ew {k:IntKind} {n:Int} (h1:k.min≤n) (h2:n≤k.max):k.wrap n=n:=by
 cases k<;>simp [IntKind.min,IntKind.max,IntKind.signed,IntKind.bits] at h1 h2<;>simp [IntKind.wrap,IntKind.signed,IntKind.bits]<;>omega
theorem Jp (k:IntKind) (n:Int):rU k n=k.wrap n:=by
 cases n with
 | ofNat m=>
  have e:rU k (Int.ofNat m)=match Nat.blt m (jG k) with|true=>Int.ofNat m|false=>k.wrap (Int.ofNat m):=rfl
  rw [e];cases h:Nat.blt m (jG k) with
  | true=>
   rw [yaD] at h;refine (Ew ?_ ?_).symm<;>cases k<;>simp [jG] at h<;>simp [IntKind.min,IntKind.max,IntKind.signed,IntKind.bits]<;>omega
  | false=>rfl
 | negSucc m=>
  have e:rU k (Int.negSucc m)=match k.signed with|true=>(match Nat.blt m (jG k) with|true=>Int.negSucc m|false=>k.wrap (Int.negSucc m))|false=>k.wrap (Int.negSucc m):=rfl
  rw [e];cases hs:k.signed with
  | false=>rfl
  | true=>
   cases h:Nat.blt m (jG k) with
   | true=>
    rw [yaD] at h;refine (Ew ?_ ?_).symm<;>cases k<;>simp [jG] at h<;>simp [IntKind.signed] at hs<;>simp [IntKind.min,IntKind.max,IntKind.signed,IntKind.bits]<;>omega
   | false=>rfl
theorem ofInt_ofNat (n x:Nat):BitVec.ofInt n (Int.ofNat x)=BitVec.ofNat n x:=by
 apply BitVec.eq_of_toNat_eq;simp
theorem Jo {k:IntKind} {m:Nat} (h:m<jG k):k.wrap ((m:Nat):Int)=Int.ofNat m:=by
 refine Ew ?_ ?_<;>cases k<;>simp [jG] at h<;>simp [IntKind.min,IntKind.max,IntKind.signed,IntKind.bits]<;>omega
theorem zqh (k:IntKind): ∃e,jG k=2^e∧e≤k.bits:=by
 cases k<;>simp only [jG,IntKind.bits]
 ·exact ⟨7,by decide,by decide⟩
 ·exact ⟨15,by decide,by decide⟩
 ·exact ⟨31,by decide,by decide⟩
 ·exact ⟨63,by decide,by decide⟩
 ·exact ⟨8,by decide,by decide⟩
 ·exact ⟨16,by decide,by decide⟩
 ·exact ⟨32,by decide,by decide⟩
 ·exact ⟨64,by decide,by decide⟩
theorem EO (o:BinOp) (ho:o= .and∨o= .or∨o= .xor∨o= .andNot) (k:IntKind) (x y:Int):mY o k x y=mV o k x y:=by
 cases x with
 | negSucc a=>cases y<;>rfl
 | ofNat a=>
  cases y with
  | negSucc b=>rfl
  | ofNat b=>
   cases ha:Nat.blt a (jG k) with
   | false=>simp only [mY,ha]
   | true=>
    cases hb:Nat.blt b (jG k) with
    | false=>simp only [mY,ha,hb]
    | true=>
     have key:mY o k (Int.ofNat a) (Int.ofNat b)=mY.nat o a b:=by simp only [mY,ha,hb]
     rw [key];rw [yaD] at ha hb;obtain ⟨e,he,hle⟩:=zqh k;have ha2:a<2^k.bits:=yae (he▸ha) (ybO (by omega) hle);have hb2:b<2^k.bits:=yae (he▸hb) (ybO (by omega) hle);have ea:(BitVec.ofNat k.bits a).toNat=a:=by rw [ybj,ya6 ha2]
     have eb:(BitVec.ofNat k.bits b).toNat=b:=by rw [ybj,ya6 hb2]
     rcases ho with rfl|rfl|rfl|rfl
     ·show Int.ofNat (a&&&b)=k.wrap _;rw [ofInt_ofNat,ofInt_ofNat,ych,ea,eb,Jo (by rw [he];exact Nat.and_lt_two_pow _ (he▸hb))]
     ·show Int.ofNat (a|||b)=k.wrap _;rw [ofInt_ofNat,ofInt_ofNat,ydJ,ea,eb,Jo (by rw [he];exact ycS (he▸ha) (he▸hb))]
     ·show Int.ofNat (a^^^b)=k.wrap _;rw [ofInt_ofNat,ofInt_ofNat,BitVec.toNat_xor,ea,eb,Jo (by rw [he];exact Nat.xor_lt_two_pow (he▸ha) (he▸hb))]
     ·show Int.ofNat (a^^^(a&&&b))=k.wrap (((BitVec.ofInt k.bits (Int.ofNat a)&&& ~~~(BitVec.ofInt k.bits (Int.ofNat b))).toNat:Nat):Int);have e3:(BitVec.ofInt k.bits (Int.ofNat a)&&& ~~~(BitVec.ofInt k.bits (Int.ofNat b))).toNat=a^^^(a&&&b):=by
       rw [ofInt_ofNat,ofInt_ofNat,ych,ea];apply ybh;intro i;rw [yb8,ydE,yb8];by_cases hi:i<k.bits
       ·have:(~~~(BitVec.ofNat k.bits b)).toNat.testBit i= !(b.testBit i):=by
         have h1:(~~~(BitVec.ofNat k.bits b)).toNat.testBit i=(~~~(BitVec.ofNat k.bits b)).getLsbD i:=rfl;rw [h1,BitVec.getLsbD_not];have h2:(BitVec.ofNat k.bits b).getLsbD i=(BitVec.ofNat k.bits b).toNat.testBit i:=rfl;rw [h2,eb];simp [hi]
        rw [this];cases a.testBit i<;>cases b.testBit i<;>rfl
       ·have:a.testBit i=false:=Nat.testBit_lt_two_pow (yae ha2 (ybO (by omega) (by omega)));simp [this]
      rw [e3,Jo (by rw [he];exact Nat.xor_lt_two_pow (he▸ha) (Nat.and_lt_two_pow _ (he▸hb)))]
theorem zrE (y b:Nat):(match Nat.blt y b with|true=>y|false=>b)=min y b:=by
 cases h:Nat.blt y b with
 | true=>rw [yaD] at h;simp;omega
 | false=>
  have: ¬y<b:=fun hh=>by rw [←yaD] at hh;rw [hh] at h;cases h
  simp;omega
theorem zvG (k:IntKind) (x:Int) (y:Nat):Ua k x y=x.fdiv (2^(min y k.bits)):=by
 cases x with
 | negSucc a=>rfl
 | ofNat a=>
  show Int.ofNat (Nat.div a (Nat.pow 2 (match Nat.blt y k.bits with|true=>y|false=>k.bits)))=_;rw [zrE];show ((a/2^(min y k.bits):Nat):Int)=_;rw [Int.natCast_ediv,ydN _ (by exact_mod_cast yar _)];simp
theorem zvH (k:IntKind) (x:Int) (y:Nat):T9 k x y=k.wrap (x*2^(min y k.bits)):=by
 cases x with
 | negSucc a=>rfl
 | ofNat a=>
  show rU k (Int.ofNat (Nat.mul a (Nat.pow 2 (match Nat.blt y k.bits with|true=>y|false=>k.bits))))=_;rw [zrE,Jp];congr 1
theorem zrX {o:BinOp} {k:IntKind} {x y z:Int} (h:DF o k x y=some z):iQ o k x y=z:=by
 cases o<;>simp only [DF,zxm,zvC,zwI,zxa,zwJ,Jp] at h
 case add=>exact yaE h
 case sub=>exact yaE h
 case mul=>exact yaE h
 case quo=>split at h<;>simp_all [iQ]
 case rem=>split at h<;>simp_all [iQ]
 case shl=>split at h<;>simp_all [iQ,zvH]
 case shr=>split at h<;>simp_all [iQ,zvG]
 case and=>rw [EO _ (by simp)] at h;exact yaE h
 case or=>rw [EO _ (by simp)] at h;exact yaE h
 case xor=>rw [EO _ (by simp)] at h;exact yaE h
 case andNot=>rw [EO _ (by simp)] at h;exact yaE h
 all_goals cases h
theorem Qp {k k':IntKind} (h:Nat.beq (kn k) (kn k')=true):k=k':=by
 cases k<;>cases k'<;>first|rfl|cases h
theorem aY {a b:Nat} (h:Nat.beq a b=true):a=b:=yc7 h
theorem Oq: ∀ {a b:List Nat},lS a b=true→a=b
 | [], [], _=>rfl
 | [], _::_,h=>by cases h
 | _::_,[],h=>by cases h
 | a::l,b::m,h=>by
  unfold lS at h;split at h
  ·rename_i h1;rw [aY h1,Oq h]
  ·cases h
theorem NQ: ∀(a:List Nat),lS a a=true
 | [] => rfl
 | a::l=>by unfold lS;rw [yb7];exact NQ l
theorem zmT {a b:List Nat}:lS a b=decide (a=b):=by
 by_cases h:a=b
 ·subst h;simp [NQ]
 ·cases e:lS a b with
  | true=>exact absurd (Oq e) h
  | false=>simp [h]
theorem aL.beq_eq {f g:aL} (h:aL.beq f g=true):f=g:=by
 obtain ⟨a,b,c,d,e,p⟩:=f;obtain ⟨a',b',c',d',e',p'⟩:=g;unfold aL.beq at h;simp only at h;split at h
 ·rename_i h1 h2 h3 h4 h5 h6;rw [aY h1,aY h2,aY h3,aY h4,aY h5,aY h6]
 ·cases h
theorem Vy: ∀ {l m:List aL},JB l m=true→l=m
 | [], [], _=>rfl
 | [], _::_,h=>by cases h
 | _::_,[],h=>by cases h
 | f::l,g::m,h=>by
  unfold JB at h;split at h
  ·rename_i h1;rw [aL.beq_eq h1,Vy h]
  ·cases h
theorem SE.beq_eq: ∀ {a b:SE},SE.beq a b=true→a=b:=by
 intro a
 induction a with
 | lit n=>
  intro b h;cases b<;>simp only [SE.beq] at h<;>try cases h
  split at h
  ·rw [aY h]
  ·rw [aY h]
  ·cases h
 | var i=>
  intro b h;cases b<;>simp only [SE.beq] at h<;>try cases h
  rw [aY h]
 | bin o k a b iha ihb=>
  intro c h;cases c<;>simp only [SE.beq] at h<;>try cases h
  split at h
  ·split at h
   ·split at h
    ·rename_i h1 h2 _ h3;rw [h1,h2,iha h3,ihb h]
    ·cases h
   ·cases h
  ·cases h
 | wrap k a ih=>
  intro c h;cases c<;>simp only [SE.beq] at h<;>try cases h
  split at h
  ·rename_i h1;rw [h1,ih h]
  ·cases h
 | bn l c=>
  intro b h;cases b<;>simp only [SE.beq] at h<;>try cases h
  split at h
  ·rename_i h1;rw [Vy h1,aY h]
  ·cases h
theorem SB.uf: ∀ {a b:SB},SB.eqv a b=true→a=b:=by
 intro a
 induction a with
 | lit n=>
  intro b h;cases b<;>simp only [SB.eqv] at h<;>try cases h
  simp at h;rw [h]
 | var i=>
  intro b h;cases b<;>simp only [SB.eqv] at h<;>try cases h
  rw [aY h]
 | cmp o a b=>
  intro c h;cases c<;>simp only [SB.eqv] at h<;>try cases h
  split at h
  ·split at h
   ·rename_i h1 _ h2;rw [h1,SE.beq_eq h2,SE.beq_eq h]
   ·cases h
  ·cases h
 | not a ih=>
  intro b h;cases b<;>simp only [SB.eqv] at h<;>try cases h
  rw [ih h]
 | beq a b iha ihb=>
  intro c h;cases c<;>simp only [SB.eqv] at h<;>try cases h
  split at h
  ·rename_i h1;rw [iha h1,ihb h]
  ·cases h
 | and a b iha ihb=>
  intro c h;cases c<;>simp only [SB.eqv] at h<;>try cases h
  split at h
  ·rename_i h1;rw [iha h1,ihb h]
  ·cases h
theorem jI.beq_eq {a b:jI} (h:jI.beq a b=true):a=b:=by
 cases a<;>cases b<;>simp only [jI.beq] at h<;>first|rw [aY h]|cases h
theorem XM {a b:Option SE} (h:Ke a b=true):a=b:=by
 cases a<;>cases b<;>simp only [Ke] at h<;>first|rfl|rw [SE.beq_eq h]|cases h
theorem YK: ∀ {a b:List (SE×Nat)},Km a b=true→a=b
 | [], [], _=>rfl
 | x::a,y::b,h=>by
  unfold Km at h;split at h
  ·rename_i h1 h2;rw [YK h,Prod.ext (SE.beq_eq h1) (aY h2)]
  ·cases h
 | [], _::_,h=>by cases h
 | _::_,[],h=>by cases h
mutual
theorem AV.beq_eq: ∀ {a b:AV},AV.beq a b=true→a=b
 | .bool a,b,h=>by cases b<;>simp only [AV.beq] at h<;>first|rw [SB.uf h]|cases h
 | .int k n,b,h=>by
  cases b<;>simp only [AV.beq] at h<;>try cases h
  split at h
  ·split at h
   ·rename_i h1 h2;rw [SE.beq_eq h1,h2]
   ·cases h
  ·cases h
 | .str a,b,h=>by cases b<;>simp only [AV.beq] at h<;>first|rw [Oq h]|cases h
 | .iI,b,h=>by cases b<;>simp only [AV.beq] at h<;>first|rfl|cases h
 | .ptr a c,b,h=>by
  cases b<;>simp only [AV.beq] at h<;>try cases h
  split at h
  ·rename_i h1;rw [aY h1,aY h]
  ·cases h
 | .dz,b,h=>by cases b<;>simp only [AV.beq] at h<;>first|rfl|cases h
 | .sl a c d e,b,h=>by
  cases b<;>simp only [AV.beq] at h<;>try cases h
  split at h
  ·rename_i h1 h2 h3;rw [aY h1,aY h2,aY h3,jI.beq_eq h]
  ·cases h
 | .emp,b,h=>by cases b<;>simp only [AV.beq] at h<;>first|rfl|cases h
 | .nM a,b,h=>by cases b<;>simp only [AV.beq] at h<;>first|rw [SE.beq_eq h]|cases h
 | .mg,b,h=>by cases b<;>simp only [AV.beq] at h<;>first|rfl|cases h
 | .kM,b,h=>by cases b<;>simp only [AV.beq] at h<;>first|rfl|cases h
 | .map a,b,h=>by cases b<;>simp only [AV.beq] at h<;>first|rw [aY h]|cases h
 | .func f l m,b,h=>by
  cases b<;>simp only [AV.beq] at h<;>try cases h
  split at h
  ·rename_i h1 h2;rw [aY h1,AV.vL h2,AV.vL h]
  ·cases h
 | .lH,b,h=>by cases b<;>simp only [AV.beq] at h<;>first|rfl|cases h
 | .jX,b,h=>by cases b<;>simp only [AV.beq] at h<;>first|rfl|cases h
 | .iface t v,b,h=>by
  cases b<;>simp only [AV.beq] at h<;>try cases h
  split at h
  ·rename_i h1;rw [aY h1,AV.beq_eq h]
  ·cases h
 | .agg l,b,h=>by cases b<;>simp only [AV.beq] at h<;>first|rw [AV.vL h]|cases h
 | .aK l,b,h=>by cases b<;>simp only [AV.beq] at h<;>first|rw [AV.vL h]|cases h
 | .cst a l,b,h=>by
  cases b<;>simp only [AV.beq] at h<;>try cases h
  split at h
  ·rename_i h1;rw [aY h1,XM h]
  ·cases h
 | .opq a l,b,h=>by
  cases b<;>simp only [AV.beq] at h<;>try cases h
  split at h
  ·rename_i h1;rw [aY h1,XM h]
  ·cases h
 | .sx i n s l,b,h=>by
  cases b<;>simp only [AV.beq] at h<;>try cases h
  split at h
  ·rename_i h1 h2 h3;rw [aY h1,SE.beq_eq h2,aY h3,YK h]
  ·cases h
 | .junk,b,h=>by cases b<;>simp only [AV.beq] at h<;>first|rfl|cases h
 | .gH c w,b,h=>by
  cases b<;>simp only [AV.beq] at h<;>try cases h
  split at h
  ·rename_i h1;split at h
   ·rw [SB.uf h1]
   ·rw [SB.uf h1]
   ·cases h
  ·cases h
theorem AV.vL: ∀ {a b:List AV},AV.qE a b=true→a=b
 | [], b,h=>by cases b<;>simp only [AV.qE] at h<;>first|rfl|cases h
 | x::l,b,h=>by
  cases b<;>simp only [AV.qE] at h<;>try cases h
  split at h
  ·rename_i h1;rw [AV.beq_eq h1,AV.vL h]
  ·cases h
end
end Go.Dw
namespace Go.Dw
structure Loc where
 blk:Nat
 off:Nat
 cap:Nat
 q:Option Value
abbrev J:=Nat→Option Loc
def vF (L:Loc):jI→Nat
 | .known c=>c
 | .upto k=>L.cap-k
def zyg (L:Loc) (len:Nat):jI→Prop
 | .known c=>len≤c
 | .upto k=>k+len≤L.cap∧0<L.cap
def rX (ρ:Val) (j:J) (sz:Nat) (b:Option Addr) (len:Nat):List (SE×Nat)→Prop
 | [] => True
 | p::l=>(∃bb o L k,b=some ⟨bb,o,none⟩∧j p.2=some L∧L.blk=bb∧p.1.den ρ=Int.ofNat k∧k<len∧L.off=o+sz*k)∧rX ρ j sz b len l
mutual
def R (ρ:Val) (j:J):AV→Value→Prop
 | .bool b,v=>v= .bool (b.den ρ)
 | .int k n,v=>v= .int k (n.den ρ)
 | .str s,v=>(∀b∈s,b<256)∧v= .string ⟨(s.map UInt8.ofNat).toArray⟩
 | .iI,v=>v= .pointer none
 | .ptr n o,v=> ∃L,j n=some L∧v= .pointer (some ⟨L.blk,L.off+o,none⟩)
 | .dz,v=>v= .slice none 0 0
 | .sl n o len cap,v=> ∃L,j n=some L∧zyg L len cap∧v= .slice (some ⟨L.blk,L.off+o,none⟩) len (vF L cap)
 | .emp,v=> ∃a c,v= .slice (some a) 0 c
 | .nM n,v=> ∃b l c,v= .slice b l c∧Int.ofNat l=n.den ρ
 | .mg,v=> ∃a l c,v= .slice (some a) l c
 | .kM,v=>v= .map none
 | .map n,v=> ∃L,j n=some L∧v= .map (some L.blk)
 | .func f first cap,v=> ∃l m,v= .func (.func f) l.toArray m.toArray∧RL ρ j first l∧RL ρ j cap m
 | .lH,v=>v= .nilFunc
 | .jX,v=>v= .nilIface
 | .iface t x,v=> ∃y,v= .iface t y∧R ρ j x y
 | .agg l,v=> ∃m,v= .agg m.toArray∧RL ρ j l m
 | .aK l,v=> ∃m,v= .tuple m.toArray∧RL ρ j l m
 | .cst i len,v=>v=ρ.v i∧v.oneCell'=true∧ ∀n,len=some n→ ∃b l c,v= .slice b l c∧Int.ofNat l=n.den ρ
 | .gH c b,v=>v=undef∧c.den ρ= !b
 | .junk,_=>False
 | .sx i n sz l,v=>v=ρ.v i∧ ∃b len cap,v= .slice b len cap∧Int.ofNat len=n.den ρ∧rX ρ j sz b len l
 | .opq m len,v=>(∃L,j m=some L∧L.q=some v)∧v.oneCell'=true∧ ∀n,len=some n→ ∃b l c,v= .slice b l c∧Int.ofNat l=n.den ρ
def RL (ρ:Val) (j:J):List AV→List Value→Prop
 | [], l=>l= []
 | a::l,m=> ∃v m',m=v::m'∧R ρ j a v∧RL ρ j l m'
end
def Sub (j j':J):Prop:= ∀n L,j n=some L→j' n=some L
theorem Sub.refl (j:J):Sub j j:=fun _ _ h=>h
theorem Sub.trans {j j' DK:J} (h:Sub j j') (h':Sub j' DK):Sub j DK:=fun n L e=>h' n L (h n L e)
theorem rX.mono {ρ:Val} {j j':J} (h: ∀n L,j n=some L→j' n=some L) {sz:Nat} {b:Option Addr} {len:Nat}: ∀ {l:List (SE×Nat)},rX ρ j sz b len l→rX ρ j' sz b len l
 | [], _=>trivial
 | _::_,r=>let ⟨⟨bb,o,L,k,h1,h2,h3⟩,h4⟩:=r;⟨⟨bb,o,L,k,h1,h _ _ h2,h3⟩,rX.mono h h4⟩
mutual
theorem R.mono {ρ:Val} {j j':J} (h:Sub j j'): ∀ {a:AV} {v:Value},R ρ j a v→R ρ j' a v
 | .bool _,_,r=>r
 | .int _ _,_,r=>r
 | .str _,_,r=>r
 | .iI,_,r=>r
 | .ptr _ _,_,r=>let ⟨L,e,x⟩:=r;⟨L,h _ _ e,x⟩
 | .dz,_,r=>r
 | .sl _ _ _ _,_,r=>let ⟨L,e,x⟩:=r;⟨L,h _ _ e,x⟩
 | .emp,_,r=>r
 | .nM _,_,r=>r
 | .mg,_,r=>r
 | .kM,_,r=>r
 | .map _,_,r=>let ⟨L,e,x⟩:=r;⟨L,h _ _ e,x⟩
 | .func _ _ _,_,r=>let ⟨l,m,e,x,y⟩:=r;⟨l,m,e,RL.mono h x,RL.mono h y⟩
 | .lH,_,r=>r
 | .jX,_,r=>r
 | .iface _ _,_,r=>let ⟨y,e,x⟩:=r;⟨y,e,R.mono h x⟩
 | .agg _,_,r=>let ⟨m,e,x⟩:=r;⟨m,e,RL.mono h x⟩
 | .aK _,_,r=>let ⟨m,e,x⟩:=r;⟨m,e,RL.mono h x⟩
 | .cst _ _,_,r=>r
 | .gH _ _,_,r=>r
 | .junk,_,r=>r.elim
 | .sx _ _ _ _,_,r=>let ⟨h1,b,len,cap,h2,h3,h4⟩:=r;⟨h1,b,len,cap,h2,h3,h4.mono h⟩
 | .opq _ _,_,r=>let ⟨⟨L,e,x⟩,y⟩:=r;⟨⟨L,h _ _ e,x⟩,y⟩
theorem RL.mono {ρ:Val} {j j':J} (h:Sub j j'): ∀ {a:List AV} {v:List Value},RL ρ j a v→RL ρ j' a v
 | [], _,r=>r
 | _::_,_,r=>let ⟨v,m,e,x,y⟩:=r;⟨v,m,e,R.mono h x,RL.mono h y⟩
end
section
variable {ρ:Val} {j:J}
theorem RL.length: ∀ {l:List AV} {m:List Value},RL ρ j l m→m.length=l.length
 | [], m,r=>by have e:m= []:=r;rw [e];rfl
 | _::l,_,r=>by obtain ⟨v,m,rfl,_,y⟩:=r;simp [RL.length y]
theorem RL.get: ∀ {l:List AV} {m:List Value},RL ρ j l m→ ∀(i:Nat) (a:AV),l[i]? =some a→ ∃v,m[i]? =some v∧R ρ j a v
 | [], _,_,_,_,h=>by simp at h
 | _::l,_,r,0,a,h=>by obtain ⟨v,m,rfl,x,_⟩:=r;simp at h;subst h;exact ⟨v,rfl,x⟩
 | _::l,_,r,i+1,a,h=>by obtain ⟨v,m,rfl,_,y⟩:=r;simp at h;simpa using RL.get y i a h
theorem RL.AY: ∀ {l:List AV} {m:List Value},m.length=l.length→(∀(i:Nat) (a:AV),l[i]? =some a→ ∃v,m[i]? =some v∧R ρ j a v)→RL ρ j l m
 | [], m,h,_=>by
  have e:m= []:=by simpa using h
  exact e
 | a::l,[],h,_=>by simp at h
 | a::l,v::m,h,hg=>by
  refine ⟨v,m,rfl,?_,RL.AY (by simpa using h) fun i b hb=>by simpa using hg (i+1) b (by simpa using hb)⟩;obtain ⟨v',h1,h2⟩:=hg 0 a rfl;simp at h1;subst h1;exact h2
theorem RL.append: ∀ {l l':List AV} {m m':List Value},RL ρ j l m→RL ρ j l' m'→RL ρ j (l++l') (m++m')
 | [], _,_,_,r,r'=>by rw [show _= [] from r];exact r'
 | _::l,_,_,_,r,r'=>by obtain ⟨v,m,rfl,x,y⟩:=r;exact ⟨v,_,rfl,x,RL.append y r'⟩
theorem RL.cons {a:AV} {v:Value} {l:List AV} {m:List Value} (h:R ρ j a v) (h':RL ρ j l m):RL ρ j (a::l) (v::m):=⟨v,m,rfl,h,h'⟩
theorem RL.nil:RL ρ j [] []:=rfl
theorem RL.one {a:AV} {v:Value} (h:R ρ j a v):RL ρ j [a] [v]:=⟨v,[],rfl,h,rfl⟩
theorem RL.two {a b:AV} {v u:Value} (h:R ρ j a v) (h':R ρ j b u):RL ρ j [a,b] [v,u]:= .cons h (.one h')
end
theorem zfS (l:List UInt8):(l.map (·.toNat)).map UInt8.ofNat=l:=by
 rw [List.map_map]
 conv=>rhs;rw [←List.map_id l]
 apply List.map_congr_left;intro a _;simp
theorem ZA {ρ:Val} {j:J} {v:Value} {a:AV} (h:Kc v=some a):R ρ j a v:=by
  unfold Kc at h;split at h<;>first|(cases h;done)|skip
  all_goals (cases h)
  all_goals first
    | (simp [R,SB.den,SE.den];done)
    | skip
  rename_i s;refine ⟨by simp;intro b _;exact b.toNat_lt,?_⟩;rw [zfS]
theorem OD {ρ:Val} {j:J}: ∀ {vs:List Value} {l:List AV},BO vs=some l→RL ρ j l vs
 | [], l,h=>by unfold BO at h;cases h;rfl
 | v::vs,l,h=>by
  unfold BO at h;split at h
  ·cases h
  ·rename_i a ha;split at h
   ·cases h
   ·rename_i m hm;cases h;exact ⟨v,vs,rfl,ZA ha,OD hm⟩
theorem X4 {ρ:Val} {j:J} {v:Value} {a:AV} (h:ofValue v=some a):R ρ j a v:=by
 unfold ofValue at h;split at h
 ·split at h
  ·rename_i hl;cases h;exact ⟨_,by simp,OD hl⟩
  ·cases h
 ·split at h
  ·rename_i hl;cases h;exact ⟨_,by simp,OD hl⟩
  ·cases h
 ·exact ZA h
theorem rJ {ρ:Val} {j:J}:R ρ j jb undef:=⟨[],rfl,rfl⟩
theorem xh {ρ:Val} {j:J} {a:AV} {v:Value} (h:R ρ j a v):RL ρ j a.cells v.cells.toList:=by
  cases a with
  | agg l=>obtain ⟨m,rfl,r⟩:=h;simpa [AV.cells,Value.cells] using r
  | junk=>exact h.elim
  | _=>
    have hv:v.cells= #[v]:=by
      simp only [R] at h
      first
        | (subst h;rfl)
        | (obtain ⟨_,_,rfl⟩:=h;rfl)
        | (obtain ⟨_,_,_,rfl⟩:=h;rfl)
        | (obtain ⟨_,rfl,_⟩:=h;rfl)
        | (obtain ⟨_,rfl⟩:=h;rfl)
        | (obtain ⟨_,_,_,_,rfl,_⟩:=h;rfl)
        | (obtain ⟨_,_,rfl,_⟩:=h;rfl)
        | (obtain ⟨_,_,_,rfl,_⟩:=h;rfl)
        | (obtain ⟨rfl,_⟩:=h;rfl)
        | (have h1:=h.2.1;revert h1;cases v<;>intro h1<;>first|rfl|cases h1)
    rw [hv];exact RL.one h
theorem zf6 {ρ:Val} {j:J} {a:AV} {v:Value} (h:R ρ j a v) (hc:Qs a=true):v.oneCell'=true:=by
  cases a<;>simp only [Qs] at hc<;>try (cases hc;done)
  all_goals
    simp only [R] at h
    first
      | (subst h;rfl)
      | (obtain ⟨_,_,rfl⟩:=h;rfl)
      | (obtain ⟨_,_,_,rfl⟩:=h;rfl)
      | (obtain ⟨_,rfl,_⟩:=h;rfl)
      | (obtain ⟨_,rfl⟩:=h;rfl)
      | (obtain ⟨_,_,_,_,rfl,_⟩:=h;rfl)
      | (obtain ⟨_,_,rfl,_⟩:=h;rfl)
      | (obtain ⟨_,_,_,rfl,_⟩:=h;rfl)
      | exact h.2.1
theorem O4 {ρ:Val} {j:J}: ∀ {l:List AV} {m:List Value},RL ρ j l m→zf l=true→ ∀v∈m,v.oneCell'=true
 | [], _,r,_=>by rw [show _= [] from r];simp
 | a::l,_,r,h=>by
  obtain ⟨v,m,rfl,x,y⟩:=r;unfold zf at h;split at h
  ·rename_i hc;intro u hu;rcases yaj.1 hu with rfl|hu
   ·exact zf6 x hc
   ·exact O4 y h u hu
  ·cases h
def Mine (j:J) (b:Nat):Prop:= ∃n L,j n=some L∧L.q=none∧L.blk=b
structure Cx where
 w:World
 K:Nat→Prop
 G:Nat→J→World→Prop
 aby: ∀k j j' w w',G k j w→Sub j j'→w.heap.size≤w'.heap.size→(∀b,b<w.heap.size→ ¬Mine j b→w'.heap[b]? =w.heap[b]?)→(∀b,Mine j' b→Mine j b∨w.heap.size≤b)→G k j' w'
def Cx.own (x:Cx) (b:Nat):Prop:=x.w.heap.size≤b∨x.K b
def Cx.plain (w:World):Cx:=⟨w,fun _=>False,fun _ _ _=>True,fun _ _ _ _ _ _ _ _ _ _=>trivial⟩
structure Fr (w0:Cx) (w:World):Prop where
 os:w.os=w0.w.os
 out:w.output=w0.w.output
 tape:w.tape=w0.w.tape
 size:w0.w.heap.size≤w.heap.size
 old: ∀i,i<w0.w.heap.size→ ¬w0.K i→w.heap[i]? =w0.w.heap[i]?
theorem Fr.below {w w':World} (h:Fr (Cx.plain w) w'):RowKit.Below w.heap.size w w':=⟨h.os,h.tape,h.out,h.size,fun i hi=>h.old i hi id⟩
theorem Fr.refl (x:Cx):Fr x x.w:=⟨rfl,rfl,rfl,yaa _,fun _ _ _=>rfl⟩
theorem Fr.then {x:Cx} {b c:World} (h:Fr x b) (h1:c.os=b.os) (h2:c.output=b.output) (h3:c.tape=b.tape) (h4:b.heap.size≤c.heap.size) (h5: ∀i,i<b.heap.size→ ¬x.own i→c.heap[i]? =b.heap[i]?):Fr x c:=
 ⟨h1.trans h.os,h2.trans h.out,h3.trans h.tape,yas h.size h4,fun i hi hk=>(h5 i (yae hi h.size) (fun ho=>ho.elim (fun h=>absurd hi (Nat.not_lt_of_le h)) hk)).trans (h.old i hi hk)⟩
def RM (ρ:Val) (j:J):List ME→List MapEntry→Prop
 | [], l=>l= []
 | e::l,m=> ∃x m',m=x::m'∧R ρ j e.key x.key∧R ρ j e.val x.val∧x.born=e.born∧RM ρ j l m'
theorem RM.mono {ρ:Val} {j j':J} (h:Sub j j'): ∀ {l:List ME} {m:List MapEntry},RM ρ j l m→RM ρ j' l m
 | [], _,r=>r
 | _::_,_,r=>let ⟨x,m,e,a,b,c,d⟩:=r;⟨x,m,e,a.mono h,b.mono h,c,RM.mono h d⟩
def RK (ρ:Val) (j:J):List ME→List MapEntry→Prop
 | [], l=>l= []
 | e::l,m=> ∃x m',m=x::m'∧R ρ j e.key x.key∧R ρ j e.val x.val∧RK ρ j l m'
theorem RK.mono {ρ:Val} {j j':J} (h:Sub j j'): ∀ {l:List ME} {m:List MapEntry},RK ρ j l m→RK ρ j' l m
 | [], _,r=>r
 | _::_,_,r=>let ⟨x,m,e,a,b,d⟩:=r;⟨x,m,e,a.mono h,b.mono h,RK.mono h d⟩
def Ck (v:Value) (n:Int):Bool:=
 match v with
 | .int .i64 m=>m==n
 | _=>false
def eF (arr:Array MapEntry) (n:Int):Option Value:=(arr.toList.find? fun e=>Ck e.key n).map (·.val)
def uJ (D:Int→Option Value):List (Int×Option Value)→Int→Option Value
 | [], n=>D n
 | e::l,n=>if n=e.1 then e.2 else uJ D l n
def RO (ρ:Val) (j:J):Option AV→Option Value→Prop
 | none,o=>o=none
 | some a,o=> ∃v,o=some v∧R ρ j a v
def RX (ρ:Val) (j:J):List (AV×Option AV)→List (Int×Option Value)→Prop
 | [], l=>l= []
 | e::l,m=> ∃x o m',m=(x,o)::m'∧R ρ j e.1 (.int .i64 x)∧RO ρ j e.2 o∧RX ρ j l m'
theorem RO.mono {ρ:Val} {j j':J} (h:Sub j j'): ∀ {a:Option AV} {o:Option Value},RO ρ j a o→RO ρ j' a o
 | none,_,r=>r
 | some _,_,r=>let ⟨v,e,x⟩:=r;⟨v,e,x.mono h⟩
theorem RX.mono {ρ:Val} {j j':J} (h:Sub j j'): ∀ {l:List (AV×Option AV)} {m:List (Int×Option Value)},RX ρ j l m→RX ρ j' l m
 | [], _,r=>r
 | _::_,_,r=>let ⟨x,o,m,e,a,b,c⟩:=r;⟨x,o,m,e,a.mono h,b.mono h,RX.mono h c⟩
structure mE (arr:Array MapEntry):Prop where
 keys: ∀e∈arr.toList,∃n,e.key= .int .i64 n
 once:arr.toList.Pairwise fun a b=>a.key≠b.key
def pq (arr:Array MapEntry) (clock:Nat):Prop:=(∀e∈arr.toList,e.born<clock)∧(arr.toList.map (·.born)).Nodup
def pF (ρ:Val) (j:J) (arr:Array MapEntry) (e:AV×Option AV):Prop:=
 match e.1 with
 | .aK [s,k]=> ∃(x:Int) (b p:Nat) (ent:MapEntry),R ρ j s (.int .i64 b)∧R ρ j k (.int .i64 x)∧arr.toList.findIdx? (fun e=>(e.born:Int)==(b:Int))=some p∧arr.toList[p]? =some ent∧ent.key= .int .i64 x
 | _=>True
theorem pF.mono {ρ:Val} {j j':J} (h:Sub j j') {arr:Array MapEntry} {e:AV×Option AV} (r:pF ρ j arr e):pF ρ j' arr e:=by
 unfold pF at r ⊢;split at r
 ·obtain ⟨x,b,p,ent,h1,h2,h3⟩:=r;exact ⟨x,b,p,ent,h1.mono h,h2.mono h,h3⟩
 ·trivial
theorem Ov {ρ:Val} {j:J}: ∀ {l:List (AV×Option AV)} {m:List (Int×Option Value)},RX ρ j l m→tH l=l∧ ∀arr,∀e∈l,pF ρ j arr e
 | [], _,_=>⟨rfl,fun _ e h=>by cases h⟩
 | e::l,_,r=>by
  obtain ⟨x,o,m',rfl,h1,_,h3⟩:=r;obtain ⟨i1,i2⟩:=Ov h3;have ht: ∀l',e.1≠ .aK l':=fun l' he=>by
   rw [he] at h1;obtain ⟨_,h4,_⟩:=h1;cases h4
  have hf:QS e.1=false:=by
   cases he:e.1<;>first|rfl|exact absurd he (ht _)
  refine ⟨by unfold tH;rw [hf];exact yaB _ i1,fun arr e' he'=> ?_⟩;rcases yaj.1 he' with rfl|he'
  ·unfold pF;split
   ·rename_i he;exact absurd he (ht _)
   ·trivial
  ·exact i2 arr e' he'
def nV (ρ:Val) (j:J) (w0:Cx) (w:World) (gw:T Nat) (L:Loc):Obj→Prop
  | .cells v aW g closed _ own=>L.q=none∧
    (if own=true then w0.own L.blk else¬w0.own L.blk)∧
    (alive gw g closed=true→ ∃arr e fr,w.heap[L.blk]? =some (.cells arr e fr)∧L.off+v.n≤arr.size∧(L.off+L.cap*aW≤arr.size∧(0<L.cap→v.n≤L.cap*aW))∧
      ∀ i,i<v.n→ ∃x,arr[L.off+i]? =some x∧R ρ j (v.get i) x)
  | .map es clock=>L.q=none∧w0.own L.blk∧L.off=0∧ ∃arr,w.heap[L.blk]? =some (.map arr clock)∧RM ρ j es arr.toList
  | .iter m since seen stepped=>L.q=none∧w0.own L.blk∧L.off=0∧ ∃m' sa,w.heap[L.blk]? =some (.mapIter m' since sa stepped)∧sa.toList=seen∧
      (match m with|none=>m'=none|some n=> ∃Lm,j n=some Lm∧m'=some Lm.blk)
  | .wP es=>L.q=none∧w0.own L.blk∧L.off=0∧ ∃arr clock es',w.heap[L.blk]? =some (.map arr clock)∧es'.Perm es∧RK ρ j es' arr.toList
  | .dw kn log=>L.q=none∧w0.own L.blk∧L.off=0∧ ∃arr clock gq kG m0 m1,w.heap[L.blk]? =some (.map arr clock)∧w0.w.heap[L.blk]? =some (.map gq kG)∧(mE arr∧pq arr clock∧ ∀e∈kn,pF ρ j arr e)∧
      RX ρ j (tH kn) m0∧RX ρ j log m1∧(∀x o,(x,o)∈m0→eF arr x=o)∧ ∀n,eF arr n=uJ (eF gq) m1 n
  | .opq=>L.q≠none
  | .gs _=>False
def Sep (H:Heap) (n m:Nat) (Ln Lm:Loc):Prop:=
 ∃ vn en gn cn sn on vm em gm cm sm om,H.m.get n=some (.cells vn en gn cn sn on)∧H.m.get m=some (.cells vm em gm cm sm om)∧on=om∧
  (on=true→gn=gm∧(alive H.gw gn cn=true→alive H.gw gm cm=true→cn=none→sn=true∧cm≠none∧Lm.off+vm.n≤Ln.off+vn.n))
structure Inv (ρ:Val) (w0:Cx) (j:J) (H:Heap) (w:World):Prop where
 fr:Fr w0 w
 dom: ∀n L,j n=some L→n<H.nx
 blk: ∀n L,j n=some L→L.q=none→L.blk<w.heap.size
 used: ∀n o,H.m.get n=some o→n<H.nx
 obj: ∀n L,j n=some L→ ∃o,H.m.get n=some o∧nV ρ j w0 w H.gw L o
 sep: ∀n m Ln Lm,n≠m→j n=some Ln→j m=some Lm→Ln.q=none→Lm.q=none→Ln.blk=Lm.blk→Sep H n m Ln Lm
 sU: ∀n v e g t sh ow,H.m.get n=some (.cells v e g (some t) sh ow)→t≤H.nx
 pI: ∀g x,H.gw.get g=some x→x≤H.nx
 lX: ∀n L v e g c sh,j n=some L→H.m.get n=some (.cells v e g c sh true)→ ∃Lg,j g=some Lg
 fz: ∀n L,j n=some L→L.q=none→w0.own L.blk→ ∀c e fr,w.heap[L.blk]? =some (.cells c e fr)→fr=(0,0)
 pW: ∀n L v e c sh,j n=some L→H.m.get n=some (.cells v e n c sh true)→L.off=0
 n0:j 0=none
 kN:0<H.nx
 z0: ∀o,H.m.get 0=some o→ ∃k,o= .gs k
 nY:w0.G H.gs j w
theorem nV.plain {ρ:Val} {j:J} {w0:Cx} {w:World} {gw:T Nat} {L:Loc} {o:Obj} (h:nV ρ j w0 w gw L o) (ho:o≠ .opq):L.q=none:=by
 cases o with
 | cells=>exact h.1
 | map=>exact h.1
 | iter=>exact h.1
 | wP=>exact h.1
 | dw=>exact h.1
 | opq=>exact absurd rfl ho
 | gs=>exact h.elim
structure St (j:J) (H:Heap) (j':J) (H':Heap):Prop where
 sub:Sub j j'
 fresh: ∀n L,j' n=some L→j n=none→H.nx≤n
 keep: ∀n,0<n→j n=none→n<H.nx→H'.m.get n=H.m.get n∧H'.gw.get n=H.gw.get n
 nx:H.nx≤H'.nx
theorem St.refl (j:J) (H:Heap):St j H j H:=⟨Sub.refl j,(fun n L h h'=>by rw [h] at h';cases h'),fun _ _ _ _=>⟨rfl,rfl⟩,yaa _⟩
theorem St.trans {j j' DK:J} {H H' Q6:Heap} (h:St j H j' H') (h':St j' H' DK Q6):St j H DK Q6:=by
 refine ⟨h.sub.trans h'.sub,fun n L e e0=> ?_,fun n hp e hn=> ?_,yas h.nx h'.nx⟩
 ·cases e1:j' n with
  | none=>exact yas h.nx (h'.fresh n L e e1)
  | some L'=>exact h.fresh n L' e1 e0
 ·have e1:j' n=none:=by
   cases e1:j' n with
   | none=>rfl
   | some L'=>have:=h.fresh n L' e1 e;omega
  have a:=h.keep n hp e hn;have b:=h'.keep n hp e1 (yae hn h.nx);exact ⟨b.1.trans a.1,b.2.trans a.2⟩
theorem Heap.alloc_eq (H:Heap) (o:Obj):H.alloc o=⟨H.m.set H.nx o,H.nx+1,H.gw⟩:=by
 obtain ⟨m,nx,gw⟩:=H;show (match m.set nx o with| .leaf=>(⟨.leaf,nx+1,gw⟩:Heap)| .node a b c=>qp (nx+1) fun x=>⟨.node a b c,x,gw⟩)=_;cases m.set nx o<;>simp [uT]
theorem Heap.p8 (H:Heap) (n:Nat) (o:Obj):H.upd n o=⟨H.m.set n o,H.nx,H.gw⟩:=by
 obtain ⟨m,nx,gw⟩:=H;show (match m.set n o with| .leaf=>(⟨.leaf,nx,gw⟩:Heap)| .node a b c=>⟨.node a b c,nx,gw⟩)=_;cases m.set n o<;>rfl
theorem Heap.Uh (H:Heap) (g:Nat):H.wrote g=⟨H.m,H.nx,H.gw.set g H.nx⟩:=rfl
end Go.Dw
namespace Go.Dw
section
variable {ρ:Val} {w0:Cx} {j:J} {H:Heap} {w:World}
def jV (j:J) (n:Nat) (L:Loc):J:=fun k=>if k=n then some L else j k
theorem nP (j:J) (n:Nat) (L:Loc):jV j n L n=some L:=by simp [jV]
theorem nO (j:J) {n k:Nat} (L:Loc) (h:k≠n):jV j n L k=j k:=by simp [jV,h]
theorem uY {j:J} {n:Nat} {L:Loc} (h:j n=none):Sub j (jV j n L):=fun k L' e=>by
 by_cases hk:k=n
 ·subst hk;rw [h] at e;cases e
 ·rw [nO j L hk];exact e
theorem Qj (H:Heap) (o:Obj) {n:Nat} (hn:n≠0) {nx:Nat} {gw:T Nat}:Heap.gs ⟨H.m.set n o,nx,gw⟩=H.gs:=by
 unfold Heap.gs;rw [show (H.m.set n o).get 0=H.m.get 0 from T.jw _ _ (ycW hn)]
theorem Inv.yN (h:Inv ρ w0 j H w) {n:Nat} {L:Loc} (hj:j n=some L):n≠0:=fun e=>by
 subst e;rw [h.n0] at hj;cases hj
theorem Inv.Np (h:Inv ρ w0 j H w) {n:Nat} (hn:n≠0) (o:Obj): ∀o',(H.m.set n o).get 0=some o'→ ∃k,o'= .gs k:=fun o' e=>by
 rw [show (H.m.set n o).get 0=H.m.get 0 from T.jw _ _ (ycW hn)] at e;exact h.z0 o' e
theorem Inv.q (h:Inv ρ w0 j H w) {n:Nat} {L:Loc} {o:Obj} (hj:j n=some L) (hm:H.m.get n=some o) (ho:o≠ .opq):L.q=none:=by
 obtain ⟨o',h1,h2⟩:=h.obj n L hj;rw [hm] at h1;cases h1;exact h2.plain ho
theorem Inv.nI (h:Inv ρ w0 j H w) {n:Nat} {L:Loc} {v:Vec} {e g:Nat} {c:Option Nat} {s ow:Bool} (hj:j n=some L) (hm:H.m.get n=some (.cells v e g c s ow)):L.q=none:=h.q hj hm (by intro e;cases e)
theorem Inv.z8 (h:Inv ρ w0 j H w) {j':J} {w':World} (hs:Sub j j') (h1:w.heap.size≤w'.heap.size) (h2: ∀b,b<w.heap.size→ ¬Mine j b→w'.heap[b]? =w.heap[b]?) (h3: ∀b,Mine j' b→Mine j b∨w.heap.size≤b):w0.G H.gs j' w':=w0.aby _ _ _ _ _ h.nY hs h1 h2 h3
theorem Inv.extend (h:Inv ρ w0 j H w) (o:Obj) (ho: ∀v e g t sh ow,o= .cells v e g (some t) sh ow→t≤H.nx+1):Inv ρ w0 j (H.alloc o) w:=by
 rw [Heap.alloc_eq];have old: ∀n L,j n=some L→(H.m.set H.nx o).get n=H.m.get n:=fun n L e=>T.jw _ _ (by have:=h.dom n L e;omega);refine ⟨h.fr,fun n L e=>ydo (h.dom n L e),h.blk,fun n o' e=> ?_,fun n L e=> ?_,fun n m Ln Lm hne e1 e2 q1 q2 hb=> ?_,fun n v e g t sh ow he=> ?_,fun g x e=>ycT (h.pI g x e),fun n L v e g c sh e1 e2=> ?_,h.fz,fun n L v e c sh e1 e2=>h.pW n L v e c sh e1 (by rw [←old n L e1];exact e2),h.n0,yds _,h.Np (by have:=h.kN;omega) o,?_⟩
 ·show n<H.nx+1;rw [show (H.m.set H.nx o).get n=if n=H.nx then some o else H.m.get n from T.lC _ _ _ _] at e;split at e
  ·omega
  ·have:=h.used n o' e;omega
 ·obtain ⟨o',h1,h2⟩:=h.obj n L e;exact ⟨o',by rw [old n L e];exact h1,h2⟩
 ·obtain ⟨vn,en,gn,cn,sn,on,vm,em,gm,cm,sm,om,h1,h2,h3⟩:=h.sep n m Ln Lm hne e1 e2 q1 q2 hb;exact ⟨vn,en,gn,cn,sn,on,vm,em,gm,cm,sm,om,by rw [old n Ln e1];exact h1,by rw [old m Lm e2];exact h2,h3⟩
 ·show t≤H.nx+1;rw [show (H.m.set H.nx o).get n=if n=H.nx then some o else H.m.get n from T.lC _ _ _ _] at he;split at he
  ·exact ho _ _ _ _ _ _ (yaE he)
  ·have:=h.sU n v e g t sh ow he;omega
 ·rw [old n L e1] at e2;exact h.lX n L v e g c sh e1 e2
 ·rw [Qj H _ (by have:=h.kN;omega)];exact h.nY
theorem St.extend (h:Inv ρ w0 j H w) (o:Obj):St j H j (H.alloc o):=by
 rw [Heap.alloc_eq];refine ⟨Sub.refl j,(fun n L e e'=>by rw [e] at e';cases e'),fun n _ _ hn=>⟨?_,rfl⟩,Nat.le_succ _⟩;show (H.m.set H.nx o).get n=_;exact T.jw _ _ (by omega)
def zN (ρ:Val) (j:J) (o:Obj) (ob:Go.Obj) (c:Nat):Prop:=
 match o with
 | .cells v aW _ closed _ own=>own=true∧closed=none∧ ∃arr e,ob= .cells arr e (0,0)∧v.n≤arr.size∧(c*aW≤arr.size∧(0<c→v.n≤c*aW))∧ ∀i,i<v.n→ ∃x,arr[i]? =some x∧R ρ j (v.get i) x
 | .map es clock=>c=0∧ ∃arr,ob= .map arr clock∧RM ρ j es arr.toList
 | .iter m since seen stepped=>c=0∧ ∃m' sa,ob= .mapIter m' since sa stepped∧sa.toList=seen∧(match m with|none=>m'=none|some n=> ∃Lm,j n=some Lm∧m'=some Lm.blk)
 | .wP es=>c=0∧ ∃arr clock es',ob= .map arr clock∧es'.Perm es∧RK ρ j es' arr.toList
 | .dw _ _=>False
 | .opq=>False
 | .gs _=>False
theorem nV.grow {o:Obj} {L:Loc} {gw:T Nat} {j':J} {w':World} (hs:Sub j j') (hw:L.q=none→w'.heap[L.blk]? =w.heap[L.blk]?) (h:nV ρ j w0 w gw L o):nV ρ j' w0 w' gw L o:=by
 cases o with
 | cells v aW g closed sh own=>
  obtain ⟨h0,h1,h2⟩:=h;have hw:=hw h0;refine ⟨h0,h1,fun ha=> ?_⟩;obtain ⟨arr,e,fr,h3,h4,h5,h6⟩:=h2 ha;exact ⟨arr,e,fr,hw▸h3,h4,h5,fun i hi=>let ⟨x,h7,h8⟩:=h6 i hi;⟨x,h7,h8.mono hs⟩⟩
 | map es clock=>
  obtain ⟨h0,h1,h2,arr,h3,h4⟩:=h;have hw:=hw h0;exact ⟨h0,h1,h2,arr,hw▸h3,h4.mono hs⟩
 | iter m since seen stepped=>
  obtain ⟨h0,h1,h2,m',sa,h3,h4,h5⟩:=h;have hw:=hw h0;refine ⟨h0,h1,h2,m',sa,hw▸h3,h4,?_⟩;cases m with
  | none=>exact h5
  | some n=>obtain ⟨Lm,e,x⟩:=h5;exact ⟨Lm,hs _ _ e,x⟩
 | wP es=>
  obtain ⟨h0,h1,h2,arr,clock,es',h3,h4,h5⟩:=h;have hw:=hw h0;exact ⟨h0,h1,h2,arr,clock,es',hw▸h3,h4,h5.mono hs⟩
 | dw kn log=>
  obtain ⟨h0,h1,h2,arr,clock,gq,kG,m0,m1,h3,h4,h5,h6,h7,h8⟩:=h;have hw:=hw h0;exact ⟨h0,h1,h2,arr,clock,gq,kG,m0,m1,hw▸h3,h4,⟨h5.1,h5.2.1,fun e he=>(h5.2.2 e he).mono hs⟩,h6.mono hs,h7.mono hs,h8⟩
 | opq=>exact h
 | gs k=>exact h.elim
theorem Inv.KM (h:Inv ρ w0 j H w) {n:Nat} {o:Obj} {ob:Go.Obj} {c:Nat} (hn:H.m.get n=some o) (hj:j n=none) (hnew:zN ρ j o ob c)
  (hg: ∀v e g cl sh,o= .cells v e g cl sh true→g=n∨ ∃Lg,j g=some Lg):
  Inv ρ w0 (jV j n ⟨w.heap.size,0,c,none⟩) H { w with heap:=w.heap.push ob }:=by
 have hsub:=uY (L:=⟨w.heap.size,0,c,none⟩) hj;have hold: ∀i,i<w.heap.size→(w.heap.push ob)[i]? =w.heap[i]? :=fun i hi=>by
  rw [Array.getElem?_push];rw [yah (by omega)]
 have hne: ∀k L,j k=some L→k≠n:=fun k L e hk=>by subst hk;rw [hj] at e;cases e
 have hback: ∀k L,jV j n ⟨w.heap.size,0,c,none⟩ k=some L→(k=n∧L=⟨w.heap.size,0,c,none⟩)∨(k≠n∧j k=some L):=fun k L e=>by
  by_cases hk:k=n
  ·subst hk;rw [nP] at e;exact .inl ⟨rfl,(yaE e).symm⟩
  ·rw [nO _ _ hk] at e;exact .inr ⟨hk,e⟩
 have hfr:Fr w0 { w with heap:=w.heap.push ob }:=h.fr.then rfl rfl rfl (by simp) (fun i hi _=>hold i hi)
 refine ⟨hfr,fun k L e=> ?_,fun k L e q=> ?_,h.used,fun k L e=> ?_,fun k m Lk Lm hkm e1 e2 q1 q2 hb=> ?_,h.sU,h.pI,fun k L v e g cl sh e1 e2=> ?_,fun k L hjk hq hi cs e fr he=> ?_,fun k L v e cl sh e1 e2=>(hback k L e1).elim (fun x=>x.2▸rfl) (fun x=>h.pW k L v e cl sh x.2 e2),?_,h.kN,h.z0,?_⟩
 ·rcases hback k L e with ⟨rfl,_⟩|⟨_,e⟩
  ·exact h.used _ _ hn
  ·exact h.dom k L e
 ·show L.blk<(w.heap.push ob).size;rcases hback k L e with ⟨_,rfl⟩|⟨_,e⟩
  ·simp
  ·have:=h.blk k L e q;simp;omega
 ·rcases hback k L e with ⟨rfl,rfl⟩|⟨_,e⟩
  ·refine ⟨o,hn,?_⟩;have hown:w0.own w.heap.size:=Or.inl h.fr.size;have GI:(w.heap.push ob)[w.heap.size]? =some ob:=by simp
   cases o with
   | cells v aW g cl sh own=>
    obtain ⟨ho,_,arr,e',rfl,h1,h2,h3⟩:=hnew;refine ⟨rfl,by rw [yak ho];exact hown,fun _=>⟨arr,e',(0,0),GI,by simpa using h1,⟨by simpa using h2.1,h2.2⟩,fun i hi=> ?_⟩⟩;obtain ⟨x,h4,h5⟩:=h3 i hi;exact ⟨x,by simpa using h4,h5.mono hsub⟩
   | map es clock=>
    obtain ⟨_,arr,rfl,h1⟩:=hnew;exact ⟨rfl,hown,rfl,arr,GI,h1.mono hsub⟩
   | iter m since seen stepped=>
    obtain ⟨_,m',sa,rfl,h1,h2⟩:=hnew;refine ⟨rfl,hown,rfl,m',sa,GI,h1,?_⟩;cases m with
    | none=>exact h2
    | some n=>obtain ⟨Lm,e,x⟩:=h2;exact ⟨Lm,hsub _ _ e,x⟩
   | wP es=>
    obtain ⟨_,arr,clock,es',rfl,h1,h2⟩:=hnew;exact ⟨rfl,hown,rfl,arr,clock,es',GI,h1,h2.mono hsub⟩
   | dw=>exact hnew.elim
   | opq=>exact hnew.elim
   | gs=>exact hnew.elim
  ·obtain ⟨o',h1,h2⟩:=h.obj k L e;exact ⟨o',h1,nV.grow hsub (fun q=>hold _ (h.blk k L e q)) h2⟩
 ·rcases hback k Lk e1 with ⟨rfl,rfl⟩|⟨_,e1⟩<;>rcases hback m Lm e2 with ⟨rfl,rfl⟩|⟨_,e2⟩
  ·exact absurd rfl hkm
  ·rename_i e2;have:=h.blk m Lm e2 q2;rw [←hb] at this;exact absurd this (ybe _)
  ·rename_i e1 _;have:=h.blk k Lk (by assumption) q1;rw [hb] at this;exact absurd this (ybe _)
  ·exact h.sep k m Lk Lm hkm (by assumption) (by assumption) q1 q2 hb
 ·rcases hback k L e1 with ⟨rfl,rfl⟩|⟨_,e1⟩
  ·rw [hn] at e2;rcases hg _ _ _ _ _ (yaE e2) with rfl|⟨Lg,e3⟩
   ·exact ⟨_,nP _ _ _⟩
   ·exact ⟨Lg,hsub _ _ e3⟩
  ·obtain ⟨Lg,e3⟩:=h.lX k L v e g cl sh e1 e2;exact ⟨Lg,hsub _ _ e3⟩
 ·have he:(w.heap.push ob)[L.blk]? =some (.cells cs e fr):=he;rcases hback k L hjk with ⟨rfl,rfl⟩|⟨_,hjk⟩
  ·rw [show (w.heap.push ob)[w.heap.size]? =some ob by simp] at he;cases o with
   | cells v aW g cl sh own=>
    obtain ⟨_,_,arr,e',rfl,_⟩:=hnew;cases he;rfl
   | map es clock=>obtain ⟨_,arr,rfl,_⟩:=hnew;cases he
   | iter m since seen stepped=>obtain ⟨_,m',sa,rfl,_⟩:=hnew;cases he
   | wP es=>obtain ⟨_,arr,clock,es',rfl,_⟩:=hnew;cases he
   | dw=>exact hnew.elim
   | opq=>exact hnew.elim
   | gs=>exact hnew.elim
  ·rw [hold _ (h.blk k L hjk hq)] at he;exact h.fz k L hjk hq hi cs e fr he
 ·by_cases hk:0=n
  ·rw [←hk] at hn;obtain ⟨kk,rfl⟩:=h.z0 _ hn;exact hnew.elim
  ·rw [nO _ _ hk];exact h.n0
 ·refine h.z8 hsub (by simp) (fun b hb _=>hold b hb) (fun b hb=> ?_);obtain ⟨k,L,e,q,rfl⟩:=hb;rcases hback k L e with ⟨_,rfl⟩|⟨_,e⟩
  ·exact Or.inr (yaa _)
  ·exact Or.inl ⟨k,L,e,q,rfl⟩
theorem Inv.alloc (h:Inv ρ w0 j H w) {o:Obj} {ob:Go.Obj} {c:Nat} (hnew:zN ρ j o ob c)
  (hg: ∀v e g cl sh,o= .cells v e g cl sh true→g=H.nx∨ ∃Lg,j g=some Lg):
  Inv ρ w0 (jV j H.nx ⟨w.heap.size,0,c,none⟩) (H.alloc o) { w with heap:=w.heap.push ob }∧St j H (jV j H.nx ⟨w.heap.size,0,c,none⟩) (H.alloc o):=by
 have hj:j H.nx=none:=by
  cases e:j H.nx with
  | none=>rfl
  | some L=>exact absurd (h.dom _ _ e) (ybe _)
 have h1:=h.extend o (fun v e g t sh ow ho=>by
  subst ho;obtain ⟨_,hc,_⟩:=hnew;cases hc)
 have hn:(H.alloc o).m.get H.nx=some o:=by rw [Heap.alloc_eq];exact T.get_set_same _ _ _
 refine ⟨h1.KM hn hj hnew hg,uY hj,fun n L e e0=> ?_,(St.extend h o).keep,(St.extend h o).nx⟩;by_cases hk:n=H.nx
 ·omega
 ·rw [nO _ _ hk,e0] at e;cases e
theorem zxK {n:Nat} {v:Vec} (h:H.row n=some v): ∃e g c sh ow,H.m.get n=some (.cells v e g c sh ow)∧alive H.gw g c=true:=by
 unfold Heap.row at h;split at h
 ·split at h
  ·rename_i hm _ ha;cases h;exact ⟨_,_,_,_,_,hm,ha⟩
  ·cases h
 ·cases h
theorem Inv.row (h:Inv ρ w0 j H w) {n:Nat} {L:Loc} {v:Vec} (hj:j n=some L) (hr:H.row n=some v):
  ∃ arr e fr,w.heap[L.blk]? =some (.cells arr e fr)∧L.off+v.n≤arr.size∧ ∀i,i<v.n→ ∃x,arr[L.off+i]? =some x∧R ρ j (v.get i) x:=by
 obtain ⟨e,g,c,sh,ow,hm,ha⟩:=zxK hr;obtain ⟨o,h1,h2⟩:=h.obj n L hj;rw [hm] at h1;cases h1;obtain ⟨arr,e,fr,h3,h4,_,h5⟩:=h2.2.2 ha;exact ⟨arr,e,fr,h3,h4,h5⟩
theorem Inv.cell (h:Inv ρ w0 j H w) {n off:Nat} {L:Loc} {v:Vec} (hj:j n=some L) (hr:H.row n=some v) (ho:off<v.n):
  ∃ x,w.cell? ⟨L.blk,L.off+off,none⟩=some x∧R ρ j (v.get off) x:=by
 obtain ⟨arr,e,fr,h1,_,h3⟩:=h.row hj hr;obtain ⟨x,h4,h5⟩:=h3 off ho;exact ⟨x,by simp [World.cell?,h1,h4],h5⟩
theorem addr_add (b o i:Nat):(⟨b,o,none⟩:Addr).add i=⟨b,o+i,none⟩:=by unfold Addr.add;split<;>simp_all
theorem Inv.loadCells {P:Program} (h:Inv ρ w0 j H w) {n off k:Nat} {L:Loc} {v:Vec} (hj:j n=some L) (hr:H.row n=some v) (ho:off+k≤v.n):
  ∃ xs:List Value,(Go.loadCells ⟨L.blk,L.off+off,none⟩ k).run P w= .ok xs.toArray w∧RL ρ j (v.list off k) xs:=by
 have hc: ∀i,i<k→ ∃x,w.cell? ⟨L.blk,L.off+off+i,none⟩=some x∧R ρ j (v.get (off+i)) x:=fun i hi=>by
  have:=h.cell hj hr (off:=off+i) (by omega)
  rwa [←ybn] at this
 let f:Nat→Value:=fun i=>(w.cell? ⟨L.blk,L.off+off+i,none⟩).getD undef
 refine ⟨(List.range k).map f,run_loadCells w _ k f fun i hi=> ?_,RL.AY (by simp [Vec.rf]) fun i a ha=> ?_⟩
 ·obtain ⟨x,h1,_⟩:=hc i hi;rw [addr_add,h1];simp [f,h1]
 ·have hi:i<k:=by
   rcases ybU i k with h'|h'
   ·exact h'
   ·rw [yaT (by rw [Vec.rf];exact h')] at ha;cases ha
  rw [Vec.zY k v off i hi] at ha;obtain ⟨x,h1,h2⟩:=hc i hi;refine ⟨x,by simp [hi,f,h1],?_⟩;rw [←yaE ha];exact h2
theorem zsN (gw:T Nat) (g x g':Nat) (c:Option Nat) (h:alive (gw.set g x) g' c=true) (hx: ∀y,gw.get g=some y→y≤x):alive gw g' c=true:=by
 unfold alive at*;cases c with
 | none=>rfl
 | some t=>
  simp only at*;by_cases hg:g'=g
  ·subst hg;rw [T.get_set_same] at h;simp only [yaD] at h;cases e:gw.get g' with
   | none=>rfl
   | some y=>simp only [yaD];have:=hx y e;omega
  ·rw [T.jw _ _ hg] at h;exact h
theorem Inv.stored (h:Inv ρ w0 j H w) {n off:Nat} {L:Loc} {v:Vec} {aW g:Nat} {sh:Bool} {l:List AV} {vs:List Value} {Aa:T Nat} (hj:j n=some L)
  (hm:H.m.get n=some (.cells v aW g none sh true)) (hl:off+l.length≤v.n) (hc:zf l=true) (hr:RL ρ j l vs)
  (hA: ∀g' c,alive Aa g' c=true→alive H.gw g' c=true)
  (hB: ∀m Lm vm em gm cm sm om,m≠n→j m=some Lm→Lm.blk=L.blk→H.m.get m=some (.cells vm em gm cm sm om)→alive Aa gm cm=false)
  (hC: ∀g x,Aa.get g=some x→x≤H.nx) (P:Program):
  ∃ w',(storeCells ⟨L.blk,L.off+off,none⟩ vs).run P w= .ok () w'∧Inv ρ w0 j ⟨H.m.set n (.cells (v.put off l) aW g none false true),H.nx,Aa⟩ w':=by
 obtain ⟨o,h1,h2⟩:=h.obj n L hj;rw [hm] at h1;cases h1;obtain ⟨hq,hbase,hcont⟩:=h2;rw [yak rfl] at hbase;obtain ⟨arr,e,fr,hb,hs1,hs2,hcells⟩:=hcont rfl;have hfr:=h.fz _ _ hj hq hbase _ _ _ hb;subst hfr;have hlen:=hr.length;have hrun:=ydA (P:=P) L.blk (L.off+off) e vs 0 arr w hb (by omega) (O4 hr hc);refine ⟨_,hrun,?_⟩;generalize CZ:(arr.toList.take (L.off+off+0)++vs++arr.toList.drop (L.off+off+0+vs.length)).toArray=arr';have hsz:arr'.size=arr.size:=by rw [←CZ];simp;omega
 have hget: ∀k,arr'[k]? =if L.off+off≤k∧k<L.off+off+vs.length then vs[k-(L.off+off)]? else arr[k]? :=fun k=>by
  rw [←CZ];simp only [yaF,yay];by_cases hk:k<L.off+off
  ·rw [yah (by omega),ybT,yaP (by simp;omega),ybD hk];simp
  ·by_cases hk2:k<L.off+off+vs.length
   ·rw [yak (by omega),ybT,yaV (by simp;omega),yaP (by simp;omega)];congr 1;simp;omega
   ·rw [yah (by omega),yaV (by simp;omega),ybN];simp only [yaC,ya1,ybc,ybp];congr 1;omega
 have hset:=setRow_heap w L.blk arr arr' e (0,0) hb;have hoth: ∀k,k≠L.blk→(w.setRow L.blk arr').heap[k]? =w.heap[k]? :=fun k hk=>setRow_other w L.blk k arr' hk;have hold: ∀k,k≠n→(H.m.set n (.cells (v.put off l) aW g none false true)).get k=H.m.get k:=fun k hk=>T.jw _ _ hk;refine ⟨h.fr.then (by simp) (by simp) rfl (by simp) (fun i _ ho=>hoth i (fun e=>ho (e▸hbase))),h.dom,fun k Lk e q=>by simpa using h.blk k Lk e q,fun k o' e=> ?_,fun k Lk e=> ?_,fun k m Lk Lm hkm e1 e2 q1 q2 hbk=> ?_,fun k v' e' g' t sh' ow he=> ?_,hC,fun k Lk v' e' g' c sh' e1 e2=> ?_,fun k Lk hjk hqk hi c e' fr he=> ?_,fun k Lk v' e' c sh' e1 e2=> ?_,h.n0,h.kN,h.Np (h.yN hj) _,?_⟩
 ·by_cases hk:k=n
  ·subst hk;exact h.dom _ _ hj
  ·rw [hold k hk] at e;exact h.used k o' e
 ·by_cases hk:k=n
  ·subst hk;rw [hj] at e;cases e;refine ⟨_,T.get_set_same _ _ _,hq,by rw [yak rfl];exact hbase,fun _=>⟨arr',e,(0,0),hset,by rw [Vec.AP,hsz];exact hs1,⟨by rw [hsz];exact hs2.1,by rw [Vec.AP];exact hs2.2⟩,fun i hi=> ?_⟩⟩;rw [Vec.AP] at hi;rw [hget,Vec.get_put];by_cases hin:off≤i∧i<off+l.length
   ·rw [yak (by omega),ydC hin];obtain ⟨x,h3,h4⟩:=hr.get (i-off) _ (yai (by omega));exact ⟨x,by rw [←h3];congr 1;omega,h4⟩
   ·rw [yah (by omega),ydD hin];exact hcells i hi
  ·obtain ⟨o',h3,h4⟩:=h.obj k Lk e;refine ⟨o',by rw [hold k hk];exact h3,?_⟩;by_cases hqk:Lk.q=none
   case neg=>
    cases o' with
    | opq=>exact h4
    | gs=>exact h4.elim
    | _=>exact absurd h4.1 hqk
   by_cases hbk:Lk.blk=L.blk
   ·obtain ⟨vn,en,gn,cn,sn,on,vm,em,gm,cm,sm,om,h5,h6,_⟩:=h.sep k n Lk L hk e hj hqk hq hbk;rw [h3] at h5;cases h5;refine ⟨h4.1,h4.2.1,fun ha=> ?_⟩;rw [hB k Lk vn en gn cn sn on hk e hbk h3] at ha;cases ha
   ·have hw:=hoth _ hbk;cases o' with
    | cells v' abJ g' c' sh' ow'=>exact ⟨h4.1,h4.2.1,fun ha=>let ⟨a1,a2,a3,a4,a5⟩:=h4.2.2 (hA _ _ ha);⟨a1,a2,a3,by rw [hw];exact a4,a5⟩⟩
    | map es clock=>obtain ⟨a0,a1,a2,a3,a4,a5⟩:=h4;exact ⟨a0,a1,a2,a3,by rw [hw];exact a4,a5⟩
    | iter m since seen stepped=>obtain ⟨a0,a1,a2,a3,a4,a5,a6⟩:=h4;exact ⟨a0,a1,a2,a3,a4,by rw [hw];exact a5,a6⟩
    | wP es=>obtain ⟨a0,a1,a2,a3,a4,a5,a6⟩:=h4;exact ⟨a0,a1,a2,a3,a4,a5,by rw [hw];exact a6⟩
    | dw kn log=>obtain ⟨a0,a1,a2,a3,a4,a5,a6,a7,a8,a9,a10⟩:=h4;exact ⟨a0,a1,a2,a3,a4,a5,a6,a7,a8,by rw [hw];exact a9,a10⟩
    | opq=>exact h4
    | gs=>exact h4.elim
 ·obtain ⟨vn,en,gn,cn,sn,on,vm,em,gm,cm,sm,om,h3,h4,h5,h6⟩:=h.sep k m Lk Lm hkm e1 e2 q1 q2 hbk;by_cases hk:k=n
  ·subst hk;have hmk:m≠k:=fun h'=>hkm h'.symm;rw [hj] at e1;cases e1;rw [hm] at h3;cases h3;refine ⟨_,_,_,_,_,_,vm,em,gm,cm,sm,om,T.get_set_same _ _ _,by rw [hold m hmk];exact h4,h5,fun ho=>⟨(h6 ho).1,fun _ ha=> ?_⟩⟩;rw [hB m Lm vm em gm cm sm om hmk e2 hbk.symm h4] at ha;cases ha
  ·by_cases hmn:m=n
   ·subst hmn;rw [hj] at e2;cases e2;rw [hm] at h4;cases h4;refine ⟨vn,en,gn,cn,sn,on,_,_,_,_,_,_,by rw [hold k hk];exact h3,T.get_set_same _ _ _,h5,fun ho=>⟨(h6 ho).1,fun ha=> ?_⟩⟩;rw [hB k Lk vn en gn cn sn on hk e1 hbk h3] at ha;cases ha
   ·exact ⟨vn,en,gn,cn,sn,on,vm,em,gm,cm,sm,om,by rw [hold k hk];exact h3,by rw [hold m hmn];exact h4,h5,fun ho=>⟨(h6 ho).1,fun a1 a2=>(h6 ho).2 (hA _ _ a1) (hA _ _ a2)⟩⟩
 ·by_cases hk:k=n
  ·subst hk;rw [T.get_set_same] at he;cases he
  ·rw [hold k hk] at he;exact h.sU k v' e' g' t sh' ow he
 ·by_cases hk:k=n
  ·subst hk;rw [T.get_set_same] at e2;cases e2;exact h.lX k Lk _ _ _ _ _ e1 hm
  ·rw [hold k hk] at e2;exact h.lX k Lk v' e' g' c sh' e1 e2
 ·by_cases hi2:Lk.blk=L.blk
  ·rw [hi2] at he;rw [hset] at he;cases he;rfl
  ·rw [hoth _ hi2] at he;exact h.fz k Lk hjk hqk hi c e' fr he
 ·by_cases hk:k=n
  ·subst hk;rw [T.get_set_same] at e2;cases e2;exact h.pW _ Lk _ _ _ _ e1 hm
  ·rw [hold k hk] at e2;exact h.pW k Lk v' e' c sh' e1 e2
 ·rw [Qj H _ (h.yN hj)];exact h.z8 (Sub.refl j) (by simp) (fun b _ hb=>hoth b (fun e=>hb ⟨n,L,hj,hq,e.symm⟩)) (fun b hb=>Or.inl hb)
theorem Inv.store (h:Inv ρ w0 j H w) {n off:Nat} {L:Loc} {l:List AV} {vs:List Value} {H':Heap} (hst:H.store n off l=some H') (hj:j n=some L) (hr:RL ρ j l vs) (P:Program):
    ∃ w',(storeCells ⟨L.blk,L.off+off,none⟩ vs).run P w= .ok () w'∧Inv ρ w0 j H' w'∧St j H j H':=by
  unfold Heap.store at hst;split at hst
  case h_2=>cases hst
  rename_i v aW g sh hm;split at hst
  case h_2=>cases hst
  rename_i hle hc;have hle:off+l.length≤v.n:=yam hle;have hgs:=h.lX n L v aW g none sh hj hm;have hne: ∀k,j k=none→k≠n:=fun k e hk=>by subst hk;rw [hj] at e;cases e
  split at hst
  · cases hst;obtain ⟨w',h1,h2⟩:=h.stored hj hm hle hc hr (Aa:=H.gw) (fun _ _ x=>x) (fun m Lm vm em gm cm sm om hmn e hb hmm=>by
      obtain ⟨vn,en,gn,cn,sn,on,vm',KU,gm',cm',sm',om',h3,h4,h5,h6⟩:=h.sep n m L Lm (fun h'=>hmn h'.symm) hj e (h.nI hj hm) (h.nI e hmm) hb.symm;rw [hm] at h3;cases h3;rw [hmm] at h4;cases h4;cases ha:alive H.gw gm cm with
      | false=>rfl
      | true=>exact absurd ((h6 rfl).2 rfl ha rfl).1 (by simp)) h.pI P
    refine ⟨w',h1,by rw [Heap.p8];exact h2,?_⟩;rw [Heap.p8];exact ⟨Sub.refl j,(fun k L e e'=>by rw [e] at e';cases e'),fun k _ e _=>⟨T.jw _ _ (hne k e),rfl⟩,yaa _⟩
  · cases hst;obtain ⟨w',h1,h2⟩:=h.stored hj hm hle hc hr (Aa:=H.gw.set g H.nx) (fun g' c x=>zsN _ _ _ _ _ x (fun y hy=>h.pI g y hy)) (fun m Lm vm em gm cm sm om hmn e hb hmm=>by
      obtain ⟨vn,en,gn,cn,sn,on,vm',KU,gm',cm',sm',om',h3,h4,h5,h6⟩:=h.sep n m L Lm (fun h'=>hmn h'.symm) hj e (h.nI hj hm) (h.nI e hmm) hb.symm;rw [hm] at h3;cases h3;rw [hmm] at h4;cases h4;obtain ⟨rfl,h7⟩:=h6 rfl;cases cm with
      | none=>exact absurd rfl (h7 rfl rfl rfl).2.1
      | some t=>
        have:=h.sU m vm em g t sm _ hmm;simp only [alive,T.get_set_same];cases hx:Nat.blt H.nx t with
        | false=>rfl
        | true=>rw [yaD] at hx;omega)
      (fun g' x e=>by
        by_cases hg:g'=g
        · subst hg;rw [T.get_set_same] at e;cases e;exact yaa _
        · rw [T.jw _ _ hg] at e;exact h.pI g' x e) P
    refine ⟨w',h1,by rw [Heap.Uh,Heap.p8];exact h2,?_⟩;rw [Heap.Uh,Heap.p8];obtain ⟨Lg,qH⟩:=hgs;exact ⟨Sub.refl j,(fun k L e e'=>by rw [e] at e';cases e'),fun k _ e _=>⟨T.jw _ _ (hne k e),T.jw _ _ (fun hk=>by subst hk;rw [qH] at e;cases e)⟩,yaa _⟩
def Zq:Obj→Bool
 | .cells .. =>false
 | .opq=>false
 | .gs _=>false
 | _=>true
def zvj:Go.Obj→Bool
 | .cells .. =>false
 | _=>true
theorem Inv.setObj (h:Inv ρ w0 j H w) {n:Nat} {L:Loc} {o o':Obj} {ob:Go.Obj} (hj:j n=some L) (hm:H.m.get n=some o) (ho:Zq o=true) (ho':Zq o'=true)
  (oD:zvj ob=true) (hR: ∀w':World,w'.heap[L.blk]? =some ob→nV ρ j w0 w' H.gw L o'):
  Inv ρ w0 j (H.upd n o') { w with heap:=w.heap.setIfInBounds L.blk ob }∧St j H j (H.upd n o'):=by
 rw [Heap.p8];obtain ⟨o1,h1,h2⟩:=h.obj n L hj;rw [hm] at h1;cases h1;have hq:L.q=none:=h.q hj hm (by intro e;subst e;cases ho);have hbase:w0.own L.blk:=by
  cases o with
  | cells=>cases ho
  | map=>exact h2.2.1
  | iter=>exact h2.2.1
  | wP=>exact h2.2.1
  | dw=>exact h2.2.1
  | opq=>cases ho
  | gs=>cases ho
 have hlt:=h.blk n L hj hq;have hself:(w.heap.setIfInBounds L.blk ob)[L.blk]? =some ob:=by simp [hlt]
 have hoth: ∀k,k≠L.blk→(w.heap.setIfInBounds L.blk ob)[k]? =w.heap[k]? :=fun k hk=>by rw [ycr (ycW hk)]
 have hold: ∀k,k≠n→(H.m.set n o').get k=H.m.get k:=fun k hk=>T.jw _ _ hk;have Ml: ∀m Lm,m≠n→j m=some Lm→Lm.q=none→Lm.blk≠L.blk:=fun m Lm hmn e hqm hb=>by
  obtain ⟨vn,en,gn,cn,sn,on,vm,em,gm,cm,sm,om,h3,h4,_⟩:=h.sep m n Lm L hmn e hj hqm hq hb;rw [hm] at h4;cases h4;cases ho
 have hne: ∀k,j k=none→k≠n:=fun k e hk=>by subst hk;rw [hj] at e;cases e
 refine ⟨⟨h.fr.then rfl rfl rfl (by simp) (fun i _ hi=>hoth i (fun e=>hi (e▸hbase))),h.dom,fun k Lk e q=> ?_,fun k o' e=> ?_,fun k Lk e=> ?_,fun k m Lk Lm hkm e1 e2 q1 q2 hbk=> ?_,fun k v' e' g' t sh' ow he=> ?_,h.pI,fun k Lk v' e' g' c sh' e1 e2=> ?_,fun k Lk hjk hqk hi c e' fr he=> ?_,fun k Lk v' e' c sh' e1 e2=> ?_,h.n0,h.kN,h.Np (h.yN hj) _,?_⟩,
  Sub.refl j,(fun k L e e'=>by rw [e] at e';cases e'),fun k _ e _=>⟨hold k (hne k e),rfl⟩,yaa _⟩
 ·show Lk.blk<(w.heap.setIfInBounds L.blk ob).size;simpa using h.blk k Lk e q
 ·by_cases hk:k=n
  ·subst hk;exact h.dom _ _ hj
  ·rw [hold k hk] at e;exact h.used k _ e
 ·by_cases hk:k=n
  ·subst hk;rw [hj] at e;cases e;exact ⟨o',T.get_set_same _ _ _,hR _ hself⟩
  ·obtain ⟨o2,h3,h4⟩:=h.obj k Lk e;exact ⟨o2,by rw [hold k hk];exact h3,nV.grow (Sub.refl j) (fun q=>hoth _ (Ml k Lk hk e q)) h4⟩
 ·by_cases hk:k=n
  ·subst hk;rw [hj] at e1;cases e1;exact absurd hbk.symm (Ml m Lm (fun h'=>hkm h'.symm) e2 q2)
  ·by_cases hmn:m=n
   ·subst hmn;rw [hj] at e2;cases e2;exact absurd hbk (Ml k Lk hk e1 q1)
   ·obtain ⟨vn,en,gn,cn,sn,on,vm,em,gm,cm,sm,om,h3,h4,h5⟩:=h.sep k m Lk Lm hkm e1 e2 q1 q2 hbk;exact ⟨vn,en,gn,cn,sn,on,vm,em,gm,cm,sm,om,by rw [hold k hk];exact h3,by rw [hold m hmn];exact h4,h5⟩
 ·by_cases hk:k=n
  ·subst hk;rw [T.get_set_same] at he;cases he;cases ho'
  ·rw [hold k hk] at he;exact h.sU k v' e' g' t sh' ow he
 ·by_cases hk:k=n
  ·subst hk;rw [T.get_set_same] at e2;cases e2;cases ho'
  ·rw [hold k hk] at e2;exact h.lX k Lk v' e' g' c sh' e1 e2
 ·have he:(w.heap.setIfInBounds L.blk ob)[Lk.blk]? =some (.cells c e' fr):=he;by_cases hi2:Lk.blk=L.blk
  ·rw [hi2,hself] at he;cases he;cases oD
  ·rw [hoth _ hi2] at he;exact h.fz k Lk hjk hqk hi c e' fr he
 ·by_cases hk:k=n
  ·subst hk;rw [T.get_set_same] at e2;cases e2;cases ho'
  ·rw [hold k hk] at e2;exact h.pW k Lk v' e' c sh' e1 e2
 ·rw [Qj H _ (h.yN hj)];exact h.z8 (Sub.refl j) (by simp) (fun b _ hb=>hoth b (fun e=>hb ⟨n,L,hj,hq,e.symm⟩)) (fun b hb=>Or.inl hb)
theorem O5 {n:Nat} {es:List ME} {c:Nat} (h:H.gP n=some (es,c)):H.m.get n=some (.map es c):=by
 unfold Heap.gP at h;split at h
 ·rename_i hm;cases h;exact hm
 ·cases h
theorem Inv.gP (h:Inv ρ w0 j H w) {n:Nat} {L:Loc} {es:List ME} {c:Nat} (hj:j n=some L) (hm:H.gP n=some (es,c)):
  ∃ arr,w.heap[L.blk]? =some (.map arr c)∧RM ρ j es arr.toList:=by
 obtain ⟨o,h1,h2⟩:=h.obj n L hj;rw [O5 hm] at h1;cases h1;exact h2.2.2.2
theorem Inv.hand (h:Inv ρ w0 j H w) {n:Nat} (hn:H.m.get n=some .opq) (hj:j n=none) (v:Value):Inv ρ w0 (jV j n ⟨0,0,0,some v⟩) H w:=by
 have hsub:=uY (L:=⟨0,0,0,some v⟩) hj;have hback: ∀k L,jV j n ⟨0,0,0,some v⟩ k=some L→(k=n∧L=⟨0,0,0,some v⟩)∨(k≠n∧j k=some L):=fun k L e=>by
  by_cases hk:k=n
  ·subst hk;rw [nP] at e;exact .inl ⟨rfl,(yaE e).symm⟩
  ·rw [nO _ _ hk] at e;exact .inr ⟨hk,e⟩
 have hbq: ∀k L,jV j n ⟨0,0,0,some v⟩ k=some L→L.q=none→j k=some L:=fun k L e q=>by
  rcases hback k L e with ⟨_,rfl⟩|⟨_,e⟩
  ·cases q
  ·exact e
 refine ⟨h.fr,fun k L e=> ?_,fun k L e q=>h.blk k L (hbq k L e q) q,h.used,fun k L e=> ?_,fun k m Lk Lm hkm e1 e2 q1 q2 hb=>h.sep k m Lk Lm hkm (hbq _ _ e1 q1) (hbq _ _ e2 q2) q1 q2 hb,h.sU,h.pI,fun k L v' e g cl sh e1 e2=> ?_,
  fun k L e q=>h.fz k L (hbq _ _ e q) q,fun k L v' e cl sh e1 e2=> ?_,?_,h.kN,h.z0,h.z8 hsub (yaa _) (fun _ _ _=>rfl) fun b hm=> ?_⟩
 ·rcases hback k L e with ⟨rfl,_⟩|⟨_,e⟩
  ·exact h.used _ _ hn
  ·exact h.dom k L e
 ·rcases hback k L e with ⟨rfl,rfl⟩|⟨_,e⟩
  ·exact ⟨.opq,hn,by show (some v)≠none;simp⟩
  ·obtain ⟨o',h1,h2⟩:=h.obj k L e;exact ⟨o',h1,nV.grow hsub (fun _=>rfl) h2⟩
 ·rcases hback k L e1 with ⟨rfl,_⟩|⟨_,e1⟩
  ·rw [hn] at e2;cases e2
  ·obtain ⟨Lg,e3⟩:=h.lX k L v' e g cl sh e1 e2;exact ⟨Lg,hsub _ _ e3⟩
 ·rcases hback k L e1 with ⟨rfl,_⟩|⟨_,e1⟩
  ·rw [hn] at e2;cases e2
  ·exact h.pW k L v' e cl sh e1 e2
 ·by_cases hk:0=n
  ·rw [←hk] at hn;obtain ⟨kk,h1⟩:=h.z0 _ hn;cases h1
  ·rw [nO _ _ hk];exact h.n0
 ·obtain ⟨k,L,e,q,rfl⟩:=hm;exact .inl ⟨k,L,hbq k L e q,q,rfl⟩
theorem run_getObj_map (P:Program) {r:Nat} {arr:Array MapEntry} {c:Nat} (h:w.heap[r]? =some (.map arr c)):(getObj r).run P w= .ok (.map arr c) w:=by
 simp [getObj,Sem.run,h]
theorem run_setObj_map (P:Program) {r:Nat} {o o':Go.Obj} (h:w.heap[r]? =some o) (ho:zvj o=true):(setObj r o').run P w= .ok () { w with heap:=w.heap.setIfInBounds r o' }:=by
 cases o<;>first|(cases ho;done)|simp [setObj,Sem.run,h]
theorem Inv.mapped (h:Inv ρ w0 j H w) {n:Nat} {L:Loc} {es es':List ME} {c c':Nat} {arr':Array MapEntry} (hj:j n=some L) (hm:H.gP n=some (es,c)) (hr:RM ρ j es' arr'.toList) (P:Program):
  ∃ w',(Go.setObj L.blk (.map arr' c')).run P w= .ok () w'∧Inv ρ w0 j (H.upd n (.map es' c')) w'∧St j H j (H.upd n (.map es' c')):=by
 obtain ⟨arr,h1,h2⟩:=h.gP hj hm;obtain ⟨o,h3,h4⟩:=h.obj n L hj;rw [O5 hm] at h3;cases h3;exact ⟨_,run_setObj_map P h1 rfl,h.setObj hj (O5 hm) rfl rfl rfl fun w' e=>⟨h4.1,h4.2.1,h4.2.2.1,arr',e,hr⟩⟩
end
end Go.Dw
namespace Go.Dw
theorem O9 {v:Value} {n:Int} (h:Ck v n=true):v= .int .i64 n:=by
 unfold Ck at h;split at h
 ·rename_i m;have:m=n:=by simpa using h
  rw [this]
 ·cases h
theorem Vt (n:Int):Ck (.int .i64 n) n=true:=by simp [Ck]
theorem zt3 {l:List MapEntry} (h:l.Pairwise fun a b=>a.key≠b.key) {e:MapEntry} {n:Int} (he:e∈l) (hk:e.key= .int .i64 n):l.find? (fun e=>Ck e.key n)=some e:=by
 induction l with
 | nil=>cases he
 | cons x l ih=>
  rw [yb5] at h;rcases yaj.1 he with rfl|he
  ·rw [List.find?_cons_of_pos (by rw [hk];exact Vt n)]
  ·rw [List.find?_cons_of_neg (fun hx=>h.1 e he (by rw [O9 hx,hk])),ih h.2 he]
theorem wY {arr:Array MapEntry} (h:mE arr) {e:MapEntry} {n:Int} (he:e∈arr.toList) (hk:e.key= .int .i64 n):eF arr n=some e.val:=by
 unfold eF;rw [zt3 h.once he hk];rfl
theorem Bw {arr:Array MapEntry} {n:Int} (h: ∀e∈arr.toList,e.key≠ .int .i64 n):eF arr n=none:=by
 unfold eF;rw [ydl.2 (fun e he hk=>h e he (O9 hk))];rfl
theorem OI {arr:Array MapEntry} {n:Int} {v:Value} (h:eF arr n=some v): ∃e∈arr.toList,e.key= .int .i64 n∧e.val=v:=by
 unfold eF at h;rw [yb3] at h;obtain ⟨e,he,rfl⟩:=h;exact ⟨e,ydT he,O9 (by simpa using List.find?_some he),rfl⟩
theorem Oz {arr:Array MapEntry} {n:Int} (h:eF arr n=none): ∀e∈arr.toList,e.key≠ .int .i64 n:=fun e he hk=>by
 unfold eF at h;rw [Option.map_eq_none_iff,ydl] at h;exact h e he (by rw [hk];exact Vt n)
theorem Bh {kk:IntKind} {n:Int}: ∀(xs:List MapEntry) (i:Nat),(∀e∈xs,∃m,e.key= .int .i64 m)→
  (Instr.findNow (.int kk) (.int .i64 n) xs i=some none∧ ∀e∈xs,e.key≠ .int .i64 n)∨(∃p e,Instr.findNow (.int kk) (.int .i64 n) xs i=some (some (i+p,e.val))∧xs[p]? =some e∧e.key= .int .i64 n)
 | [], i,_=> .inl ⟨rfl,by simp⟩
 | x::xs,i,h=>by
  obtain ⟨m,hm⟩:=h x (by simp);by_cases hmn:n=m
  ·subst hmn;exact .inr ⟨0,x,by simp [Instr.findNow,Instr.sameNow,hm],rfl,hm⟩
  ·have hs:Instr.findNow (.int kk) (.int .i64 n) (x::xs) i=Instr.findNow (.int kk) (.int .i64 n) xs (i+1):=by
    have hb:(n==m)=false:=by simpa using hmn
    simp [Instr.findNow,Instr.sameNow,hm,hb]
   rw [hs];rcases Bh xs (i+1) (fun e he=>h e (by simp [he])) with ⟨h1,h2⟩|⟨p,e,h1,h2,h3⟩
   ·refine .inl ⟨h1,fun e he=> ?_⟩;rcases yaj.1 he with rfl|he
    ·rw [hm];intro hh;cases hh;exact hmn rfl
    ·exact h2 e he
   ·exact .inr ⟨p+1,e,by rw [h1];congr 3;omega,by simpa using h2,h3⟩
theorem ED {α:Type} (l:List α) (f:α→α) (p i:Nat):(l.modify p f)[i]? =if p=i then l[i]?.map f else l[i]? :=by
 rw [List.getElem?_modify];by_cases h:p=i
 ·simp only [yak h];cases l[i]? <;>rfl
 ·simp only [yah h];cases l[i]? <;>rfl
theorem Xj {arr:Array MapEntry} (h:mE arr) {p:Nat} {e:MapEntry} {k:Int} {v:Value} (hp:arr.toList[p]? =some e) (hk:e.key= .int .i64 k):
  mE (arr.modify p fun y=> { y with key:= .int .i64 k,val:=v })∧ ∀n,eF (arr.modify p fun y=> { y with key:= .int .i64 k,val:=v }) n=if n=k then some v else eF arr n:=by
 have hlt:p<arr.toList.length:=by
  rw [yat] at hp;exact hp.1
 have hkeys:(arr.modify p fun y=> { y with key:= .int .i64 k,val:=v }).toList.map (·.key)=arr.toList.map (·.key):=by
  rw [ybJ];apply ycU;intro i;simp only [ybf,ED];by_cases gF:p=i
  ·subst gF;rw [hp];simp [hk]
  ·rw [yah gF]
 have hw:mE (arr.modify p fun y=> { y with key:= .int .i64 k,val:=v }):=by
  refine ⟨fun e' he'=> ?_,?_⟩
  ·have:e'.key∈arr.toList.map (·.key):=by rw [←hkeys];exact List.mem_map_of_mem he'
   obtain ⟨e2,h2,h3⟩:=yaY.1 this;obtain ⟨n,hn⟩:=h.keys e2 h2;exact ⟨n,by rw [←h3];exact hn⟩
  ·have h1:(arr.toList.map (·.key)).Pairwise (· ≠ ·):=ydp.2 h.once;rw [←hkeys] at h1;exact ydp.1 h1
 refine ⟨hw,fun n=> ?_⟩;have hat:(arr.modify p fun y=> { y with key:= .int .i64 k,val:=v }).toList[p]? =some { e with key:= .int .i64 k,val:=v }:=by
  rw [ybJ,ED,yak rfl,hp];rfl
 by_cases hn:n=k
 ·subst hn;rw [yak rfl];exact wY hw (ya8 hat) rfl
 ·rw [yah hn];have TG: ∀e',e'.key≠ .int .i64 k→(e'∈(arr.modify p fun y=> { y with key:= .int .i64 k,val:=v }).toList↔e'∈arr.toList):=fun e' hne=>by
   rw [ybJ];simp only [yc8,ED];constructor
   ·rintro ⟨i,hi⟩;by_cases gF:p=i
    ·subst gF;rw [yak rfl,hp] at hi;cases hi;exact absurd rfl hne
    ·rw [yah gF] at hi;exact ⟨i,by simpa using hi⟩
   ·rintro ⟨i,hi⟩;by_cases gF:p=i
    ·subst gF;rw [hp] at hi;cases hi;exact absurd hk hne
    ·exact ⟨i,by rw [yah gF];simpa using hi⟩
  cases hv:eF arr n with
  | none=>
   refine Bw fun e' he' hk'=> ?_;have hne:e'.key≠ .int .i64 k:=by rw [hk'];intro hh;cases hh;exact hn rfl
   exact Oz hv e' ((TG e' hne).1 he') hk'
  | some u=>
   obtain ⟨e',he',hk',rfl⟩:=OI hv;have hne:e'.key≠ .int .i64 k:=by rw [hk'];intro hh;cases hh;exact hn rfl
   exact wY hw ((TG e' hne).2 he') hk'
theorem ZY {arr:Array MapEntry} (h:mE arr) {k:Int} {v:Value} {c:Nat} (hk: ∀e∈arr.toList,e.key≠ .int .i64 k):
  mE (arr.push { key:= .int .i64 k,val:=v,born:=c })∧ ∀n,eF (arr.push { key:= .int .i64 k,val:=v,born:=c }) n=if n=k then some v else eF arr n:=by
 have hw:mE (arr.push { key:= .int .i64 k,val:=v,born:=c }):=by
  refine ⟨fun e he=> ?_,?_⟩
  ·rw [ybg,ya2] at he;rcases he with he|he
   ·exact h.keys e he
   ·rw [yaI] at he;subst he;exact ⟨k,rfl⟩
  ·rw [ybg,List.pairwise_append];refine ⟨h.once,by simp,fun a ha b hb=> ?_⟩;rw [yaI] at hb;subst hb;exact hk a ha
 refine ⟨hw,fun n=> ?_⟩;by_cases hn:n=k
 ·subst hn;rw [yak rfl];exact wY hw (e:= { key:= .int .i64 n,val:=v,born:=c }) (by rw [ybg];simp) rfl
 ·rw [yah hn];cases hv:eF arr n with
  | none=>
   refine Bw fun e he hke=> ?_;rw [ybg,ya2] at he;rcases he with he|he
   ·exact Oz hv e he hke
   ·rw [yaI] at he;subst he;cases hke;exact hn rfl
  | some u=>
   obtain ⟨e,he,hke,rfl⟩:=OI hv;exact wY hw (by rw [ybg];simp [he]) hke
theorem zsY {arr:Array MapEntry} (h:mE arr) {p:Nat} {e:MapEntry} {k:Int} (hp:arr.toList[p]? =some e) (hk:e.key= .int .i64 k):
  mE (arr.eraseIdxIfInBounds p)∧ ∀n,eF (arr.eraseIdxIfInBounds p) n=if n=k then none else eF arr n:=by
 have hl:(arr.eraseIdxIfInBounds p).toList=arr.toList.eraseIdx p:=by
  unfold Array.eraseIdxIfInBounds;split
  ·simp
  ·rw [ydM];simp;omega
 have hlt:p<arr.toList.length:=by
  rw [yat] at hp;exact hp.1
 have hsub:(arr.toList.eraseIdx p).Sublist arr.toList:=List.eraseIdx_sublist ..;have hw:mE (arr.eraseIdxIfInBounds p):=⟨fun e he=>h.keys e (hsub.subset (by rw [←hl];exact he)),by rw [hl];exact h.once.sublist hsub⟩;have hsplit:arr.toList=arr.toList.take p++e::arr.toList.drop (p+1):=by
  have h1:=yct p arr.toList;rw [ybx hlt] at h1;rw [yat] at hp;obtain ⟨_,h2⟩:=hp;rw [h2] at h1;exact h1.symm
 have her:arr.toList.eraseIdx p=arr.toList.take p++arr.toList.drop (p+1):=List.eraseIdx_eq_take_drop_succ ..;refine ⟨hw,fun n=> ?_⟩;have hone:=h.once;rw [hsplit,List.pairwise_append] at hone;obtain ⟨_,h2,h3⟩:=hone;rw [yb5] at h2;by_cases hn:n=k
 ·subst hn;rw [yak rfl];refine Bw fun e' he' hke=> ?_;rw [hl,her,ya2] at he';rcases he' with he'|he'
  ·exact h3 e' he' e (by simp) (by rw [hke,hk])
  ·exact h2.1 e' he' (by rw [hke,hk])
 ·rw [yah hn];cases hv:eF arr n with
  | none=>
   refine Bw fun e' he' hke=> ?_;rw [hl] at he';exact Oz hv e' (hsub.subset he') hke
  | some u=>
   obtain ⟨e',he',hke,rfl⟩:=OI hv;refine wY hw ?_ hke;rw [hl,her];rw [hsplit] at he';rcases ya2.1 he' with he'|he'
   ·exact yce _ he'
   ·rcases yaj.1 he' with rfl|he'
    ·rw [hke] at hk;cases hk;exact absurd rfl hn
    ·exact yca _ he'
theorem zgM {arr:Array MapEntry} {k:Int} (h: ∀e∈arr.toList,e.key≠ .int .i64 k) (n:Int):eF arr n=if n=k then none else eF arr n:=by
 by_cases hn:n=k
 ·rw [yak hn,hn];exact Bw h
 ·rw [yah hn]
section
variable {ρ:Val}
theorem aL.jL (f:aL) (b:Nat):(f.den ρ).testBit b=(decide (f.sh≤b)&&(decide (b-f.sh<f.n)&&(max f.lo (min (ρ.i f.i).toNat f.hi)).testBit (f.fr+(b-f.sh)))):=by
 unfold aL.den;rw [Nat.testBit_shiftLeft,yb0,Nat.testBit_shiftRight]
theorem Ip (W:Nat): ∀(l:List aL) (c:Nat),aJ ρ (oQ W l) (c%2^W)=aJ ρ l c%2^W
 | [], c=>rfl
 | f::l,c=>by
  have ih:=Ip W l c;apply ybh;intro b;have ihb:=yaB (fun x=>x.testBit b) ih;simp only [yb0] at ihb;rw [yb0];unfold oQ;cases h1:Nat.blt f.sh W with
  | false=>
   have h1': ¬f.sh<W:=fun hh=>by rw [←yaD] at hh;rw [hh] at h1;cases h1
   simp only;rw [ihb];show _=(decide (b<W)&&(f.den ρ|||aJ ρ l c).testBit b);rw [yaO,aL.jL];by_cases hb:b<W
   ·have: ¬f.sh≤b:=by omega
    simp [hb,this]
   ·simp [hb]
  | true=>
   rw [yaD] at h1;cases h2:Nat.ble (Nat.add f.sh f.n) W with
   | true=>
    have h2:f.sh+f.n≤W:=yam h2;show (f.den ρ|||aJ ρ (oQ W l) (c%2^W)).testBit b=(decide (b<W)&&(f.den ρ|||aJ ρ l c).testBit b);rw [yaO,yaO,ihb,aL.jL];by_cases hb:b<W
    ·simp [hb]
    ·have: ¬b-f.sh<f.n:=by omega
     simp [hb,this]
   | false=>
    have h2: ¬f.sh+f.n≤W:=fun hh=>by
     have e:Nat.ble (Nat.add f.sh f.n) W=true:=yb9 hh;rw [e] at h2;cases h2
    show (aL.den ρ ⟨f.i,f.lo,f.hi,f.fr,W-f.sh,f.sh⟩|||aJ ρ (oQ W l) (c%2^W)).testBit b=(decide (b<W)&&(f.den ρ|||aJ ρ l c).testBit b);rw [yaO,yaO,ihb,aL.jL,aL.jL];simp only;by_cases hb:b<W
    ·by_cases hs:f.sh≤b
     ·have e1:b-f.sh<W-f.sh:=by omega
      have e2:b-f.sh<f.n:=by omega
      simp [hb,hs,e1,e2]
     ·simp [hb,hs]
    ·have: ¬b-f.sh<W-f.sh:=by omega
     simp [hb,this]
theorem OU (m:Nat): ∀(l:List aL) (c:Nat),aJ ρ (qy m l) (c/2^m)=aJ ρ l c/2^m
 | [], c=>rfl
 | f::l,c=>by
  have ih:=OU m l c;apply ybh;intro b;have ihb:=yaB (fun x=>x.testBit b) ih;simp only [←ydS,Nat.testBit_shiftRight] at ihb ⊢;unfold qy;cases h1:Nat.ble m f.sh with
  | true=>
   have h1:m≤f.sh:=yam h1;show (aL.den ρ ⟨f.i,f.lo,f.hi,f.fr,f.n,f.sh-m⟩|||aJ ρ (qy m l) (c>>>m)).testBit b=(f.den ρ|||aJ ρ l c).testBit (m+b);rw [yaO,yaO,ihb,aL.jL,aL.jL];simp only;have e1:(f.sh-m≤b)↔(f.sh≤m+b):=by omega
   by_cases hs:f.sh≤m+b
   ·have e2:b-(f.sh-m)=m+b-f.sh:=by omega
    simp [e1,hs,e2]
   ·simp [e1,hs]
  | false=>
   have h1': ¬m≤f.sh:=fun hh=>by rw [yb9 hh] at h1;cases h1
   cases h2:Nat.blt m (Nat.add f.sh f.n) with
   | true=>
    have h2:m<f.sh+f.n:=by rw [yaD] at h2;exact h2
    show (aL.den ρ ⟨f.i,f.lo,f.hi,f.fr+(m-f.sh),f.n-(m-f.sh),0⟩|||aJ ρ (qy m l) (c>>>m)).testBit b=(f.den ρ|||aJ ρ l c).testBit (m+b);rw [yaO,yaO,ihb,aL.jL,aL.jL];simp only;have e1:f.sh≤m+b:=by omega
    have e2:(b<f.n-(m-f.sh))↔(m+b-f.sh<f.n):=by omega
    have e3:f.fr+(m-f.sh)+b=f.fr+(m+b-f.sh):=by omega
    simp [e1,e2,e3]
   | false=>
    have h2': ¬m<f.sh+f.n:=fun hh=>by rw [←yaD] at hh;change Nat.blt m (Nat.add f.sh f.n)=true at hh;rw [hh] at h2;cases h2
    show (aJ ρ (qy m l) (c>>>m)).testBit b=(f.den ρ|||aJ ρ l c).testBit (m+b);rw [yaO,ihb,aL.jL];have: ¬m+b-f.sh<f.n:=by omega
    simp [this]
theorem WM (m:Nat): ∀(l:List aL) (c:Nat),aJ ρ (FJ m l) (c*2^m)=aJ ρ l c*2^m
 | [], c=>rfl
 | f::l,c=>by
  have ih:=WM m l c;apply ybh;intro b;have ihb:=yaB (fun x=>x.testBit b) ih;simp only [←yc1,Nat.testBit_shiftLeft] at ihb ⊢;show (aL.den ρ ⟨f.i,f.lo,f.hi,f.fr,f.n,f.sh+m⟩|||aJ ρ (FJ m l) (c<<<m)).testBit b=(decide (b≥m)&&(f.den ρ|||aJ ρ l c).testBit (b-m));rw [yaO,yaO,ihb,aL.jL,aL.jL];simp only;by_cases hm:m≤b
  ·have e1:(f.sh+m≤b)↔(f.sh≤b-m):=by omega
   have e2:b-(f.sh+m)=b-m-f.sh:=by omega
   simp [hm,e1,e2]
  ·have e1: ¬f.sh+m≤b:=by omega
   simp [hm,e1]
theorem Y2 {g f h:aL} (hf:F5 g f=some h):h.den ρ=g.den ρ|||f.den ρ:=by
 unfold F5 at hf;split at hf
 case h_2=>cases hf
 rename_i h1 h2 h3 h4 h5;cases hf;have h1:=aY h1;have h2:=aY h2;have h3:=aY h3;have h4:g.fr+g.n=f.fr:=aY h4;have h5:g.sh+g.n=f.sh:=aY h5;apply ybh;intro b;rw [yaO,aL.jL,aL.jL,aL.jL];simp only;rw [←h1,←h2,←h3,←h4,←h5];by_cases hs:g.sh≤b
 ·by_cases hn:b-g.sh<g.n
  ·have e1:b-g.sh<g.n+f.n:=by omega
   have e2: ¬g.sh+g.n≤b:=by omega
   simp [hs,hn,e1,e2]
  ·have e2:g.sh+g.n≤b:=by omega
   have e1:(b-g.sh<g.n+f.n)↔(b-(g.sh+g.n)<f.n):=by omega
   have e3:g.fr+g.n+(b-(g.sh+g.n))=g.fr+(b-g.sh):=by omega
   simp [hs,hn,e1,e2,e3]
 ·have e2: ¬g.sh+g.n≤b:=by omega
  simp [hs,e2]
theorem IV: ∀(l:List aL) (f:aL) (c:Nat),aJ ρ (xJ l f) c=f.den ρ|||aJ ρ l c
 | [], f,c=>rfl
 | g::l,f,c=>by
  unfold xJ;split
  ·rename_i h hh;rw [IV l h c,Y2 hh];show g.den ρ|||f.den ρ|||aJ ρ l c=f.den ρ|||(g.den ρ|||aJ ρ l c);rw [←ycL,ycE (f.den ρ)]
  ·split
   ·rename_i h hh;rw [IV l h c,Y2 hh];show f.den ρ|||g.den ρ|||aJ ρ l c=f.den ρ|||(g.den ρ|||aJ ρ l c);rw [ycL]
   ·show g.den ρ|||aJ ρ (xJ l f) c=f.den ρ|||(g.den ρ|||aJ ρ l c);rw [IV l f c,←ycL,←ycL,ycE (g.den ρ)]
theorem XC: ∀(l:List aL) (c d:Nat),aJ ρ l (c|||d)=aJ ρ l c|||d
 | [], c,d=>rfl
 | f::l,c,d=>by
  show f.den ρ|||aJ ρ l (c|||d)=f.den ρ|||aJ ρ l c|||d;rw [XC l c d,ycL]
theorem EG: ∀(m l:List aL) (c d:Nat),aJ ρ (rR l m) (c|||d)=aJ ρ l c|||aJ ρ m d
 | [], l,c,d=>XC l c d
 | f::m,l,c,d=>by
  unfold rR;rw [EG m (xJ l f) c d,IV];show f.den ρ|||aJ ρ l c|||aJ ρ m d=aJ ρ l c|||(f.den ρ|||aJ ρ m d);rw [←ycL,ycE (f.den ρ)]
theorem VU (keep:Nat→Bool) (f:aL): ∀(k:Nat),k≤f.n→ ∀b,(aJ ρ (pieces keep f k) 0).testBit b=(keep b&&(decide (f.sh≤b)&&(decide (b-f.sh<k)&&(max f.lo (min (ρ.i f.i).toNat f.hi)).testBit (f.fr+(b-f.sh)))))
 | 0,_,b=>by simp [pieces,aJ]
 | k+1,hk,b=>by
  have ih:=VU keep f k (by omega) b;unfold pieces;by_cases he:b=f.sh+k
  ·subst he;have e0: ¬(f.sh+k-f.sh<k):=by omega
   have e1:f.sh+k-f.sh<k+1:=by omega
   simp only [e0,decide_false,yb2,Bool.and_false] at ih;cases hkeep:keep (Nat.add f.sh k) with
   | true=>
    have hkeep:keep (f.sh+k)=true:=hkeep;show (aL.den ρ ⟨f.i,f.lo,f.hi,f.fr+k,1,f.sh+k⟩|||aJ ρ (pieces keep f k) 0).testBit (f.sh+k)=_;rw [yaO,ih,aL.jL];simp [hkeep]
   | false=>
    have hkeep:keep (f.sh+k)=false:=hkeep;simp only;rw [ih];simp [hkeep]
  ·have e1:(b-f.sh<k+1∧f.sh≤b)↔(b-f.sh<k∧f.sh≤b):=by omega
   have hr:(keep b&&(decide (f.sh≤b)&&(decide (b-f.sh<k+1)&&(max f.lo (min (ρ.i f.i).toNat f.hi)).testBit (f.fr+(b-f.sh)))))=(keep b&&(decide (f.sh≤b)&&(decide (b-f.sh<k)&&(max f.lo (min (ρ.i f.i).toNat f.hi)).testBit (f.fr+(b-f.sh))))):=by
    by_cases hs:f.sh≤b
    ·have:(b-f.sh<k+1)↔(b-f.sh<k):=by omega
     simp [hs,this]
    ·simp [hs]
   rw [hr];cases hkeep:keep (Nat.add f.sh k) with
   | true=>
    show (aL.den ρ ⟨f.i,f.lo,f.hi,f.fr+k,1,f.sh+k⟩|||aJ ρ (pieces keep f k) 0).testBit b=_;rw [yaO,ih,aL.jL];simp only;by_cases hs:f.sh+k≤b
    ·have: ¬b-(f.sh+k)<1:=by omega
     simp [hs,this]
    ·simp [hs]
   | false=>exact ih
theorem OA (keep:Nat→Bool) (c d:Nat) (hd: ∀b,d.testBit b=(keep b&&c.testBit b)): ∀(l:List aL) (b:Nat),(aJ ρ (xE keep l) d).testBit b=(keep b&&(aJ ρ l c).testBit b)
 | [], b=>hd b
 | f::l,b=>by
  unfold xE;have e:=EG (ρ:=ρ) (pieces keep f f.n) (xE keep l) d 0;rw [ydd] at e;rw [e,yaO,OA keep c d hd l b,VU keep f f.n (yaa _) b];show _=(keep b&&(f.den ρ|||aJ ρ l c).testBit b);rw [yaO,aL.jL];cases keep b<;>simp [Bool.or_comm]
theorem zsc {W:Nat}: ∀ {l:List aL} {c:Nat},fits W l=true→c<2^W→aJ ρ l c<2^W
 | [], c,_,hc=>hc
 | f::l,c,h,hc=>by
  unfold fits at h;split at h
  ·rename_i hb;have hb:f.sh+f.n≤W:=yam hb;refine ycS ?_ (zsc h hc);refine Nat.lt_pow_two_of_testBit _ fun i hi=> ?_;rw [aL.jL];have: ¬i-f.sh<f.n:=by omega
   simp [this]
  ·cases h
theorem qh {W:Nat} {l:List aL} {c:Nat} (h:oV W l c=true):aJ ρ l c<2^W:=by
 unfold oV at h;split at h
 ·rename_i hc;rw [yaD] at hc;exact zsc h hc
 ·cases h
theorem Z0 {a:SE} {l:List aL} {c:Nat} (h:Hu a=some (l,c)):a.den ρ=Int.ofNat (aJ ρ l c):=by
 unfold Hu at h;split at h
 ·cases h;rfl
 ·cases h;rfl
 ·cases h
theorem tJ (l:List aL) (c:Nat):(pV l c).den ρ=Int.ofNat (aJ ρ l c):=by
 unfold pV;split
 ·rw [uT];rfl
 ·rw [uT];rfl
theorem PG (k:IntKind):jG k=2^bQ k:=by cases k<;>rfl
theorem wrap_small {k:IntKind} {n:Nat} (h:n<2^bQ k):k.wrap (Int.ofNat n)=Int.ofNat n:=by
 rw [←Jp];have:Nat.blt n (jG k)=true:=by rw [yaD,PG];exact h
 simp only [rU,this]
theorem Ur {k:IntKind} (h:yU k=false) (n:Nat):k.wrap (Int.ofNat n)=Int.ofNat (n%2^bQ k):=by
 cases k<;>first|(cases h;done)|skip
 all_goals
  simp [IntKind.wrap,IntKind.signed,IntKind.bits,bQ]
theorem zpi {k:IntKind} (h:yU k=false) (n:Int): ∃x:Nat,k.wrap n=Int.ofNat x∧0≤x∧x≤2^bQ k-1:=by
 refine ⟨(k.wrap n).toNat,?_,yar _,?_⟩
 all_goals
  cases k<;>first|(cases h;done)|skip
  all_goals
   simp [IntKind.wrap,IntKind.signed,IntKind.bits,bQ];omega
theorem zh {k:IntKind} {p q:Nat} (h:uP k=some (p,q)) (n:Int): ∃x:Nat,k.wrap n=Int.ofNat x∧p≤x∧x≤q:=by
 unfold uP at h;split at h
 ·cases h
 ·rename_i hk;cases h;exact zpi hk n
theorem zsX {k:IntKind} (h:yU k=false) {x y:Nat} (hlt:x<y) (hy:y≤2^bQ k):k.wrap (Int.ofNat x-Int.ofNat y)=Int.ofNat (2^bQ k+x-y):=by
 have hx:2^bQ k+x-y<2^bQ k:=by omega
 have e:Int.ofNat x-Int.ofNat y=Int.ofNat (2^bQ k+x-y)-(2:Int)^bQ k:=by
  have:((2^bQ k:Nat):Int)=(2:Int)^bQ k:=by simp
  simp only [ybQ];omega
 rw [e,←wrap_small hx];cases k<;>first|(cases h;done)|skip
 all_goals
  simp [IntKind.wrap,IntKind.signed,IntKind.bits,bQ]
theorem zq: ∀ {a:SE} {p q:Nat},bnd a=some (p,q)→ ∃x:Nat,a.den ρ=Int.ofNat x∧p≤x∧x≤q:=by
 intro a
 induction a with
 | bin o k x y GU ihy=>
  intro p q h;cases o
  case add=>
   unfold bnd at h;split at h
   ·rename_i p1 q1 r1 s1 hx hy;obtain ⟨u,eu,u1,u2⟩:=GU hx;obtain ⟨v,ev,v1,v2⟩:=ihy hy;split at h
    ·rename_i hlt;rw [yaD] at hlt;have hlt:q1+s1<2^bQ k:=hlt;cases h;refine ⟨u+v,?_,by show p1+r1≤u+v;omega,by show u+v≤q1+s1;omega⟩;show k.wrap (SE.den ρ x+SE.den ρ y)=_;rw [eu,ev];exact wrap_small (n:=u+v) (by omega)
    ·exact zh h _
   ·exact zh h _
  case sub=>
   unfold bnd at h;split at h
   ·rename_i p1 q1 r1 s1 hx hy;obtain ⟨u,eu,u1,u2⟩:=GU hx;obtain ⟨v,ev,v1,v2⟩:=ihy hy;split at h
    ·rename_i hle hlt;rw [yaD] at hlt;have hlt:q1<2^bQ k:=hlt;have hle:=yam hle;cases h;refine ⟨u-v,?_,by show p1-s1≤u-v;omega,by show u-v≤q1-r1;omega⟩;show k.wrap (SE.den ρ x-SE.den ρ y)=_;rw [eu,ev];have e:Int.ofNat u-Int.ofNat v=Int.ofNat (u-v):=by simp only [ybQ];omega
     rw [e];exact wrap_small (by omega)
    ·split at h
     ·rename_i hlt hle hk;rw [yaD] at hlt;have hle:=yam hle;have hle:s1≤2^bQ k:=hle;cases h;refine ⟨2^bQ k+u-v,?_,by show 2^bQ k+p1-s1≤_;omega,by show _≤2^bQ k+q1-r1;omega⟩;show k.wrap (SE.den ρ x-SE.den ρ y)=_;rw [eu,ev];exact zsX hk (by omega) (by omega)
     ·exact zh h _
   ·exact zh h _
  case mul=>
   unfold bnd at h;split at h
   ·rename_i p1 q1 r1 s1 hx hy;obtain ⟨u,eu,u1,u2⟩:=GU hx;obtain ⟨v,ev,v1,v2⟩:=ihy hy;split at h
    ·rename_i hlt;rw [yaD] at hlt;have hlt:q1*s1<2^bQ k:=hlt;have h1:u*v≤q1*s1:=Nat.mul_le_mul u2 v2;have h2:p1*r1≤u*v:=Nat.mul_le_mul u1 v1;cases h;refine ⟨u*v,?_,h2,h1⟩;show k.wrap (SE.den ρ x*SE.den ρ y)=_;rw [eu,ev];exact wrap_small (n:=u*v) (by omega)
    ·exact zh h _
   ·exact zh h _
  case rem=>
   unfold bnd at h;split at h
   case h_2=>cases h
   rename_i p1 q1 r1 s1 hx hy;obtain ⟨u,eu,u1,u2⟩:=GU hx;obtain ⟨v,ev,v1,v2⟩:=ihy hy;split at h
   case h_2=>cases h
   rename_i hlt;rw [yaD] at hlt;cases h;refine ⟨u%v,?_,yar _,?_⟩
   ·show (SE.den ρ x).tmod (SE.den ρ y)=_;rw [eu,ev];rfl
   ·have h1:=Nat.mod_lt u (show v>0 by omega);have h2:=Nat.mod_le u v;show u%v≤min q1 (s1-1);omega
  all_goals (unfold bnd at h;cases h)
 | var i=>intro p q h;unfold bnd at h;cases h
 | wrap k x ih=>intro p q h;unfold bnd at h;exact zh h _
 | lit n=>
  intro p q h;cases n with
  | ofNat n=>unfold bnd at h;cases h;exact ⟨_,rfl,yaa _,yaa _⟩
  | negSucc n=>unfold bnd at h;cases h
 | bn l c=>
  intro p q h;unfold bnd at h;split at h<;>first|(rename_i heq;cases heq;done)|skip
  ·rename_i f heq;cases heq;split at h
   ·rename_i h1 h2 h3;cases h;have h1:=aY h1;have h2:=aY h2;rw [yaD] at h3;refine ⟨_,rfl,?_⟩;have e:aJ ρ [f] 0=max f.lo (min (ρ.i f.i).toNat f.hi):=by
     show f.den ρ|||0=_;rw [ydd];unfold aL.den;rw [h1,h2];simp only [ycH,ycN];refine ya6 (ydk ?_ h3);show max f.lo (min (ρ.i f.i).toNat f.hi)≤max f.lo f.hi;omega
    rw [e];have e2:Nat.max f.lo f.hi=max f.lo f.hi:=rfl;rw [e2];omega
   ·split at h
    ·rename_i hf;cases h;have:=qh (ρ:=ρ) hf;exact ⟨_,rfl,yar _,by omega⟩
    ·cases h
  ·cases h
theorem zpq (k:IntKind) (a:SE):(Qh k a).den ρ=k.wrap (a.den ρ):=by
 unfold Qh;split
 ·rename_i p q hb;split
  ·rename_i hq;rw [yaD] at hq;obtain ⟨x,e,_,h2⟩:=zq (ρ:=ρ) hb;rw [e,wrap_small (ydk h2 hq)]
  ·rfl
 ·rfl
theorem zqx (k:IntKind) (a:SE):(QH k a).den ρ=k.wrap (a.den ρ):=by
 unfold QH;split
 ·rename_i l c;split
  ·split
   ·rename_i h;exact (wrap_small (qh h)).symm
   ·rfl
  ·rename_i h;rw [tJ];show Int.ofNat (aJ ρ (oQ (bQ k) l) (c%2^bQ k))=k.wrap (Int.ofNat (aJ ρ l c));rw [Ip,Ur h]
 ·exact zpq k _
theorem OV {o:BinOp} (ho:o= .and∨o= .or∨o= .xor∨o= .andNot) {k:IntKind} {x y:Nat} (hx:x<2^bQ k) (hy:y<2^bQ k):mV o k (Int.ofNat x) (Int.ofNat y)=mY.nat o x y:=by
 rw [←EO o ho];have e1:Nat.blt x (jG k)=true:=by rw [yaD,PG];exact hx
 have e2:Nat.blt y (jG k)=true:=by rw [yaD,PG];exact hy
 simp only [mY,e1,e2]
theorem zvN (k:IntKind) {a b:SE} {l l':List aL} {c c':Nat} (ha:a.den ρ=Int.ofNat (aJ ρ l c)) (hb:b.den ρ=Int.ofNat (aJ ρ l' c')):(M6 k a b l c l' c').den ρ=iQ .or k (a.den ρ) (b.den ρ):=by
 unfold M6;split
 ·rename_i h1 h2;rw [tJ,ha,hb];show Int.ofNat (aJ ρ (rR l l') (c|||c'))=mV .or k _ _;rw [OV (by simp) (qh h1) (qh h2),EG];rfl
 ·rfl
theorem Yn (k:IntKind) {a b:SE} {l:List aL} {c m:Nat} (ha:a.den ρ=Int.ofNat (aJ ρ l c)) (hb:b.den ρ=Int.ofNat m):(Hr k a b l c m).den ρ=iQ .and k (a.den ρ) (b.den ρ):=by
 unfold Hr;split
 ·rename_i h1 h2;rw [yaD] at h2;rw [tJ,ha,hb];show Int.ofNat (aJ ρ (xE (Nat.testBit m) l) (c&&&m))=mV .and k _ _;rw [OV (by simp) (qh h1) h2];show Int.ofNat _=Int.ofNat (aJ ρ l c&&&m);congr 1;apply ybh;intro b;rw [OA (Nat.testBit m) c (c&&&m) (fun b=>by rw [yb8,Bool.and_comm]) l b,yb8,Bool.and_comm]
 ·rfl
theorem zmv (k:IntKind) {a b:SE} {l:List aL} {c m:Nat} (ha:a.den ρ=Int.ofNat (aJ ρ l c)) (hb:b.den ρ=Int.ofNat m):(PV k a b l c m).den ρ=iQ .andNot k (a.den ρ) (b.den ρ):=by
 unfold PV;split
 ·rename_i h1 h2;rw [yaD] at h2;rw [tJ,ha,hb];show Int.ofNat (aJ ρ (xE _ l) (c^^^(c&&&m)))=mV .andNot k _ _;rw [OV (by simp) (qh h1) h2];show Int.ofNat _=Int.ofNat (aJ ρ l c^^^(aJ ρ l c&&&m));congr 1;apply ybh;intro b;rw [OA _ c (c^^^(c&&&m)) (fun b=>by rw [ydE,yb8];cases m.testBit b<;>cases c.testBit b<;>rfl) l b,ydE,yb8];cases m.testBit b<;>cases (aJ ρ l c).testBit b<;>rfl
 ·rfl
theorem zs8 (k:IntKind) {a b:SE} {l:List aL} {c n:Nat} (ha:a.den ρ=Int.ofNat (aJ ρ l c)) (hb:b.den ρ=Int.ofNat n):(M9 k a b l c n).den ρ=iQ .shl k (a.den ρ) (b.den ρ):=by
 unfold M9;split
 ·rename_i h1 h2;have h1:n≤k.bits:=yam h1;rw [tJ,ha,hb];show Int.ofNat (aJ ρ (oQ (bQ k) (FJ n l)) (c*2^n%2^bQ k))=k.wrap (Int.ofNat (aJ ρ l c)*2^(min (Int.ofNat n).toNat k.bits));have e:(Int.ofNat (aJ ρ l c)*2^(min (Int.ofNat n).toNat k.bits):Int)=Int.ofNat (aJ ρ l c*2^n):=by
   have:min (Int.ofNat n).toNat k.bits=n:=by simp;omega
   rw [this];simp
  rw [e,Ur h2,Ip,WM]
 ·rfl
theorem zs7 (k:IntKind) {a b:SE} {l:List aL} {c n:Nat} (ha:a.den ρ=Int.ofNat (aJ ρ l c)) (hb:b.den ρ=Int.ofNat n):(Na k a b l c n).den ρ=iQ .shr k (a.den ρ) (b.den ρ):=by
 unfold Na;split
 ·rename_i h1;have h1:n≤k.bits:=yam h1;rw [tJ,ha,hb];show Int.ofNat (aJ ρ (qy n l) (c/2^n))=(Int.ofNat (aJ ρ l c)).fdiv (2^(min (Int.ofNat n).toNat k.bits));have e1:min (Int.ofNat n).toNat k.bits=n:=by simp;omega
  rw [e1,OU,ydN _ (by exact_mod_cast yar _)];simp
 ·rfl
theorem zvO {o:BinOp} (ho:o= .add∨o= .sub) (k:IntKind) {a b:SE} {l l':List aL} {c c':Nat} (ha:a.den ρ=Int.ofNat (aJ ρ l c)) (hb:b.den ρ=Int.ofNat (aJ ρ l' c')):(M5 o k a b l c l' c').den ρ=iQ o k (a.den ρ) (b.den ρ):=by
 unfold M5;split
 ·split
  ·rename_i h1 h2;have h1:=aY h1;subst h1;have hb:b.den ρ=0:=hb;rw [tJ,ha,hb];rcases ho with rfl|rfl
   ·show _=k.wrap (Int.ofNat (aJ ρ l c)+0);rw [Int.add_zero,wrap_small (qh h2)]
   ·show _=k.wrap (Int.ofNat (aJ ρ l c)-0);rw [Int.sub_zero,wrap_small (qh h2)]
  ·rfl
 ·rfl
theorem X3 {m:Nat}: ∀ {l:List aL} {c:Nat},Kv m l=true→c%2^m=0→aJ ρ l c%2^m=0
 | [], c,_,h=>h
 | f::l,c,ha,hc=>by
  unfold Kv at ha;split at ha
  ·rename_i hb;have hb:=yam hb;have ih:=X3 ha hc;apply ybh;intro b;have ihb:=yaB (fun x=>x.testBit b) ih;simp only [yb0,Nat.zero_testBit] at ihb;rw [yb0,Nat.zero_testBit];show (decide (b<m)&&(f.den ρ|||aJ ρ l c).testBit b)=false;rw [yaO,aL.jL];by_cases hlt:b<m
   ·have: ¬f.sh≤b:=by omega
    simp only [hlt,decide_true,ybr] at ihb;simp [this,ihb]
   ·simp [hlt]
  ·cases ha
theorem ztd (k:IntKind) {a b:SE} {l l':List aL} {c c':Nat} (ha:a.den ρ=Int.ofNat (aJ ρ l c)) (hb:b.den ρ=Int.ofNat (aJ ρ l' c')):(M0 k a b l c l' c').den ρ=iQ .add k (a.den ρ) (b.den ρ):=by
 unfold M0;split
 case h_2=>rfl
 rename_i g1 g2;split
 case h_2=>rfl
 rename_i h1 h2 h3;rw [tJ,ha,hb];have h3:=aY h3;have hlt:=qh (ρ:=ρ) h1;have hmod:=X3 (ρ:=ρ) h2 h3;have hsum:aJ ρ (rR l l') (Nat.lor c c')=aJ ρ l c+aJ ρ l' c':=by
  show aJ ρ (rR l l') (c|||c')=_;rw [EG];have e:aJ ρ l' c'=(aJ ρ l' c'/2^width l c)<<<width l c:=by
   rw [yc1];have:=Nat.div_add_mod (aJ ρ l' c') (2^width l c);rw [hmod] at this;rw [ybz];omega
  rw [e,ycE,←ydz hlt,yc5]
 have hw:aJ ρ (rR l l') (Nat.lor c c')<2^bQ k:=by
  show aJ ρ (rR l l') (c|||c')<_;rw [EG];exact ycS (qh g1) (qh g2)
 show _=k.wrap (Int.ofNat (aJ ρ l c)+Int.ofNat (aJ ρ l' c'));rw [show (Int.ofNat (aJ ρ l c)+Int.ofNat (aJ ρ l' c'):Int)=Int.ofNat (aJ ρ l c+aJ ρ l' c') from rfl,←hsum,wrap_small hw]
theorem zta (k:IntKind) {a b:SE} {l:List aL} {c n:Nat} (ha:a.den ρ=Int.ofNat (aJ ρ l c)) (hb:b.den ρ=Int.ofNat n):(M7 k a b l c n).den ρ=iQ .quo k (a.den ρ) (b.den ρ):=by
 unfold M7;split
 case h_2=>rfl
 rename_i h1 h2;have h2:n=2^Nat.log2 n:=aY h2;rw [tJ,ha,hb];show Int.ofNat (aJ ρ (qy (Nat.log2 n) l) (c/2^Nat.log2 n))=k.wrap ((Int.ofNat (aJ ρ l c)).tdiv (Int.ofNat n));rw [OU,←h2];show _=k.wrap (Int.ofNat (aJ ρ l c/n));rw [wrap_small (ydk (Nat.div_le_self _ _) (qh h1))]
theorem zs9 (k:IntKind) {a b:SE} {l:List aL} {c n:Nat} (ha:a.den ρ=Int.ofNat (aJ ρ l c)) (hb:b.den ρ=Int.ofNat n):(M8 k a b l c n).den ρ=iQ .rem k (a.den ρ) (b.den ρ):=by
 unfold M8;split
 case h_2=>rfl
 rename_i h2;have h2:n=2^Nat.log2 n:=aY h2;rw [tJ,ha,hb];show Int.ofNat (aJ ρ (oQ (Nat.log2 n) l) (c%2^Nat.log2 n))=(Int.ofNat (aJ ρ l c)).tmod (Int.ofNat n);rw [Ip,←h2];rfl
theorem wU (o:BinOp) (k:IntKind) (a b:SE):(iZ o k a b).den ρ=iQ o k (a.den ρ) (b.den ρ):=by
 unfold iZ;split
 case h_2=>rfl
 rename_i l c l' c' ha hb;have ha:=Z0 (ρ:=ρ) ha;have hb:=Z0 (ρ:=ρ) hb;split
 ·exact zvN k ha hb
 ·split
  ·exact Yn k ha hb
  ·split
   ·have ha:a.den ρ=Int.ofNat c:=ha;rw [Yn k hb ha];rw [ha,hb];show mV .and k _ _=mV .and k _ _;simp only [mV,BitVec.and_comm]
   ·rfl
 ·split
  ·exact zmv k ha hb
  ·rfl
 ·split
  ·exact zs8 k ha hb
  ·rfl
 ·split
  ·exact zs7 k ha hb
  ·rfl
 ·exact ztd k ha hb
 ·split
  ·exact zta k ha hb
  ·rfl
 ·split
  ·exact zs9 k ha hb
  ·rfl
 ·exact zvO (.inr rfl) k ha hb
 ·rfl
theorem zqz (o:BinOp) (a b:SE):(QI o a b).den ρ=mD o (a.den ρ) (b.den ρ):=by
  unfold QI;split
  case h_2=>rfl
  rename_i p q r s ha hb;obtain ⟨x,ex,h1,h2⟩:=zq (ρ:=ρ) ha;obtain ⟨y,ey,h3,h4⟩:=zq (ρ:=ρ) hb;have blt: ∀ {u v:Nat},Nat.blt u v=true→u<v:=fun h=>by rw [yaD] at h;exact h
  split
  · split
    · rfl
    · rename_i hne;have hxy:x≠y:=fun e=>by
        subst e;refine hne ?_ ?_
        · cases h:Nat.blt q r with
          | false=>rfl
          | true=>have:=blt h;omega
        · cases h:Nat.blt s p with
          | false=>rfl
          | true=>have:=blt h;omega
      simp [SB.den,mD,ex,ey];omega
  · split
    · rfl
    · rename_i hne;have hxy:x≠y:=fun e=>by
        subst e;refine hne ?_ ?_
        · cases h:Nat.blt q r with
          | false=>rfl
          | true=>have:=blt h;omega
        · cases h:Nat.blt s p with
          | false=>rfl
          | true=>have:=blt h;omega
      simp [SB.den,mD,ex,ey];omega
  all_goals
    first
      | rfl
      | (split
         · rename_i h
           first|have:=blt h|have:=yam h
           simp [SB.den,mD,ex,ey];omega
         · rename_i h _
           first|have:=blt h|have:=yam h
           simp [SB.den,mD,ex,ey];omega
         · rfl)
theorem ztc (o:BinOp) (a b:SE):(M4 o a b).den ρ=mD o (a.den ρ) (b.den ρ):=by
 unfold M4;split
 ·rename_i h;rw [SE.beq_eq h];cases o<;>simp [SB.den,Z7,mD]
 ·exact zqz o a b
theorem zms {x y:SE} {b:Bool} (h:PN x y=some b):(x.den ρ==y.den ρ)=b:=by
 unfold PN at h;split at h
 ·cases h;rw [zvq];rfl
 ·split at h
  ·rename_i hb;cases h;rw [SE.beq_eq hb];simp
  ·split at h
   case h_2=>cases h
   rename_i p q r s hx hy;obtain ⟨u,eu,h1,h2⟩:=zq (ρ:=ρ) hx;obtain ⟨v,ev,h3,h4⟩:=zq (ρ:=ρ) hy;split at h
   ·cases h
   ·rename_i hne;cases h;rw [eu,ev];have:u≠v:=fun e=>by
     subst e;refine hne ?_ ?_
     ·cases e:Nat.blt q r with
      | false=>rfl
      | true=>rw [yaD] at e;omega
     ·cases e:Nat.blt s p with
      | false=>rfl
      | true=>rw [yaD] at e;omega
    simp;omega
end
end Go.Dw
end
