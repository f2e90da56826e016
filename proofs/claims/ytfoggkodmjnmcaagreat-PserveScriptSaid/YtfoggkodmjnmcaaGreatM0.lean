/-
  Proved: laws on the way to 'PserveScriptProof' (texts Laid SvA SvB SvC SvD SvE SvF SvG SvH SvI DwBase DwEv DwRun DwLaw DwRel DwMem DwMap DwSym); no condition.
-/
import Derived.Test.YtfoggkodmjnmcaaGreatRows
import Derived.KernelRfl
import Derived.ProofKit
import Derived.Test.YtfoggkodmjnmcaaGreatProg
import Derived.Sort.OwnSortedInts
import Derived.Sort.AtCall
import Derived.Maps.AppendAt
import Derived.Maps.RangeWalk
import Derived.Deep.MidRow
import Derived.Deep.WholeRow
import Derived.StillTailTactics
import Derived.Deep.QuietTactic
import Derived.BigQuiet
import Derived.WalkKit
import Derived.Laws.Cover3
import Derived.Laws.CopyOwn
import Derived.Laws.CopyRow
import Derived.Laws.IdiomCopy
import Derived.Deep.RegionWith
import Derived.Deep.CutRange
import Derived.Calls
import Derived.Orders
import Derived.Laws.Cells
import Derived.Laws.AppendOwn
import Derived.LoopN
import Derived.RowKit3
import Derived.Below
set_option linter.unusedSimpArgs false
set_option linter.unusedVariables false
set_option maxHeartbeats 4000000
noncomputable section
namespace Go
abbrev yaa:=@Go.Result.andThen_ok
abbrev yab:=@Nat.le_refl
abbrev yac:=@Go.RowKit.Below.heap_setCell
abbrev yad:=@List.mem_cons
abbrev yae:=@Nat.lt_of_lt_of_le
abbrev yaf:=@Go.Sem.run_bind
abbrev yag:=@List.not_mem_nil
abbrev yah:=@Go.RowKit.Below.refl
abbrev yai:=@if_neg
abbrev yaj:=@if_pos
abbrev yak:=@Go.Sem.run_pure
abbrev yal:=@Nat.le_of_ble_eq_true
abbrev yam:=@List.mem_cons_of_mem
abbrev yan:=@Go.World.cell?_of_block
abbrev yao:=@List.getElem?_eq_getElem
abbrev yap:=@Array.getElem?_eq_some_iff
abbrev yaq:=@Go.Calls.mono
abbrev yar:=@decide_eq_false
abbrev yas:=@decide_eq_false_iff_not
abbrev yat:=@decide_eq_true_eq
abbrev yau:=@Nat.zero_add
abbrev yav:=@List.mem_cons_self
abbrev yaw:=@Nat.le_trans
abbrev yax:=@List.getElem?_eq_some_iff
abbrev yay:=@Array.getD_eq_getD_getElem?
abbrev yaz:=@List.getElem?_cons_zero
abbrev yaA:=@List.getElem?_toArray
abbrev yaB:=@or_false
abbrev yaC:=@Option.some.inj
abbrev yaD:=@List.mem_singleton
abbrev yaE:=@Nat.zero_le
abbrev yaF:=@Nat.blt_eq
abbrev yaG:=@decide_eq_true
abbrev yaH:=@beq_eq_false_iff_ne
abbrev yaI:=@congrArg
abbrev yaJ:=@List.map_cons
abbrev yaK:=@Option.map_some
abbrev yaL:=@Array.getElem?_eq_getElem
abbrev yaM:=@List.cons.injEq
abbrev yaN:=@and_true
abbrev yaO:=@List.getD_eq_getElem?_getD
abbrev yaP:=@Go.bodyPost_ret
abbrev yaQ:=@List.getElem?_cons_succ
abbrev yaR:=@List.mem_append
abbrev yaS:=@List.getElem_mem
abbrev yaT:=@Int.eq_ofNat_of_zero_le
abbrev yaU:=@Nat.testBit_or
abbrev yaV:=@List.getElem?_append_left
abbrev yaW:=@List.getElem?_append_right
abbrev yaX:=@List.length_append
abbrev yaY:=@Bool.false_eq_true
abbrev yaZ:=@List.map_nil
abbrev ya0:=@Int.toNat_natCast
abbrev ya1:=@List.getElem?_eq_none
abbrev ya2:=@List.mem_map
abbrev ya3:=@Go.wp_mono
abbrev ya4:=@Array.getElem?_eq_none
abbrev ya5:=@List.mem_of_getElem?
abbrev ya6:=@List.length_cons
abbrev ya7:=@beq_iff_eq
abbrev ya8:=@Option.map_none
abbrev ya9:=@List.pairwise_cons
abbrev yba:=@Array.length_toList
abbrev ybb:=@List.getElem?_map
abbrev ybc:=@Nat.mul_le_mul_right
abbrev ybd:=@Nat.mod_eq_of_lt
abbrev ybe:=@Bool.and_eq_true
abbrev ybf:=@Nat.add_assoc
abbrev ybg:=@Array.toList_push
abbrev ybh:=@Nat.eq_of_testBit_eq
abbrev ybi:=@List.mem_of_mem_drop
abbrev ybj:=@List.all_eq_true
abbrev ybk:=@Nat.add_zero
abbrev ybl:=@List.append_assoc
abbrev ybm:=@Nat.eq_zero_or_pos
abbrev ybn:=@List.length_eq_zero_iff
abbrev ybo:=@Go.info_parts
abbrev ybp:=@List.take_succ_eq_append_getElem
abbrev ybq:=@List.length_pos_iff
abbrev ybr:=@Classical.byContradiction
abbrev ybs:=@List.length_map
abbrev ybt:=@Array.getElem?_toList
abbrev ybu:=@congrFun
abbrev ybv:=@Go.heap_alloc_last
abbrev ybw:=@List.getElem?_take_of_lt
abbrev ybx:=@Nat.pow_le_pow_right
abbrev yby:=@bne_eq_false_iff_eq
abbrev ybz:=@Int.toNat_of_nonneg
abbrev ybA:=@Array.toList_modify
abbrev ybB:=@List.getElem_cons_succ
abbrev ybC:=@Option.bind_some
abbrev ybD:=@List.length_take
abbrev ybE:=@Nat.mul_comm
abbrev ybF:=@Int.emod_lt_of_pos
abbrev ybG:=@Int.cast_ofNat_Int
abbrev ybH:=@List.take_append_drop
abbrev ybI:=@Nat.add_mul
abbrev ybJ:=@List.getElem_append_right
abbrev ybK:=@Go.DataW.trod_int
abbrev ybL:=@List.mem_of_mem_take
abbrev ybM:=@Int.ofNat_eq_natCast
abbrev ybN:=@Go.World.cell?_setCell_same'
abbrev ybO:=@List.length_nil
abbrev ybP:=@Int.emod_nonneg
abbrev ybQ:=@of_decide_eq_true
abbrev ybR:=@List.getElem_append_left
abbrev ybS:=@Array.getElem?_setIfInBounds_ne
abbrev ybT:=@Nat.lt_or_ge
abbrev ybU:=@Go.RowKit.Below.heap_alloc
abbrev ybV:=@if_false
abbrev ybW:=@Int.le_refl
abbrev ybX:=@Nat.lt_irrefl
abbrev ybY:=@List.getElem?_range
abbrev ybZ:=@Nat.testBit_mod_two_pow
abbrev yb0:=@Option.getD_some
abbrev yb1:=@Nat.shiftLeft_eq
abbrev yb2:=@List.take_length
abbrev yb3:=@Option.map_eq_some_iff
abbrev yb4:=@List.take_of_length_le
abbrev yb5:=@List.getElem?_drop
abbrev yb6:=@BitVec.toNat_ofNat
abbrev yb7:=@Iff.rfl
abbrev yb8:=@Nat.sub_self
abbrev yb9:=@Nat.beq_refl
abbrev yca:=@Nat.testBit_and
abbrev ycb:=@Nat.ble_eq_true_of_le
abbrev ycc:=@List.mem_append_right
abbrev ycd:=@Option.some.injEq
abbrev yce:=@List.size_toArray
abbrev ycf:=@Array.getElem?_append_left
abbrev ycg:=@List.mem_iff_getElem
abbrev ych:=@List.mem_append_left
abbrev yci:=@Array.toArray_toList
abbrev ycj:=@Go.wpList_append_own
abbrev yck:=@List.Perm.refl
abbrev ycl:=@List.drop_eq_getElem_cons
abbrev ycm:=@Decidable.byContradiction
abbrev ycn:=@decide_eq_decide
abbrev yco:=@List.cons_append
abbrev ycp:=@Go.wpList_append_own_at
abbrev ycq:=@Nat.testBit_two_pow
abbrev ycr:=@Nat.shiftRight_zero
abbrev ycs:=@Go.World.cell?_setCell_other
abbrev yct:=@Go.Addr.add_mid
abbrev ycu:=@Option.isSome_none
abbrev ycv:=@Array.ext_getElem?
abbrev ycw:=@Array.getElem?_setIfInBounds_self
abbrev ycx:=@Go.MapKept.heap_alloc
abbrev ycy:=@if_true
abbrev ycz:=@Nat.le_succ_of_le
abbrev ycA:=@List.pairwise_map
abbrev ycB:=@Nat.sub_zero
abbrev ycC:=@Go.World.frozen?_of_block
abbrev ycD:=@Go.heap_alloc_old
abbrev ycE:=@List.length_drop
abbrev ycF:=@Nat.shiftLeft_add_eq_or_of_lt
abbrev ycG:=@BitVec.ofInt_natCast
abbrev ycH:=@Prod.mk.injEq
abbrev ycI:=@Nat.or_comm
abbrev ycJ:=@Nat.min_eq_left
abbrev ycK:=@List.map_append
abbrev ycL:=@Bool.eq_iff_iff
abbrev ycM:=@List.take_succ_cons
abbrev ycN:=@List.mem_map_of_mem
abbrev ycO:=@List.map_congr_left
abbrev ycP:=@Int.tmod_eq_emod_of_nonneg
abbrev ycQ:=@Nat.or_assoc
abbrev ycR:=@List.map_map
abbrev ycS:=@Nat.shiftLeft_zero
abbrev ycT:=@Nat.lt_of_le_of_lt
abbrev ycU:=@Int.natCast_nonneg
abbrev ycV:=@List.pairwise_iff_getElem
abbrev ycW:=@List.extract_eq_take_drop
abbrev ycX:=@ne_eq
abbrev ycY:=@Array.ext'
abbrev ycZ:=@Go.World.ownsRow_made
abbrev yc0:=@Nat.or_lt_two_pow
abbrev yc1:=@Array.size_append
abbrev yc2:=@Option.bind_eq_some_iff
abbrev yc3:=@Go.World.cells?_some
abbrev yc4:=@List.modify_cons
abbrev yc5:=@BitVec.toNat_and
abbrev yc6:=@List.getElem_cons_zero
abbrev yc7:=@Go.cell_of_row
abbrev yc8:=@Nat.add_comm
abbrev yc9:=@Int.pow_succ
abbrev yda:=@Nat.eq_of_beq_eq_true
abbrev ydb:=@List.mem_iff_getElem?
abbrev ydc:=@Array.getElem?_modify
abbrev ydd:=@List.drop_eq_nil_iff
abbrev yde:=@Go.World.frozen?_setCell
abbrev ydf:=@Nat.pow_add
abbrev ydg:=@Nat.or_zero
abbrev ydh:=@Go.heap_alloc_new
abbrev ydi:=@Bool.not_true
abbrev ydj:=@Go.run_program
abbrev ydk:=@Go.run_equal_slice_nil
abbrev ydl:=@Ne.symm
abbrev ydm:=@Nat.lt_succ_of_lt
abbrev ydn:=@List.nodup_append
abbrev ydo:=@List.flatMap_cons
abbrev ydp:=@List.ext_getElem?
abbrev ydq:=@Nat.succ_pos
abbrev ydr:=@Int.mul_comm
abbrev yds:=@Int.add_zero
abbrev ydt:=@Nat.lt_succ_self
abbrev ydu:=@List.any_eq_true
abbrev ydv:=@Array.toList_map
abbrev ydw:=@Eq.trans
abbrev ydx:=@Go.run_storeCells_at
abbrev ydy:=@Go.run_append_own_at
abbrev ydz:=@Go.DataW.trod_struct
abbrev ydA:=@Array.getElem?_setIfInBounds
abbrev ydB:=@dif_pos
abbrev ydC:=@dif_neg
abbrev ydD:=@decide_true
abbrev ydE:=@Go.callsIn_wide
abbrev ydF:=@Nat.testBit_xor
abbrev ydG:=@List.nil_append
abbrev ydH:=@Bool.or_eq_true
abbrev ydI:=@Array.getElem?_append_right
abbrev ydJ:=@List.eraseIdx_of_length_le
abbrev ydK:=@Int.tdiv_eq_ediv_of_nonneg
abbrev ydL:=@Int.fdiv_eq_ediv_of_nonneg
abbrev ydM:=@Go.RowKit.Below.alloc
abbrev ydN:=@List.take_left
abbrev ydO:=@List.mapM_cons
abbrev ydP:=@Bool.not_false
abbrev ydQ:=@Nat.shiftRight_eq_div_pow
abbrev ydR:=@Array.mapM_eq_mapM_toList
abbrev ydS:=@Go.wpList_step
abbrev ydT:=@Go.getD_set_ne
abbrev ydU:=@bne_iff_ne
abbrev ydV:=@Array.getElem?_replicate
end Go
namespace Go.Proofs.YtfoggkodmjnmcaaGreat
theorem abb:laidOutB Tryz.prog=true:=by kernel_rfl
end Go.Proofs.YtfoggkodmjnmcaaGreat
namespace Go.Proofs
open Go.RowKit Go.Maps Go.Sort
structure Tryz.GM (w:World) (P L Bs B N:Nat) (g:Nat→Int):Prop where
 p0: ∃c,w.cell? ⟨P,0,none⟩=some (.slice (some ⟨L,0,none⟩) 1 c)
 p1:w.cell? ⟨P,1,none⟩=some (.slice (some ⟨Bs,0,none⟩) 1 2)
 l0:w.cell? ⟨L,0,none⟩=some (.int .u64 0)
 l1:w.cell? ⟨L,1,none⟩=some (.int .u64 N)
 b0:w.cell? ⟨Bs,0,none⟩=some (.slice (some ⟨B,0,none⟩) N N)
 full: ∀j,j<N→w.cell? ⟨B,j,none⟩=some (.int .u8 (g j))
 free: ∀j,j<N→w.frozen? ⟨B,j,none⟩=false
 byte: ∀j,0≤g j∧g j<256
 pb:P≠B
 lb:L≠B
 sb:Bs≠B
 bl:B<w.heap.size
theorem Tryz.GM.pl {w:World} {P L Bs B N:Nat} {g:Nat→Int} (h:GM w P L Bs B N g):P<w.heap.size:=World.block_lt_of_cell? w _ h.p1
theorem Tryz.GM.ll {w:World} {P L Bs B N:Nat} {g:Nat→Int} (h:GM w P L Bs B N g):L<w.heap.size:=World.block_lt_of_cell? w _ h.l0
theorem Tryz.GM.sl {w:World} {P L Bs B N:Nat} {g:Nat→Int} (h:GM w P L Bs B N g):Bs<w.heap.size:=World.block_lt_of_cell? w _ h.b0
theorem Tryz.GM.kept {w w':World} {P L Bs B N:Nat} {g:Nat→Int} (h:GM w P L Bs B N g) (hg: ∀k,k<w.heap.size→(k=P∨k=L∨k=Bs∨k=B)→w'.heap[k]? =w.heap[k]?) (hs:w.heap.size≤w'.heap.size):GM w' P L Bs B N g:=by
 have eP:=hg P h.pl (Or.inl rfl);have eL:=hg L h.ll (Or.inr (Or.inl rfl));have eS:=hg Bs h.sl (Or.inr (Or.inr (Or.inl rfl)));have eB:=hg B h.bl (Or.inr (Or.inr (Or.inr rfl)));refine ⟨?_,?_,?_,?_,?_,fun j hj=> ?_,fun j hj=> ?_,h.byte,h.pb,h.lb,h.sb,yae h.bl hs⟩
 ·obtain ⟨c,h0⟩:=h.p0;exact ⟨c,by rw [yan (a:=⟨P,0,none⟩) eP];exact h0⟩
 ·rw [yan (a:=⟨P,1,none⟩) eP];exact h.p1
 ·rw [yan (a:=⟨L,0,none⟩) eL];exact h.l0
 ·rw [yan (a:=⟨L,1,none⟩) eL];exact h.l1
 ·rw [yan (a:=⟨Bs,0,none⟩) eS];exact h.b0
 ·rw [yan (a:=⟨B,j,none⟩) eB];exact h.full j hj
 ·rw [ycC (a:=⟨B,j,none⟩) eB];exact h.free j hj
theorem Tryz.GM.below {w w':World} {P L Bs B N:Nat} {g:Nat→Int} (h:GM w P L Bs B N g) (hb:Below w.heap.size w w'):GM w' P L Bs B N g:=h.kept (fun k hk _=>hb.block k hk) hb.size
theorem Tryz.wrap_u64 (k:Int) (h:0≤k) (h':k<18446744073709551616):IntKind.wrap .u64 k=k:=by unfold IntKind.wrap;simp [IntKind.signed,IntKind.bits];omega
set_option maxRecDepth 100000 in
theorem Tryz.ztc (P L Bs B N X Y:Nat) (aP:Int) (g:Nat→Int) (w:World) (st:GM w P L Bs B N g) (hN:N≤1048576) (h1:1≤N) (hX:w.cell? ⟨X,0,none⟩=some (.pointer (some ⟨P,0,none⟩))) (hY:w.cell? ⟨Y,0,none⟩=some (.int .u64 aP)):
  Calls prog 86 #[.int .i64 0,.pointer (some ⟨X,0,none⟩),.pointer (some ⟨Y,0,none⟩)] w fun e w'=>e= .returned (.bool (decide (aP≤N-1)))∧ ∃q,w'=w.drewN q:=by
 obtain ⟨lc,c0⟩:=st.p0;have c2:=st.l0;have c3:=st.l1;have hs:IntKind.wrap .u64 ((N:Int)-1)=N-1:=wrap_u64 _ (by omega) (by omega);go_enter func86,ntmps86;go_wp2_with fail;go_quiet (fail);go_wp2;go_ret;exact ⟨rfl,nq,rfl⟩
theorem Tryz.below_drewN {B:Nat} {a w:World} (h:Below B a w) (q:Nat):Below B a (w.drewN q):=⟨h.os,h.tape,h.output,h.size,h.block⟩
set_option maxRecDepth 100000 in
theorem Tryz.Z6 (P L Bs B N X Y:Nat) (aP:Int) (g:Nat→Int) (w:World) (st:GM w P L Bs B N g) (hN:N≤1048576) (h1:1≤N) (hX:w.cell? ⟨X,0,none⟩=some (.pointer (some ⟨P,0,none⟩))) (hY:w.cell? ⟨Y,0,none⟩=some (.int .u64 aP)) (ha:aP≤N-1):
    Calls prog 85 #[.int .i64 1,.func (.func 86) #[] #[.pointer (some ⟨X,0,none⟩),.pointer (some ⟨Y,0,none⟩)]] w fun e w'=>e= .returned (.int .i64 0)∧ ∃q,w'=w.drewN q:=by
  have he:=ztc P L Bs B N X Y aP g w st hN h1 hX hY;rw [yaG ha] at he;go_enter func85,ntmps85;go_wp2_with fail;go_loopw [5,6] (fun i j wr=>(i= .int .i64 0∧j= .int .i64 1∧wr=w)∨(i= .int .i64 0∧j= .int .i64 0∧ ∃q,wr=w.drewN q)) (fun _ j _=>(RowKit.intOf j).toNat)
  case atStart=>exact Or.inl ⟨rfl,rfl,rfl⟩
  case round=>
    rcases hrel with ⟨rfl,rfl,rfl⟩|⟨rfl,rfl,q,rfl⟩
    · go_wp2_with (first
        | (go_at_call 86;refine he.mono ?_;rintro e w' ⟨rfl,q,rfl⟩)
        | go_in)
      exact ⟨Or.inr ⟨rfl,rfl,q,rfl⟩,by simp [RowKit.intOf]⟩
    · go_wp2;go_ret;exact ⟨rfl,q,rfl⟩
set_option maxRecDepth 100000 in
theorem Tryz.ztW (P L Bs B N X Y:Nat) (aP:Int) (g:Nat→Int) (w:World) (st:GM w P L Bs B N g) (hN:N≤1048576) (h1:1≤N) (hX:w.cell? ⟨X,0,none⟩=some (.pointer (some ⟨P,0,none⟩))) (hY:w.cell? ⟨Y,0,none⟩=some (.int .u64 aP)) (ha: ¬aP≤N-1):
    Calls prog 85 #[.int .i64 1,.func (.func 86) #[] #[.pointer (some ⟨X,0,none⟩),.pointer (some ⟨Y,0,none⟩)]] w fun e w'=>e= .returned (.int .i64 1)∧ ∃q,w'=w.drewN q:=by
  have he:=ztc P L Bs B N X Y aP g w st hN h1 hX hY;rw [yar ha] at he;go_enter func85,ntmps85;go_wp2_with fail;go_loopw [5,6] (fun i j wr=>(i= .int .i64 0∧j= .int .i64 1∧wr=w)∨(i= .int .i64 1∧j= .int .i64 1∧ ∃q,wr=w.drewN q)) (fun i j _=>(RowKit.intOf j-RowKit.intOf i).toNat)
  case atStart=>exact Or.inl ⟨rfl,rfl,rfl⟩
  case round=>
    rcases hrel with ⟨rfl,rfl,rfl⟩|⟨rfl,rfl,q,rfl⟩
    · go_wp2_with (first
        | (go_at_call 86;refine he.mono ?_;rintro e w' ⟨rfl,q,rfl⟩)
        | go_in)
      exact ⟨Or.inr ⟨rfl,rfl,q,rfl⟩,by simp [RowKit.intOf]⟩
    · go_wp2;go_ret;exact ⟨rfl,q,rfl⟩
set_option maxRecDepth 100000 in
theorem Tryz.Dy (P L Bs B N a k:Nat) (g:Nat→Int) (w:World) (st:GM w P L Bs B N g) (hN:N≤1048576) (hk:1≤k) (hin:a+k≤N):
    Calls prog 60 #[.pointer (some ⟨P,0,none⟩),.int .u64 a,.int .u64 k] w fun e w'=>e= .returned (.slice (some ⟨B,a,none⟩) k (N-a))∧Below w.heap.size w w':=by
  have hb2:=((yah _ w).alloc (yab _) (.cells #[.pointer (some ⟨P,0,none⟩)] 27)).alloc (by simp) (.cells #[.int .u64 a] 29);have st2:=st.below hb2;have hX:((w.alloc (.cells #[.pointer (some ⟨P,0,none⟩)] 27)).alloc (.cells #[.int .u64 a] 29)).cell? ⟨w.heap.size,0,none⟩=some (.pointer (some ⟨P,0,none⟩)):=by simp
  have hY:((w.alloc (.cells #[.pointer (some ⟨P,0,none⟩)] 27)).alloc (.cells #[.int .u64 a] 29)).cell? ⟨w.heap.size+1,0,none⟩=some (.int .u64 a):=by simp
  have hse:=Z6 P L Bs B N w.heap.size (w.heap.size+1) a g _ st2 hN (by omega) hX hY (by omega);go_enter func60,ntmps60;generalize hw2:(w.alloc (.cells #[.pointer (some ⟨P,0,none⟩)] 27)).alloc (.cells #[.int .u64 a] 29)=w2 at*;obtain ⟨lc,c0⟩:=st2.p0;have c1:=st2.p1;have c2:=st2.l0;have c3:=st2.l1;have c4:=st2.b0;have ha:IntKind.wrap .u64 ((N:Int)-a)=N-a:=wrap_u64 _ (by omega) (by omega);have hak:IntKind.wrap .u64 ((a:Int)+k)=a+k:=wrap_u64 _ (by omega) (by omega);have hkk:a+k-a=k:=by omega
  go_wp2_with (first
    | (go_at_call 85;refine hse.mono ?_;rintro e w' ⟨rfl,q,rfl⟩)
    | go_in)
  go_quiet (fail);go_wp2;go_quiet (fail);go_wp2;go_ret;exact ⟨(by show Ending.returned (.slice (some ⟨B,a,none⟩) (a+k-a) (N-a))=_;rw [hkk]),below_drewN hb2 _⟩
set_option maxRecDepth 100000 in
theorem Tryz.zyF (P L Bs B N:Nat) (a k:Int) (g:Nat→Int) (w:World) (st:GM w P L Bs B N g) (hN:N≤1048576) (h1:1≤N) (ha0:0≤a) (ha1:a<18446744073709551616) (hk0:0≤k) (hout: ¬(1≤k∧a+k≤N)):
    Calls prog 60 #[.pointer (some ⟨P,0,none⟩),.int .u64 a,.int .u64 k] w fun e w'=>e= .returned (.slice none 0 0)∧Below w.heap.size w w':=by
  have hb2:=((yah _ w).alloc (yab _) (.cells #[.pointer (some ⟨P,0,none⟩)] 27)).alloc (by simp) (.cells #[.int .u64 a] 29);have st2:=st.below hb2;have hX:((w.alloc (.cells #[.pointer (some ⟨P,0,none⟩)] 27)).alloc (.cells #[.int .u64 a] 29)).cell? ⟨w.heap.size,0,none⟩=some (.pointer (some ⟨P,0,none⟩)):=by simp
  have hY:((w.alloc (.cells #[.pointer (some ⟨P,0,none⟩)] 27)).alloc (.cells #[.int .u64 a] 29)).cell? ⟨w.heap.size+1,0,none⟩=some (.int .u64 a):=by simp
  have hsi:=Z6 P L Bs B N w.heap.size (w.heap.size+1) a g _ st2 hN h1 hX hY;have hso:=ztW P L Bs B N w.heap.size (w.heap.size+1) a g _ st2 hN h1 hX hY;go_enter func60,ntmps60;generalize hw2:(w.alloc (.cells #[.pointer (some ⟨P,0,none⟩)] 27)).alloc (.cells #[.int .u64 a] 29)=w2 at*;obtain ⟨lc,c0⟩:=st2.p0;have c1:=st2.p1;have c2:=st2.l0;have c3:=st2.l1;have c4:=st2.b0;by_cases hk1:1≤k
  · by_cases ha:a≤N-1
    · have hsi:=hsi ha;have qB:IntKind.wrap .u64 ((N:Int)-a)=N-a:=wrap_u64 _ (by omega) (by omega);have hkn: ¬k≤N-a:=by omega
      go_wp2_with (first
        | (go_at_call 85;refine hsi.mono ?_;rintro e w' ⟨rfl,q,rfl⟩)
        | go_in)
      go_quiet (fail);go_wp2;go_quiet (fail);go_wp2;go_ret;exact ⟨rfl,below_drewN hb2 _⟩
    · have hso:=hso ha;go_wp2_with (first
        | (go_at_call 85;refine hso.mono ?_;rintro e w' ⟨rfl,q,rfl⟩)
        | go_in)
      go_quiet (fail);go_wp2;go_ret;exact ⟨rfl,below_drewN (below_drewN hb2 _) _⟩
  · go_wp2;go_ret;exact ⟨rfl,hb2⟩
theorem Tryz.Dr (a:Option Addr) (n c:Nat) (w:World):(binOp .eql 55 (.slice a n c) (.slice none 0 0)).run prog w= .ok (.bool a.isNone) w:=by
 simp only [binOp];simp [ydk w 55 5 _ _ _ underlying55]
set_option maxRecDepth 100000 in
theorem Tryz.yj (P L Bs B N:Nat) (g:Nat→Int) (w:World) (st:GM w P L Bs B N g):
  Calls prog 59 #[.pointer (some ⟨P,0,none⟩)] w fun e w'=>e= .returned (.bool true)∧w'=w:=by
 have c1:=st.p1;go_enter func59,ntmps59;go_wp2;go_ret;exact ⟨rfl,rfl⟩
theorem Tryz.Zr (k:Nat) (hk:k=1∨k=2∨k=4∨k=8) (w:World):Calls prog 68 #[.int .i64 k] w fun e w'=>e= .returned (.bool true)∧w'=w:=by
 go_enter func68,ntmps68;rcases hk with rfl|rfl|rfl|rfl<;>(go_wp2;go_ret;exact ⟨rfl,rfl⟩)
def Tryz.ax (g:Nat→Int) (a:Nat):Nat→Int
 | 0=>0
 | k+1=>ax g a k+g (a+k)*256^k
theorem Tryz.lg (g:Nat→Int) (hg: ∀j,0≤g j∧g j<256) (a:Nat): ∀k,0≤ax g a k∧ax g a k<256^k
 | 0=>by simp [ax]
 | k+1=>by
  have h:=lg g hg a k;have h2:=hg (a+k);have h3:(0:Int)<256^k:=Int.pow_pos (by omega);have h4:0≤g (a+k)*256^k:=Int.mul_nonneg h2.1 (by omega);have h5:g (a+k)*256^k≤255*256^k:=Int.mul_le_mul_of_nonneg_right (by omega) (by omega);simp only [ax,yc9];omega
theorem Tryz.zFe (x y s:Nat) (hx:x<2^s) (hy:y*2^s<2^64) (hs:s≤64):bits .or .u64 (x:Int) ((y*2^s:Nat):Int)=((x+y*2^s:Nat):Int):=by
 have hx':x<2^64:=yae hx (ybx (by omega) hs);have e:x|||y*2^s=x+y*2^s:=by
  rw [ybE y,ycI,←Nat.two_pow_add_eq_or_of_lt hx,yc8]
 have hlt:x+y*2^s<2^64:=by rw [←e];exact yc0 hx' hy
 unfold bits;simp only [BitVec.toNat_or];have ex:(BitVec.ofInt IntKind.u64.bits (x:Int)).toNat=x:=by
  rw [ycG,yb6];exact ybd hx'
 have ey:(BitVec.ofInt IntKind.u64.bits ((y*2^s:Nat):Int)).toNat=y*2^s:=by
  rw [ycG,yb6];exact ybd hy
 rw [ex,ey,e];exact wrap_u64 _ (by omega) (by omega)
theorem Tryz.SY (i:Nat):(256:Int)^i=((2^(8*i):Nat):Int):=by
 rw [Nat.pow_mul,Int.natCast_pow];rfl
theorem Tryz.zDv (g:Nat→Int) (hg: ∀j,0≤g j∧g j<256) (a i:Nat) (hi:i<8):bits .or .u64 (ax g a i) (IntKind.wrap .u64 (IntKind.wrap .u64 (g (a+i))*2^(8*i)))=ax g a (i+1):=by
 have hb:=lg g hg a i;have h2:=hg (a+i);obtain ⟨m,hm⟩:=yaT hb.1;obtain ⟨c,hc⟩:=yaT h2.1;have hlt:c*2^(8*i)<2^64:=by
  have h1:c*2^(8*i)<2^8*2^(8*i):=Nat.mul_lt_mul_of_pos_right (by omega) (Nat.pow_pos (by omega));rw [←ydf] at h1;exact yae h1 (ybx (by omega) (by omega))
 have hml:m<2^(8*i):=by
  have:=hb.2;rw [hm,SY] at this;exact Int.ofNat_lt.1 this
 simp only [ax];rw [hm,hc,SY];have e1:IntKind.wrap .u64 (c:Int)=c:=wrap_u64 _ (by omega) (by omega);have e2:((c:Int)*2^(8*i))=((c*2^(8*i):Nat):Int):=by push_cast;rfl
 rw [e1,e2,wrap_u64 _ (by omega) (by omega),zFe m c (8*i) hml hlt (by omega)];push_cast;rfl
set_option maxRecDepth 100000 in
theorem Tryz.zDG (P L Bs B N a k:Nat) (g:Nat→Int) (w:World) (st:GM w P L Bs B N g) (hN:N≤1048576) (hk:k=1∨k=2∨k=4∨k=8) (hin:a+k≤N):
    Calls prog 53 #[.pointer (some ⟨P,0,none⟩),.int .u64 a,.int .i64 k] w fun e w'=>e= .returned (.tuple #[.int .u64 (ax g a k),.int .i64 0])∧Below w.heap.size w w':=by
  have hq:=Dr;have hm:=yj P L Bs B N g w st;have hby:=Dy P L Bs B N a k g w st hN (by omega) hin;have hwk:IntKind.wrap .u64 (k:Int)=k:=wrap_u64 _ (by omega) (by omega);have hiw:=Zr k hk w;go_enter func53,ntmps53;go_wp2_with (first
    | (go_at_call 59;refine hm.mono ?_;rintro e w' ⟨rfl,hw⟩;have hw:=hw.symm;subst hw)
    | (go_at_call 68;refine hiw.mono ?_;rintro e w' ⟨rfl,hw⟩;have hw:=hw.symm;subst hw)
    | (go_at_call 60;refine hby.mono ?_;rintro e w1 ⟨rfl,hb1⟩)
    | go_in)
  go_loopw [9,25] (fun v c wr=> ∃i:Nat,i≤k∧c= .int .i64 i∧v= .int .u64 (ax g a i)∧wr=w1) (fun _ c _=>k-(RowKit.intOf c).toNat)
  case atStart=>exact ⟨0,yaE _,rfl,rfl,rfl⟩
  case round=>
    obtain ⟨i,hi,rfl,rfl,rfl⟩:=hrel;by_cases hik:i<k
    · have hc:=(st.below hb1).full (a+i) (by omega);have ho:=zDv g st.byte a i (by omega);go_wp2;exact ⟨⟨i+1,by omega,by push_cast;rfl,rfl,trivial⟩,by simp only [RowKit.intOf];omega⟩
    · have hik':i=k:=by omega
      subst hik';go_wp2;go_ret2;exact ⟨rfl,hb1⟩
structure Tryz.Mv (S:Nat→Prop) (w w':World):Prop where
 os:w'.os=w.os
 tape:w'.tape=w.tape
 output:w'.output=w.output
 size:w.heap.size≤w'.heap.size
 block: ∀k,k<w.heap.size→ ¬S k→w'.heap[k]? =w.heap[k]?
theorem Tryz.Mv.refl (S:Nat→Prop) (w:World):Mv S w w:=⟨rfl,rfl,rfl,yab _,fun _ _ _=>rfl⟩
theorem Tryz.Mv.of_below {S:Nat→Prop} {w w':World} (h:Below w.heap.size w w'):Mv S w w':=⟨h.os,h.tape,h.output,h.size,fun k hk _=>h.block k hk⟩
theorem Tryz.Mv.setCell {S:Nat→Prop} {a w:World} (h:Mv S a w) (b o:Nat) (v:Value) (hb:S b∨a.heap.size≤b):Mv S a (w.setCell ⟨b,o,none⟩ v):=
 ⟨h.os,h.tape,h.output,yaw h.size (by simp),fun k hk h1=>(yac w _ _ k (fun e=>by
  have e':k=b:=e;rcases hb with h2|h2
  ·exact h1 (e'▸h2)
  ·omega)).trans (h.block k hk h1)⟩
theorem Tryz.Mv.grown {S:Nat→Prop} {a w w':World} {r:Nat} (h:Mv S a w) (hg:w.grownBy w' (some r)) (hr:S r∨a.heap.size≤r):Mv S a w':=
  ⟨hg.os.trans h.os,hg.tape.trans h.tape,hg.output.trans h.output,yaw h.size hg.size,fun k hk h1=>
    (hg.block k (yae hk h.size) (fun e=>by
      have e':=yaC e;rcases hr with h2|h2
      · exact h1 (e'▸h2)
      · omega)).trans (h.block k hk h1)⟩
theorem Tryz.Mv.below {S:Nat→Prop} {base:Nat} {w w':World} (h:Mv S w w') (hS: ∀k,S k→base≤k) (hw:base≤w.heap.size):Below base w w':=
 ⟨h.os,h.tape,h.output,h.size,fun k hk=>h.block k (by omega) (fun h1=>by have:=hS k h1;omega)⟩
theorem Tryz.GM.congr {w:World} {P L Bs B N:Nat} {g g':Nat→Int} (h:GM w P L Bs B N g) (hf: ∀j,g' j=g j):GM w P L Bs B N g':=by
 have:g'=g:=funext hf;rw [this];exact h
theorem Tryz.GM.CJ {w:World} {P L Bs B N:Nat} {g:Nat→Int} (h:GM w P L Bs B N g) (j:Nat) (hj:j<N) (x:Int) (hx0:0≤x) (hx1:x<256):GM (w.setCell ⟨B,j,none⟩ (.int .u8 x)) P L Bs B N (fun q=>if q=j then x else g q):=by
 have hk: ∀k,k≠B→(w.setCell ⟨B,j,none⟩ (.int .u8 x)).heap[k]? =w.heap[k]? :=fun k hk=>yac w _ _ k hk;have eP:=hk P h.pb;have eL:=hk L h.lb;have eS:=hk Bs h.sb;refine ⟨?_,?_,?_,?_,?_,fun q hq=> ?_,fun q hq=> ?_,fun q=> ?_,h.pb,h.lb,h.sb,yae h.bl (by simp)⟩
 ·obtain ⟨c,h0⟩:=h.p0;exact ⟨c,by rw [yan (a:=⟨P,0,none⟩) eP];exact h0⟩
 ·rw [yan (a:=⟨P,1,none⟩) eP];exact h.p1
 ·rw [yan (a:=⟨L,0,none⟩) eL];exact h.l0
 ·rw [yan (a:=⟨L,1,none⟩) eL];exact h.l1
 ·rw [yan (a:=⟨Bs,0,none⟩) eS];exact h.b0
 ·by_cases hqj:q=j
  ·subst hqj;rw [yaj rfl];exact ybN _ _ _ (by rw [h.full q hq];rfl)
  ·rw [yai hqj,ycs w ⟨B,j,none⟩ ⟨B,q,none⟩ _ (fun e=>hqj (yaI Addr.off e).symm)];exact h.full q hq
 ·rw [yde];exact h.free q hq
 ·by_cases hqj:q=j
  ·rw [yaj hqj];exact ⟨hx0,hx1⟩
  ·rw [yai hqj];exact h.byte q
def Tryz.dS (g:Nat→Int) (a k:Nat) (v:Int) (j:Nat):Int:=if a≤j∧j<a+k then v/2^(8*(j-a))%256 else g j
theorem Tryz.zr0 (g:Nat→Int) (a:Nat) (v:Int) (j:Nat):dS g a 0 v j=g j:=by
 unfold dS;rw [yai (by omega)]
theorem Tryz.zrZ (g:Nat→Int) (a i:Nat) (v:Int) (j:Nat):dS g a (i+1) v j=if j=a+i then v/2^(8*i)%256 else dS g a i v j:=by
 unfold dS;by_cases hj:j=a+i
 ·subst hj;rw [yaj (by omega),yaj rfl,show a+i-a=i by omega]
 ·rw [yai hj];by_cases h2:a≤j∧j<a+i
  ·rw [yaj (by omega),yaj h2]
  ·rw [yai (by omega),yai h2]
theorem Tryz.wrap_u8 (x:Int):IntKind.wrap .u8 x=x%256:=by unfold IntKind.wrap;simp [IntKind.signed,IntKind.bits]
set_option maxRecDepth 100000 in
theorem Tryz.zrt (P L Bs B N a k:Nat) (v:Int) (g:Nat→Int) (w:World) (st:GM w P L Bs B N g) (hN:N≤1048576) (hk:k=1∨k=2∨k=4∨k=8) (hin:a+k≤N):
    Calls prog 25 #[.pointer (some ⟨P,0,none⟩),.int .u64 a,.int .i64 k,.int .u64 v] w fun e w'=>e= .returned (.int .i64 0)∧GM w' P L Bs B N (dS g a k v)∧Mv (· =B) w w':=by
  have hq:=Dr;have hm:=yj P L Bs B N g w st;have hby:=Dy P L Bs B N a k g w st hN (by omega) hin;have hwk:IntKind.wrap .u64 (k:Int)=k:=wrap_u64 _ (by omega) (by omega);have hiw:=Zr k hk w;go_enter func25,ntmps25;go_wp2_with (first
    | (go_at_call 59;refine hm.mono ?_;rintro e w' ⟨rfl,hw⟩;have hw:=hw.symm;subst hw)
    | (go_at_call 68;refine hiw.mono ?_;rintro e w' ⟨rfl,hw⟩;have hw:=hw.symm;subst hw)
    | (go_at_call 60;refine hby.mono ?_;rintro e w1 ⟨rfl,hb1⟩)
    | go_in)
  go_loopw [25] (fun c wr=> ∃i:Nat,i≤k∧c= .int .i64 i∧GM wr P L Bs B N (dS g a i v)∧Mv (· =B) w wr) (fun c _=>k-(RowKit.intOf c).toNat)
  case atStart=>exact ⟨0,yaE _,rfl,(st.below hb1).congr (fun j=>zr0 g a v j),Mv.of_below hb1⟩
  case round=>
    obtain ⟨i,hi,rfl,st',mv⟩:=hrel;by_cases hik:i<k
    · have hc:=st'.full (a+i) (by omega);have hf:=st'.free (a+i) (by omega);have hw8:=wrap_u8 (v/2^(8*i));go_wp2;exact ⟨⟨i+1,by omega,by push_cast;rfl,(st'.CJ (a+i) (by omega) _ (ybP _ (by omega)) (ybF _ (by omega))).congr (fun j=>zrZ g a i v j),mv.setCell _ _ _ (Or.inl rfl)⟩,by simp only [RowKit.intOf];omega⟩
    · have hik':i=k:=by omega
      subst hik';go_wp2;go_ret;exact ⟨rfl,st',mv⟩
theorem Tryz.yQ:(prog.info? 5).map (fun i=>(i.zero,i.size,i.bytes))=some (some (.int .u8 0),1,1):=by kernel_rfl
theorem Tryz.iR {w w':World} {b o:Nat} {cs:List Value} (h:w.rangeAt b o cs) (e:w'.heap[b]? =w.heap[b]?):w'.rangeAt b o cs:=fun j v hv=>by
 rw [yan (a:=⟨b,o+j,none⟩) e];exact h j v hv
set_option maxRecDepth 100000 in
theorem Tryz.zq8 (B a n c:Nat) (us:List Value) (w:World) (hr:w.rangeAt B a us) (hl:us.length=n) (h1: ∀v∈us,v.oneCell'=true) (hn:n≤1048576) (hB:B<w.heap.size):
    Calls prog 61 #[.slice (some ⟨B,a,none⟩) n c] w fun e w'=> ∃v,e= .returned v∧w'.ownsRow w.heap.size 5 1 v n us∧Below w.heap.size w w':=by
  have hq:=Dr;obtain ⟨i0,hi0,hz0,hz1,hzb⟩:=ybo yQ;have qz:=ycZ (base:=w.heap.size) (e:=5) (size:=1) w #[] 0 (yab _) (by unfold maxLen;omega) rfl;have hr':=iR (w':=w.alloc (.cells #[] 5)) hr (ybU w _ B hB);have hb0:=(yah w.heap.size w).alloc (yab _) (.cells #[] 5);go_enter func61,ntmps61;go_wp2_with (first
    | (at_builtin;go_loud (refine ycj _ rfl _ _ 55 rfl w.heap.size 5 i0 (.int .u8 0) 1 1 underlying55 hi0 hz0 hz1 hzb rfl (by decide) _ _ _ rfl qz ⟨B,a,none⟩ n c us rfl (by rw [hl];simp) (fun j v hv=>by rw [yct];exact hr' j v hv) h1 (by unfold maxLen;omega) (by omega) (by simp) ?_);intro v' w3 hown' hg3 hnil3;go_frame)
    | go_in)
  go_ret;have hown2:w3.ownsRow w.heap.size 5 1 v' n us:=by simpa using hown'
  refine ⟨_,rfl,hown2,hb0.grown hg3 (by simp) (fun j hj=> ?_)⟩;exact (qz.lt j hj).1
set_option maxRecDepth 100000 in
theorem Tryz.zAv (n:Nat) (w:World) (h1:1≤n) (hn:n≤1048576):
  Calls prog 92 #[.slice none 0 0,.int .i64 n] w fun e w'=> ∃cap,e= .returned (.slice (some ⟨w.heap.size,0,none⟩) 0 cap)∧w'.ownsRow w.heap.size 5 1 (.slice (some ⟨w.heap.size,0,none⟩) 0 cap) 0 []∧Below w.heap.size w w':=by
 obtain ⟨i0,hi0,hz0,hz1,hzb⟩:=ybo yQ;have hnc:Builtin.nextslicecap n 0=n:=nextslicecap_zero (by omega);have hb1:t5.bytes=1:=rfl;go_enter func92,ntmps92;go_wp2;refine yaP (results_tmp rfl _ _ _) rfl ?_;have hge:=grownCap_ge w n 0 5;have hle:=grownCap_le_maxLen w n 0 5 (by unfold maxLen;omega);refine ⟨_,rfl,⟨by simp,Or.inr ⟨w.heap.size,grownCap w n 0 5,_,rfl,yab _,ybv w _,yaE _,hle,?_,by simp⟩⟩,((yah _ w).alloc (yab _) _).drew⟩;simp only [yc1,size_zeroCells];show n*1+(grownCap w n 0 5-n)*1=_;omega
def Tryz.row (g:Nat→Int) (a n:Nat):List Value:=(List.range n).map fun j=> .int .u8 (g (a+j))
theorem Tryz.zW (g:Nat→Int) (a n:Nat):(row g a n).length=n:=by simp [row]
theorem Tryz.row_one (g:Nat→Int) (a n:Nat): ∀v∈row g a n,v.oneCell'=true:=fun v hv=>by
 obtain ⟨j,_,rfl⟩:=ya2.1 hv;rfl
theorem Tryz.GM.range {w:World} {P L Bs B N:Nat} {g:Nat→Int} (h:GM w P L Bs B N g) (a n:Nat) (hn:a+n≤N):w.rangeAt B a (row g a n):=by
 intro j v hv;simp only [row,ybb,yb3] at hv;obtain ⟨k,hk,rfl⟩:=hv;rw [yax] at hk;obtain ⟨h1,h2⟩:=hk;simp at h1 h2;subst h2;exact h.full (a+j) (by omega)
set_option maxRecDepth 100000 in
theorem Tryz.zu9 (P L Bs B N:Nat) (g:Nat→Int) (w:World) (st:GM w P L Bs B N g) (h1:1≤N) (hN:N≤1048576):
    Calls prog 67 #[.slice (some ⟨Bs,0,none⟩) 1 2] w fun e w'=> ∃v,e= .returned v∧w'.ownsRow w.heap.size 5 1 v N (row g 0 N)∧Below w.heap.size w w':=by
  obtain ⟨i0,hi0,hz0,hz1,hzb⟩:=ybo yQ;have hgr:=fun w=>zAv N w h1 hN;have c0:=st.b0;go_enter func67,ntmps67;go_wp2;go_loopw [3,11] (fun s i wr=>wr=w∧((i= .int .i64 0∧s= .int .i64 0)∨(i= .int .i64 1∧s= .int .i64 N))) (fun _ i _=>1-(RowKit.intOf i).toNat)
  case atStart=>exact ⟨rfl,Or.inl ⟨rfl,rfl⟩⟩
  case round=>
    obtain ⟨hw,hrel⟩:=hrel;have hw:=hw.symm;subst hw;rcases hrel with ⟨rfl,rfl⟩|⟨rfl,rfl⟩
    · go_wp2;exact ⟨⟨trivial,Or.inr ⟨rfl,rfl⟩⟩,by simp [RowKit.intOf]⟩
    · go_wp2_with (first
        | (go_at_call 92;refine (hgr _).mono ?_;rintro e w1 ⟨aad,rfl,Fp,hb1⟩)
        | go_in)
      go_loopw [6,27] (fun v i w2=>(i= .int .i64 0∧v= .slice (some ⟨w.heap.size,0,none⟩) 0 aad∧w2=w1)∨(i= .int .i64 1∧w2.ownsRow w.heap.size 5 1 v N (row g 0 N)∧Below w.heap.size w w2)) (fun _ i _=>1-(RowKit.intOf i).toNat)
      case atStart=>exact Or.inl ⟨rfl,rfl,rfl⟩
      case round=>
        have c1:=(st.below hb1).b0;have hr1:=(st.below hb1).range 0 N (by omega);have hbl:=st.bl;rcases hrel with ⟨rfl,rfl,rfl⟩|⟨rfl,hrow2,hb2⟩
        · go_wp2_with (first
            | (at_builtin;go_loud (refine ycj _ rfl _ _ 55 rfl w.heap.size 5 i0 (.int .u8 0) 1 1 underlying55 hi0 hz0 hz1 hzb rfl (by decide) _ _ _ rfl Fp ⟨B,0,none⟩ N N (row g 0 N) rfl (by rw [zW];simp) (fun j v hv=>by rw [yct];exact hr1 j v hv) (row_one g 0 N) (by unfold maxLen;omega) (by omega) hb1.size ?_);intro v' w3 hown' hg3 hnil3;go_frame)
            | go_in)
          exact ⟨Or.inr ⟨rfl,by simpa using hown',hb1.grown hg3 hb1.size (fun j hj=>(Fp.lt j hj).1)⟩,by simp [RowKit.intOf]⟩
        · go_wp2;go_ret;exact ⟨_,rfl,hrow2,hb2⟩
set_option maxRecDepth 100000 in
theorem Tryz.zx4 (P L Bs B N:Nat) (g:Nat→Int) (w:World) (st:GM w P L Bs B N g) (h1:1≤N) (hN:N≤1048576):
    Calls prog 24 #[.pointer (some ⟨P,0,none⟩)] w fun e w'=> ∃v,e= .returned v∧w'.ownsRow w.heap.size 5 1 v N (row g 0 N)∧Below w.heap.size w w':=by
  have hm:=yj P L Bs B N g w st;have hc:=zu9 P L Bs B N g w st h1 hN;have c1:=st.p1;go_enter func24,ntmps24;go_wp2_with (first
    | (go_at_call 59;refine hm.mono ?_;rintro e w' ⟨rfl,hw⟩;have hw:=hw.symm;subst hw)
    | (go_at_call 67;refine hc.mono ?_;rintro e w1 ⟨v1,rfl,Fp,hb1⟩)
    | go_in)
  go_ret;exact ⟨_,rfl,Fp,hb1⟩
set_option maxRecDepth 100000 in
theorem Tryz.zCJ (P L Bs B N a n:Nat) (g:Nat→Int) (w:World) (st:GM w P L Bs B N g) (hN:N≤1048576) (hn:1≤n) (hin:a+n≤N):
    Calls prog 17 #[.pointer (some ⟨P,0,none⟩),.int .u64 a,.int .i64 n] w fun e w'=> ∃v,e= .returned (.tuple #[v,.int .i64 0])∧w'.ownsRow w.heap.size 5 1 v n (row g a n)∧Below w.heap.size w w':=by
  have hq:=Dr;have hm:=yj P L Bs B N g w st;have hby:=Dy P L Bs B N a n g w st hN (by omega) hin;have hcl:=fun w1 (h:Below w.heap.size w w1)=>zq8 B a n (N-a) (row g a n) w1 ((st.below h).range a n hin) (zW g a n) (row_one g a n) (by omega) (st.below h).bl;have hwk:IntKind.wrap .u64 (n:Int)=n:=wrap_u64 _ (by omega) (by omega);go_enter func17,ntmps17;go_wp2_with (first
    | (go_at_call 59;refine hm.mono ?_;rintro e w' ⟨rfl,hw⟩;have hw:=hw.symm;subst hw)
    | (go_at_call 60;refine hby.mono ?_;rintro e w1 ⟨rfl,hb1⟩)
    | (go_at_call 61;refine (hcl _ hb1).mono ?_;rintro e w2 ⟨v2,rfl,hrow2,hb2⟩)
    | go_in)
  go_ret2;refine ⟨_,rfl,⟨hrow2.1,?_⟩,hb1.trans (hb2.mono hb1.size)⟩;rcases hrow2.2 with h|⟨g0,cap,cur,h0,h2,h3⟩
  · exact Or.inl h
  · exact Or.inr ⟨g0,cap,cur,h0,yaw hb1.size h2,h3⟩
set_option maxRecDepth 100000 in
theorem Tryz.Hg (P L Bs B N:Nat) (a:Int) (g:Nat→Int) (w:World) (st:GM w P L Bs B N g):
    Calls prog 17 #[.pointer (some ⟨P,0,none⟩),.int .u64 a,.int .i64 0] w fun e w'=>e= .returned (.tuple #[.slice none 0 0,.int .i64 0])∧w'=w:=by
  have hm:=yj P L Bs B N g w st;go_enter func17,ntmps17;go_wp2_with (first
    | (go_at_call 59;refine hm.mono ?_;rintro e w' ⟨rfl,hw⟩;have hw:=hw.symm;subst hw)
    | go_in)
  go_ret2;exact ⟨rfl,rfl⟩
set_option maxRecDepth 100000 in
theorem Tryz.zx7 (P L Bs B N:Nat) (a n:Int) (g:Nat→Int) (w:World) (st:GM w P L Bs B N g) (hN:N≤1048576) (h1:1≤N) (ha0:0≤a) (ha1:a<18446744073709551616) (hn:0≤n):
    Calls prog 179 #[.pointer (some ⟨P,0,none⟩),.int .u64 a,.int .u64 n] w fun e w'=>e= .returned (.bool (decide (1≤n∧a+n≤N)))∧Below w.heap.size w w':=by
  have hm:=yj P L Bs B N g w st;by_cases hin:1≤n∧a+n≤N
  · rw [yaG hin];obtain ⟨a',rfl⟩:=yaT ha0;obtain ⟨n',rfl⟩:=yaT hn;have hby:=Dy P L Bs B N a' n' g w st hN (by omega) (by omega);go_enter func179,ntmps179;go_wp2_with (first
      | (go_at_call 59;refine hm.mono ?_;rintro e w' ⟨rfl,hw⟩;have hw:=hw.symm;subst hw)
      | (go_at_call 60;refine hby.mono ?_;rintro e w1 ⟨rfl,hb1⟩)
      | go_in)
    go_ret;exact ⟨rfl,hb1⟩
  · rw [yar hin];have hby:=zyF P L Bs B N a n g w st hN h1 ha0 ha1 hn hin;go_enter func179,ntmps179;go_wp2_with (first
      | (go_at_call 59;refine hm.mono ?_;rintro e w' ⟨rfl,hw⟩;have hw:=hw.symm;subst hw)
      | (go_at_call 60;refine hby.mono ?_;rintro e w1 ⟨rfl,hb1⟩)
      | go_in)
    go_ret;exact ⟨rfl,hb1⟩
def Tryz.fB (g:Nat→Int) (a:Nat):List Int→Nat→Int
 | [] => g
 | x::r=>fB (fun q=>if q=a then x else g q) (a+1) r
theorem Tryz.OQ: ∀(xs:List Int) (g:Nat→Int) (a j:Nat),fB g a xs j=if a≤j∧j<a+xs.length then xs.getD (j-a) 0 else g j
 | [], g,a,j=>by
  rw [yai (by simp)];rfl
 | x::r,g,a,j=>by
  rw [fB,OQ r];by_cases h:a+1≤j∧j<a+1+r.length
  ·rw [yaj h,yaj (by simp;omega),show j-a=(j-(a+1))+1 by omega,List.getD_cons_succ]
  ·rw [yai h];by_cases h2:j=a
   ·subst h2;rw [yaj rfl,yaj (by simp),yb8,List.getD_cons_zero]
   ·rw [yai h2,yai (by simp;omega)]
theorem Tryz.GM.vN {P L Bs B N:Nat}: ∀(xs:List Int) (a:Nat) (g:Nat→Int) (w:World),GM w P L Bs B N g→a+xs.length≤N→(∀x∈xs,0≤x∧x<256)→GM (w.setCells B a (xs.map (Value.int .u8))) P L Bs B N (fB g a xs)
 | [], _,_,_,h,_,_=>h
 | x::r,a,g,w,h,hl,hb=>by
  rw [yaJ,World.setCells,fB];rw [ya6] at hl;have hx:=hb x (by simp);exact GM.vN r (a+1) _ _ (h.CJ a (by omega) x hx.1 hx.2) (by omega) (fun y hy=>hb y (by simp [hy]))
theorem Tryz.MK (b:Nat): ∀(vs:List Value) (o:Nat) (w:World),w.grownBy (w.setCells b o vs) (some b)
 | [], _,w=>⟨rfl,rfl,rfl,yab _,fun _ _ _=>rfl⟩
 | v::r,o,w=>by
  rw [World.setCells];have h2:=MK b r (o+1) (w.setCell ⟨b,o,none⟩ v);exact ⟨h2.os,h2.tape,h2.output,yaw (by simp) h2.size,fun k hk hne=>(h2.block k (by simpa using hk) hne).trans (yac w _ _ k (fun e=>hne (by rw [e])))⟩
set_option maxRecDepth 100000 in
theorem Tryz.zrl (P L Bs B N a R o c:Nat) (xs:List Int) (g:Nat→Int) (w:World) (st:GM w P L Bs B N g) (hN:N≤1048576) (hn:1≤xs.length) (hin:a+xs.length≤N) (hb: ∀x∈xs,0≤x∧x<256)
    (hr:w.rangeAt R o (xs.map (Value.int .u8))) (hR:R<w.heap.size):
    Calls prog 39 #[.pointer (some ⟨P,0,none⟩),.int .u64 a,.slice (some ⟨R,o,none⟩) xs.length c] w fun e w'=>e= .returned (.int .i64 0)∧GM w' P L Bs B N (fB g a xs)∧Mv (· =B) w w':=by
  have hq:=Dr;have hm:=yj P L Bs B N g w st;have hby:=Dy P L Bs B N a xs.length g w st hN (by omega) hin;have hwk:IntKind.wrap .u64 (xs.length:Int)=xs.length:=wrap_u64 _ (by omega) (by omega);have hcp:=fun w1 (h:Below w.heap.size w w1)=>run_copy_cells (P:=prog) w1 55 55 3 5 B a xs.length (N-a) ⟨R,o,none⟩ xs.length c (xs.map (Value.int .u8)) underlying55 (by kernel_rfl) (by simp) (fun j v hv=>by rw [yct];exact (iR hr (h.block R hR)) j v hv)
    (fun j hj=>by rw [(st.below h).full (a+j) (by simp at hj;omega)];rfl) (fun j hj=>(st.below h).free (a+j) (by simp at hj;omega)) (fun v hv=>by obtain ⟨x,_,rfl⟩:=ya2.1 hv;rfl)
  rw [ybs] at hcp;go_enter func39,ntmps39;go_wp2_with (first
    | (go_at_call 59;refine hm.mono ?_;rintro e w' ⟨rfl,hw⟩;have hw:=hw.symm;subst hw)
    | (go_at_call 60;refine hby.mono ?_;rintro e w1 ⟨rfl,hb1⟩;have hcp1:=hcp _ hb1)
    | go_in)
  go_ret;exact ⟨rfl,(st.below hb1).vN xs a g _ hin hb,(Mv.of_below hb1).grown (MK B _ _ _) (Or.inl rfl)⟩
set_option maxRecDepth 100000 in
theorem Tryz.zyD (R N c:Nat) (w:World) (c0:w.cell? ⟨R,0,none⟩=some (.int .u64 0)) (c1:w.cell? ⟨R,1,none⟩=some (.int .u64 N)) (h1:1≤N) (hN:N≤1048576):
  Calls prog 72 #[.slice (some ⟨R,0,none⟩) 1 c] w fun e w'=>e= .returned (.int .i64 0)∧Below w.heap.size w w':=by
 have hR:=World.block_lt_of_cell? w _ c0;have e1:IntKind.wrap .u64 ((N:Int)-1)=N-1:=wrap_u64 _ (by omega) (by omega);have e2:IntKind.wrap .u64 (1048576-(N:Int))=1048576-N:=wrap_u64 _ (by omega) (by omega);go_enter func72,ntmps72;go_wp2;go_loopw [3,12] (fun r i w2=>(i= .int .i64 0∧r= .int .u64 1048576∧w2=w)∨(i= .int .i64 1∧Below w.heap.size w w2)) (fun _ i _=>1-(RowKit.intOf i).toNat)
 case atStart=>exact Or.inl ⟨rfl,rfl,rfl⟩
 case round=>
  rcases hrel with ⟨rfl,rfl,hw⟩|⟨rfl,hb⟩
  ·have hw:=hw.symm;subst hw;go_wp2;exact ⟨Or.inr ⟨rfl,(yah _ w).alloc (yab _) _⟩,by simp [RowKit.intOf]⟩
  ·go_wp2;go_ret;exact ⟨rfl,hb⟩
theorem Tryz.zDK:(prog.info? 86).map (fun i=>(i.zero,i.size,i.bytes))=some (some (.agg #[.int .u64 0,.int .u64 0]),2,16):=by kernel_rfl
theorem Tryz.zDJ:(prog.info? 55).map (fun i=>(i.zero,i.size,i.bytes))=some (some (.slice none 0 0),1,24):=by kernel_rfl
theorem Tryz.zzx (a:Option Addr) (n c:Nat) (w:World):(binOp .eql 87 (.slice a n c) (.slice none 0 0)).run prog w= .ok (.bool a.isNone) w:=by
 simp only [binOp];simp [ydk w 87 86 _ _ _ underlying87]
theorem Tryz.Zu (w:World) (cs:Array Value) (t:TypeId) (o:Nat):(w.alloc (.cells cs t)).frozen? ⟨w.heap.size,o,none⟩=false:=by
 have e:=ybv w (.cells cs t);simp only [World.frozen?,e];simp
set_option maxRecDepth 100000 in
theorem Tryz.Zy (R N c:Nat) (w:World) (c0:w.cell? ⟨R,0,none⟩=some (.int .u64 0)) (c1:w.cell? ⟨R,1,none⟩=some (.int .u64 N)):
    Calls prog 73 #[.slice (some ⟨R,0,none⟩) 1 c] w fun e w'=> ∃L cap,e= .returned (.slice (some ⟨L,0,none⟩) 1 cap)∧w.heap.size≤L∧w'.cell? ⟨L,0,none⟩=some (.int .u64 0)∧w'.cell? ⟨L,1,none⟩=some (.int .u64 N)∧Below w.heap.size w w':=by
  have hq:=zzx;have hR:=World.block_lt_of_cell? w _ c0;obtain ⟨i0,hi0,hz0,hz1,hzb⟩:=ybo zDK;have qz:=ycZ (base:=w.heap.size) (e:=86) (size:=2) w #[] 0 (yab _) (by unfold maxLen;omega) rfl;have hb0:=(yah w.heap.size w).alloc (yab _) (.cells #[] 86);have hr:(w.alloc (.cells #[] 86)).rangeAt R 0 [.int .u64 0,.int .u64 N]:=by
    refine iR (w:=w) ?_ (ybU w _ R hR);intro j v hv
    match j with
    | 0=>cases hv;exact c0
    | 1=>cases hv;exact c1
    | j+2=>cases hv
  go_enter func73,ntmps73;go_wp2_with (first
    | (at_builtin;go_loud (refine ycj _ rfl _ _ 87 rfl w.heap.size 86 i0 (.agg #[.int .u64 0,.int .u64 0]) 2 16 underlying87 hi0 hz0 hz1 hzb rfl (by decide) _ _ _ rfl qz ⟨R,0,none⟩ 1 c [.int .u64 0,.int .u64 N] rfl rfl (fun j v hv=>by rw [yct];exact hr j v hv) (by simp [Value.oneCell']) (by unfold maxLen;omega) (by omega) (by simp) ?_);intro v' w3 hown' hg3 hnil3;go_frame)
    | go_in)
  go_ret;rcases hown'.2 with ⟨_,h⟩|⟨L,cap,cur,rfl,hL,hblk,h1,h2,h3,h4⟩
  · omega
  · have e0:cur[0]? =some (.int .u64 0):=by
      have:=yaI (fun l:List Value=>l[0]?) h4;simpa using this
    have e1:cur[1]? =some (.int .u64 N):=by
      have:=yaI (fun l:List Value=>l[1]?) h4;simpa using this
    refine ⟨L,⟨cap,rfl⟩,hL,?_,?_,hb0.grown hg3 (by simp) (fun j hj=>(qz.lt j hj).1)⟩
    · rw [yc7 _ L 0 cur _ (0,0) hblk];exact e0
    · rw [yc7 _ L 1 cur _ (0,0) hblk];exact e1
set_option maxRecDepth 100000 in
theorem Tryz.zDB (R N c:Nat) (w:World) (c0:w.cell? ⟨R,0,none⟩=some (.int .u64 0)) (c1:w.cell? ⟨R,1,none⟩=some (.int .u64 N)) (h1:1≤N) (hN:N≤1048576):
    Calls prog 30 #[.slice (some ⟨R,0,none⟩) 1 c] w fun e w'=> ∃P L Bs B,e= .returned (.tuple #[.pointer (some ⟨P,0,none⟩),.int .i64 0])∧GM w' P L Bs B N (fun _=>0)∧Below w.heap.size w w'∧w.heap.size≤P∧w.heap.size≤L∧w.heap.size≤Bs∧w.heap.size≤B:=by
  obtain ⟨i0,hi0,hz0,hz1,hzb⟩:=ybo zDJ;obtain ⟨i1,hi1,hy0,hy1,hyb⟩:=ybo yQ;have hch:=zyD R N c w c0 c1 h1 hN;have hcl:=fun w1 (h:Below w.heap.size w w1)=>Zy R N c w1 ((h.cell (World.block_lt_of_cell? w _ c0)).trans c0) ((h.cell (World.block_lt_of_cell? w _ c1)).trans c1);have hmk:=fun w=>run_makeSlice (P:=prog) w 135 55 i0 (.slice none 0 0) underlying135 hi0 hz0 .i64 .i64 1 2 (by omega) (by omega) (by rw [hz1];decide) (by rw [hzb];decide) (by decide);have hmc:madeCells (Value.slice none 0 0).cells (2*1)= #[.slice none 0 0,.slice none 0 0]:=by kernel_rfl
  simp only [hz1,show (Int.toNat 1)=1 from rfl,show (Int.toNat 2)=2 from rfl,hmc] at hmk;have hw2:IntKind.wrap .i64 2=2:=by decide
  go_enter func30,ntmps30;go_wp2_with (first
    | (go_at_call 72;refine hch.mono ?_;rintro e w1 ⟨rfl,hb1⟩)
    | go_in)
  have d0:=(hb1.cell (World.block_lt_of_cell? w _ c0)).trans c0;have d1:=(hb1.cell (World.block_lt_of_cell? w _ c1)).trans c1;have QI:R<w1.heap.size:=World.block_lt_of_cell? w1 _ d0;go_cut [5] from 13 to 22 (fun p wx=> ∃P L Bs lc,p= .pointer (some ⟨P,0,none⟩)∧wx.cell? ⟨P,0,none⟩=some (.slice (some ⟨L,0,none⟩) 1 lc)∧wx.cell? ⟨P,1,none⟩=some (.slice (some ⟨Bs,0,none⟩) 1 2)∧
    wx.cell? ⟨L,0,none⟩=some (.int .u64 0)∧wx.cell? ⟨L,1,none⟩=some (.int .u64 N)∧wx.cell? ⟨Bs,0,none⟩=some (.slice none 0 0)∧wx.frozen? ⟨Bs,0,none⟩=false∧w.heap.size≤P∧w.heap.size≤L∧w.heap.size≤Bs∧P≠Bs∧L≠Bs∧Below w.heap.size w wx)
  case first=>
    go_region_with (first
      | (go_at_call 73;refine (Zy R N c _ ?_ ?_).mono ?_;exact (by first|exact d0|exact ((yan (a:=⟨R,0,none⟩) (ybU w1.drew _ R QI)).trans d0));exact (by first|exact d1|exact ((yan (a:=⟨R,1,none⟩) (ybU w1.drew _ R QI)).trans d1));rintro e w2 ⟨L,lc,rfl,hL,hl0,hl1,hb2⟩))
    all_goals (go_wp2_with fail;go_meet)
    · have BA:L<w2.heap.size:=World.block_lt_of_cell? _ _ hl0;have hbx:=((yah w2.heap.size w2).alloc (yab _) (.cells #[.slice none 0 0,.slice none 0 0] 55)).alloc (by simp) (.cells #[.slice (some ⟨L,0,none⟩) 1 lc,.slice (some ⟨w2.heap.size,0,none⟩) 1 2] 137);have z:=hb2.size;have z1:=hb1.size;have z2:w1.drew.heap.size=w1.heap.size:=rfl;exact ⟨w2.heap.size+1,L,w2.heap.size,lc,rfl,by simp,by simp,(hbx.cell (p:=⟨L,0,none⟩) BA).trans hl0,(hbx.cell (p:=⟨L,1,none⟩) BA).trans hl1,by simp,((ycC (a:=⟨w2.heap.size,0,none⟩) (ybU _ _ _ (by simp))).trans (Zu w2 _ _ 0)),by omega,by omega,by omega,by omega,by omega,
        (hb1.trans (((yah _ w1).drew.trans hb2).mono hb1.size)).trans (hbx.mono (by omega))⟩
    · have BA:L<w2.heap.size:=World.block_lt_of_cell? _ _ hl0;have hbx:=(yah w2.heap.size w2).alloc (yab _) (.cells #[.slice (some ⟨L,0,none⟩) 1 lc,.slice (some ⟨w1.heap.size,0,none⟩) 1 2] 137);have z:=hb2.size;have z1:=hb1.size;have z2:w1.drew.heap.size=w1.heap.size:=rfl;have z3:(w1.alloc (.cells #[.slice none 0 0,.slice none 0 0] 55)).drew.heap.size=w1.heap.size+1:=by simp
      rw [z3] at z hL hb2;have q0:(w1.alloc (.cells #[.slice none 0 0,.slice none 0 0] 55)).drew.cell? ⟨w1.heap.size,0,none⟩=some (.slice none 0 0):=by simp
      have q1:(w1.alloc (.cells #[.slice none 0 0,.slice none 0 0] 55)).drew.frozen? ⟨w1.heap.size,0,none⟩=false:=Zu w1 _ _ 0;exact ⟨w2.heap.size,L,w1.heap.size,lc,rfl,by simp,by simp,(hbx.cell (p:=⟨L,0,none⟩) BA).trans hl0,(hbx.cell (p:=⟨L,1,none⟩) BA).trans hl1,
        (hbx.cell (p:=⟨w1.heap.size,0,none⟩) (by show w1.heap.size<_;omega)).trans ((hb2.cell (p:=⟨w1.heap.size,0,none⟩) (by show w1.heap.size<_;omega)).trans q0),
        (hbx.frozen (p:=⟨w1.heap.size,0,none⟩) (by show w1.heap.size<_;omega)).trans ((hb2.frozen (p:=⟨w1.heap.size,0,none⟩) (by show w1.heap.size<_;omega)).trans q1),by omega,by omega,by omega,by omega,by omega,
        (hb1.trans ((((yah _ w1).alloc (yab _) _).drew).mono hb1.size)).trans ((hb2.mono (by omega)).trans (hbx.mono (by omega)))⟩
  case rest=>
    obtain ⟨P,L,Bs,lc,rfl,d0,d1,d2,d3,d4,d5,d6,d7,d8,d9,d10,hbx⟩:=hcut;have aaP:=fun w=>run_makeSlice (P:=prog) w 55 5 i1 (.int .u8 0) underlying55 hi1 hy0 .u64 .u64 N N (by omega) (ybW _) (by rw [hy1];omega) (by rw [hyb];omega) (by omega);simp only [hy1,ya0] at aaP;have hR2:R<w.heap.size:=World.block_lt_of_cell? w _ c0;have r0:=(hbx.cell (p:=⟨R,0,none⟩) hR2).trans c0;have r1:=(hbx.cell (p:=⟨R,1,none⟩) hR2).trans c1;have lP:P<wc.heap.size:=World.block_lt_of_cell? wc _ d0;have lL:L<wc.heap.size:=World.block_lt_of_cell? wc _ d2;have lB:Bs<wc.heap.size:=World.block_lt_of_cell? wc _ d4;have hb3:=(yah wc.heap.size wc).alloc (yab _) (.cells #[.int .u64 0,.int .u64 N] 86);have f1:=(hb3.cell (p:=⟨P,1,none⟩) lP).trans d1;have f4:=(hb3.cell (p:=⟨Bs,0,none⟩) lB).trans d4;have f5:=(hb3.frozen (p:=⟨Bs,0,none⟩) lB).trans d5;go_wp2;go_loopw [25] (fun i wr=>(i= .int .i64 0∧wr=wc)∨(i= .int .i64 1∧ ∃B,GM wr P L Bs B N (fun _=>0)∧Below w.heap.size w wr∧w.heap.size≤B)) (fun i _=>1-(RowKit.intOf i).toNat)
    case atStart=>exact Or.inl ⟨rfl,rfl⟩
    case round=>
      rcases hrel with ⟨rfl,hw⟩|⟨rfl,B,st,hb,hB⟩
      · have hw:=hw.symm;subst hw;go_wp2;go_region;go_wp2_with fail;obtain ⟨C,hC⟩: ∃C,madeCells #[Value.int .u8 0] N=C:=⟨_,rfl⟩;have h1C: ∀j,j<N→C[j]? =some (.int .u8 0):=by
          intro j hj;rw [←hC];simp [madeCells,hj,Nat.mod_one]
        rw [hC];obtain ⟨w4,h4⟩: ∃w4,wc.setCell ⟨Bs,0,none⟩ (.slice (some ⟨wc.heap.size+1,0,none⟩) N N)=w4:=⟨_,rfl⟩;have z4:w4.heap.size=wc.heap.size:=by rw [←h4];simp
        have k4: ∀(a:Addr),a.block≠Bs→w4.cell? a=wc.cell? a:=fun a ha=>by rw [←h4];exact ycs wc ⟨Bs,0,none⟩ a _ (fun e=>ha (yaI Addr.block e).symm)
        have b4:w4.cell? ⟨Bs,0,none⟩=some (.slice (some ⟨wc.heap.size+1,0,none⟩) N N):=by rw [←h4];exact ybN _ _ _ (by rw [d4];rfl)
        have v4:Mv (· =Bs) wc w4:=by rw [←h4];exact (Mv.refl _ wc).setCell _ _ _ (Or.inl rfl)
        rw [h4];clear h4;have hb6:=((yah w4.heap.size w4).alloc (yab _) (.cells #[.int .u64 0,.int .u64 N] 86)).alloc (by simp) (.cells C 5);have q6:(((w4.alloc (.cells #[.int .u64 0,.int .u64 N] 86)).alloc (.cells C 5)).drew).heap[wc.heap.size+1]? =some (.cells C 5 (0,0)):=by
          have:=ybv (w4.alloc (.cells #[.int .u64 0,.int .u64 N] 86)) (.cells C 5);rw [show (w4.alloc (.cells #[.int .u64 0,.int .u64 N] 86)).heap.size=wc.heap.size+1 by simp [z4]] at this;exact this
        have hcell: ∀(a:Addr) v,a.block≠Bs→wc.cell? a=some v→(((w4.alloc (.cells #[.int .u64 0,.int .u64 N] 86)).alloc (.cells C 5)).drew).cell? a=some v:=fun a v ha hv=>
          (hb6.cell (p:=a) (by rw [z4];exact World.block_lt_of_cell? wc _ hv)).trans ((k4 a ha).trans hv)
        refine ⟨Or.inr ⟨rfl,wc.heap.size+1,⟨⟨lc,hcell _ _ d9 d0⟩,hcell _ _ d9 d1,hcell _ _ d10 d2,hcell _ _ d10 d3,(hb6.cell (p:=⟨Bs,0,none⟩) (by rw [z4];exact lB)).trans b4,fun j hj=> ?_,fun j hj=> ?_,fun j=>⟨ybW _,by omega⟩,by omega,by omega,by omega,?_⟩,?_,?_⟩,by simp [RowKit.intOf]⟩
        · rw [yc7 _ _ j C _ (0,0) q6];exact h1C j hj
        · simp [World.frozen?,q6]
        · simp [z4]
        · exact hbx.trans ((v4.below (fun k hk=>by rw [hk];exact d8) (hbx.size)).trans ((hb6.mono (by rw [z4];exact hbx.size)).drew))
        · have:=hbx.size;omega
      · go_wp2;go_ret2;exact ⟨P,L,Bs,B,rfl,st,hb,d6,d7,d8,hB⟩
end Go.Proofs
namespace Go.Dw
inductive T (α:Type) where
 | leaf
 | node (l:T α) (v:Option α) (r:T α)
namespace T
variable {α:Type}
noncomputable def get (t:T α):Nat→Option α:=
 T.rec (motive:=fun _=>Nat→Option α) (fun _=>none)
  (fun _ v _ il ir n=>Nat.casesOn n v (fun m=>Nat.casesOn (Nat.mod m 2) (il (Nat.div m 2)) (fun _=>ir (Nat.div m 2)))) t
noncomputable def Cq (v:Option α) (r l:T α):T α:=T.casesOn l (.node .leaf v r) (fun a b c=> .node (.node a b c) v r)
noncomputable def Cr (v:Option α) (l r:T α):T α:=T.casesOn r (.node l v .leaf) (fun a b c=> .node l v (.node a b c))
noncomputable def zCo (ih:T α→Nat→α→T α) (n:Nat) (x:α):T α:=
 Nat.casesOn n (.node .leaf (some x) .leaf)
  (fun m=>Nat.casesOn (Nat.mod m 2) (Cq none .leaf (ih .leaf (Nat.div m 2) x)) (fun _=>Cr none .leaf (ih .leaf (Nat.div m 2) x)))
noncomputable def setNode (ih:T α→Nat→α→T α) (n:Nat) (x:α) (l:T α) (v:Option α) (r:T α):T α:=
 Nat.casesOn n (.node l (some x) r)
  (fun m=>Nat.casesOn (Nat.mod m 2) (Cq v r (ih l (Nat.div m 2) x)) (fun _=>Cr v l (ih r (Nat.div m 2) x)))
noncomputable def nK (f:Nat):T α→Nat→α→T α:=
 Nat.rec (motive:=fun _=>T α→Nat→α→T α) (fun t _ _=>t)
  (fun _ ih t n x=>T.casesOn t (zCo ih n x) (fun l v r=>setNode ih n x l v r)) f
noncomputable def set (t:T α) (n:Nat) (x:α):T α:=nK (Nat.succ n) t n x
end T
structure aO where
 i:Nat
 lo:Nat
 hi:Nat
 fr:Nat
 n:Nat
 sh:Nat
inductive SE where
 | lit (n:Int)
 | var (i:Nat)
 | bin (o:BinOp) (k:IntKind) (a b:SE)
 | wrap (k:IntKind) (a:SE)
 | aQ (l:List aO) (c:Nat)
inductive SB where
 | lit (b:Bool)
 | var (i:Nat)
 | cmp (o:BinOp) (a b:SE)
 | not (a:SB)
 | beq (a b:SB)
 | and (a b:SB)
structure Val where
 i:Nat→Int
 b:Nat→Bool
 v:Nat→Value
def Val.zero:Val:=⟨fun _=>0,fun _=>false,fun _=> .bool false⟩
def mZ (o:BinOp) (k:IntKind) (x y:Int):Int:=
 let a:=BitVec.ofInt k.bits x
 let b:=BitVec.ofInt k.bits y
 match o with
 | .and=>k.wrap (a&&&b).toNat
 | .or=>k.wrap (a|||b).toNat
 | .xor=>k.wrap (a^^^b).toNat
 | _=>k.wrap (a&&& ~~~b).toNat
def jE (o:BinOp) (k:IntKind) (x y:Int):Int:=
 match o with
 | .add=>k.wrap (x+y)
 | .sub=>k.wrap (x-y)
 | .mul=>k.wrap (x*y)
 | .quo=>k.wrap (x.tdiv y)
 | .rem=>x.tmod y
 | .shl=>k.wrap (x*2^(min y.toNat k.bits))
 | .shr=>x.fdiv (2^(min y.toNat k.bits))
 | o=>mZ o k x y
def mG (o:BinOp) (x y:Int):Bool:=
 match o with
 | .eql=>x==y
 | .neq=>x !=y
 | .lss=>x<y
 | .leq=>x≤y
 | .gtr=>x>y
 | _=>x≥y
def aO.den (ρ:Val) (f:aO):Nat:=(((max f.lo (min (ρ.i f.i).toNat f.hi))>>>f.fr)%2^f.n)<<<f.sh
def aN (ρ:Val):List aO→Nat→Nat
 | [], c=>c
 | f::l,c=>f.den ρ|||aN ρ l c
def SE.den (ρ:Val):SE→Int
 | .lit n=>n
 | .var i=>ρ.i i
 | .bin o k a b=>jE o k (a.den ρ) (b.den ρ)
 | .wrap k a=>k.wrap (a.den ρ)
 | .aQ l c=>Int.ofNat (aN ρ l c)
def SB.den (ρ:Val):SB→Bool
 | .lit b=>b
 | .var i=>ρ.b i
 | .cmp o a b=>mG o (a.den ρ) (b.den ρ)
 | .not a=> !(a.den ρ)
 | .beq a b=>a.den ρ==b.den ρ
 | .and a b=>a.den ρ&&b.den ρ
def aO.beq (f g:aO):Bool:=
 match Nat.beq f.i g.i,Nat.beq f.lo g.lo,Nat.beq f.hi g.hi,Nat.beq f.fr g.fr,Nat.beq f.n g.n,Nat.beq f.sh g.sh with
 | true,true,true,true,true,true=>true
 | _,_,_,_,_,_=>false
def IK:List aO→List aO→Bool
 | [], [] => true
 | f::l,g::m=>match f.beq g with|true=>IK l m|false=>false
 | _,_=>false
def SE.beq:SE→SE→Bool
 | .lit a,.lit b=>match a,b with
  | .ofNat x,.ofNat y=>Nat.beq x y
  | .negSucc x,.negSucc y=>Nat.beq x y
  | _,_=>false
 | .var i,.var j=>Nat.beq i j
 | .bin o k a b,.bin o' k' a' b'=>if o=o' then (if k=k' then (match SE.beq a a' with|true=>SE.beq b b'|false=>false) else false) else false
 | .wrap k a,.wrap k' a'=>if k=k' then SE.beq a a' else false
 | .aQ l c,.aQ l' c'=>match IK l l' with|true=>Nat.beq c c'|false=>false
 | _,_=>false
def SB.eqv:SB→SB→Bool
 | .lit a,.lit b=>a==b
 | .var i,.var j=>Nat.beq i j
 | .cmp o a b,.cmp o' a' b'=>if o=o' then (match SE.beq a a' with|true=>SE.beq b b'|false=>false) else false
 | .not a,.not b=>SB.eqv a b
 | .beq a b,.beq a' b'=>match SB.eqv a a' with|true=>SB.eqv b b'|false=>false
 | .and a b,.and a' b'=>match SB.eqv a a' with|true=>SB.eqv b b'|false=>false
 | _,_=>false
def ku:IntKind→Nat
 | .i8=>128| .i16=>32768| .i32=>2147483648| .i64=>9223372036854775808
 | .u8=>256| .u16=>65536| .u32=>4294967296| .u64=>18446744073709551616
def qQ (k:IntKind) (n:Int):Int:=
 match n with
 | .ofNat m=>match Nat.blt m (ku k) with
  | true=> .ofNat m
  | false=>k.wrap n
 | .negSucc m=>match k.signed with
  | true=>match Nat.blt m (ku k) with
   | true=> .negSucc m
   | false=>k.wrap n
  | false=>k.wrap n
def zL:Int→Int→Bool
 | .ofNat a,.ofNat b=>Nat.blt a b
 | .negSucc _,.ofNat _=>true
 | .ofNat _,.negSucc _=>false
 | .negSucc a,.negSucc b=>Nat.blt b a
def nW:Int→Int→Bool
 | .ofNat a,.ofNat b=>Nat.beq a b
 | .negSucc a,.negSucc b=>Nat.beq a b
 | _,_=>false
def JU (o:BinOp) (x y:Int):Bool:=
 match o with
 | .eql=>nW x y
 | .neq=>match nW x y with|true=>false|false=>true
 | .lss=>zL x y
 | .leq=>match zL y x with|true=>false|false=>true
 | .gtr=>zL y x
 | _=>match zL x y with|true=>false|false=>true
def nu.nat (o:BinOp) (a b:Nat):Int:=
 match o with
 | .and=> .ofNat (Nat.land a b)
 | .or=> .ofNat (Nat.lor a b)
 | .xor=> .ofNat (Nat.xor a b)
 | _=> .ofNat (Nat.xor a (Nat.land a b))
def nu (o:BinOp) (k:IntKind) (x y:Int):Int:=
 match x,y with
 | .ofNat a,.ofNat b=>
  match Nat.blt a (ku k),Nat.blt b (ku k) with
  | true,true=>nu.nat o a b
  | _,_=>mZ o k x y
 | _,_=>mZ o k x y
def Tn (k:IntKind) (x:Int) (y:Nat):Int:=
 match x with
 | .ofNat a=> .ofNat (Nat.div a (Nat.pow 2 (match Nat.blt y k.bits with|true=>y|false=>k.bits)))
 | .negSucc _=>x.fdiv (2^(min y k.bits))
def Tm (k:IntKind) (x:Int) (y:Nat):Int:=
 match x with
 | .ofNat a=>qQ k (.ofNat (Nat.mul a (Nat.pow 2 (match Nat.blt y k.bits with|true=>y|false=>k.bits))))
 | .negSucc _=>k.wrap (x*2^(min y k.bits))
def Qd:Int→Int→Int
 | .ofNat a,.ofNat b=> .ofNat (Nat.add a b)
 | x,y=>x+y
def Mf:Int→Int→Int
 | .ofNat a,.ofNat b=>match Nat.ble b a with|true=> .ofNat (Nat.sub a b)|false=> .negSucc (Nat.sub (Nat.sub b a) 1)
 | x,y=>x-y
def Sb:Int→Int→Int
 | .ofNat a,.ofNat b=> .ofNat (Nat.mul a b)
 | x,y=>x*y
def Qm:Int→Int→Int
 | .ofNat a,.ofNat b=> .ofNat (Nat.div a b)
 | x,y=>x.tdiv y
def R9:Int→Int→Int
 | .ofNat a,.ofNat b=> .ofNat (Nat.mod a b)
 | x,y=>x.tmod y
def Cc (o:BinOp) (k:IntKind) (x y:Int):Option Int:=
 match o with
 | .add=>some (qQ k (Qd x y))
 | .sub=>some (qQ k (Mf x y))
 | .mul=>some (qQ k (Sb x y))
 | .quo=>match nW y 0 with|true=>none|false=>some (qQ k (Qm x y))
 | .rem=>match nW y 0 with|true=>none|false=>some (R9 x y)
 | .shl=>match y with| .ofNat n=>some (Tm k x n)|_=>none
 | .shr=>match y with| .ofNat n=>some (Tn k x n)|_=>none
 | .and=>some (nu .and k x y)
 | .or=>some (nu .or k x y)
 | .xor=>some (nu .xor k x y)
 | .andNot=>some (nu .andNot k x y)
 | _=>none
def qb {β:Type} (n:Nat) (k:Nat→β):β:=Nat.casesOn n (k 0) (fun m=>k (Nat.succ m))
def kn:IntKind→Nat
 | .i8=>0| .i16=>1| .i32=>2| .i64=>3| .u8=>4| .u16=>5| .u32=>6| .u64=>7
def dw:IntKind→Nat
 | .i8=>7| .i16=>15| .i32=>31| .i64=>63| .u8=>8| .u16=>16| .u32=>32| .u64=>64
def xS:IntKind→Bool
 | .i8| .i16| .i32| .i64=>true
 | _=>false
def oI (W:Nat):List aO→List aO
 | [] => []
 | f::l=>match Nat.blt f.sh W with
  | false=>oI W l
  | true=>match Nat.ble (Nat.add f.sh f.n) W with
   | true=>f::oI W l
   | false=>⟨f.i,f.lo,f.hi,f.fr,Nat.sub W f.sh,f.sh⟩::oI W l
def qf (m:Nat):List aO→List aO
 | [] => []
 | f::l=>match Nat.ble m f.sh with
  | true=>⟨f.i,f.lo,f.hi,f.fr,f.n,Nat.sub f.sh m⟩::qf m l
  | false=>match Nat.blt m (Nat.add f.sh f.n) with
   | true=>⟨f.i,f.lo,f.hi,Nat.add f.fr (Nat.sub m f.sh),Nat.sub f.n (Nat.sub m f.sh),0⟩::qf m l
   | false=>qf m l
def Et (m:Nat):List aO→List aO
 | [] => []
 | f::l=>⟨f.i,f.lo,f.hi,f.fr,f.n,Nat.add f.sh m⟩::Et m l
def EN (g f:aO):Option aO:=
 match Nat.beq g.i f.i,Nat.beq g.lo f.lo,Nat.beq g.hi f.hi,Nat.beq (Nat.add g.fr g.n) f.fr,Nat.beq (Nat.add g.sh g.n) f.sh with
 | true,true,true,true,true=>some ⟨g.i,g.lo,g.hi,g.fr,Nat.add g.n f.n,g.sh⟩
 | _,_,_,_,_=>none
def wN:List aO→aO→List aO
 | [], f=> [f]
 | g::l,f=>match EN g f with
  | some h=>wN l h
  | none=>match EN f g with
   | some h=>wN l h
   | none=>g::wN l f
def qO (l:List aO):List aO→List aO
 | [] => l
 | f::m=>qO (wN l f) m
def pieces (keep:Nat→Bool) (f:aO):Nat→List aO
 | 0=> []
 | b+1=>match keep (Nat.add f.sh b) with
  | true=>⟨f.i,f.lo,f.hi,Nat.add f.fr b,1,Nat.add f.sh b⟩::pieces keep f b
  | false=>pieces keep f b
def wz (keep:Nat→Bool):List aO→List aO
 | [] => []
 | f::l=>qO (wz keep l) (pieces keep f f.n)
def fits (W:Nat):List aO→Bool
 | [] => true
 | f::l=>match Nat.ble (Nat.add f.sh f.n) W with|true=>fits W l|false=>false
def oK (W:Nat) (l:List aO) (c:Nat):Bool:=match Nat.blt c (Nat.pow 2 W) with|true=>fits W l|false=>false
def FP:SE→Option (List aO×Nat)
 | .lit (.ofNat n)=>some ([],n)
 | .aQ l c=>some (l,c)
 | _=>none
def pK (l:List aO) (c:Nat):SE:=
 match l with
 | [] => qb c fun c=> .lit (.ofNat c)
 | f::l=>qb c fun c=> .aQ (f::l) c
def tL (k:IntKind):Option (Nat×Nat):=match xS k with|true=>none|false=>some (0,Nat.sub (Nat.pow 2 (dw k)) 1)
def bnd (a:SE):Option (Nat×Nat):=
 match a with
 | .lit (.ofNat n)=>some (n,n)
 | .aQ [f] 0=>(match Nat.beq f.fr 0,Nat.beq f.sh 0,Nat.blt (Nat.max f.lo f.hi) (Nat.pow 2 f.n) with
  | true,true,true=>some (f.lo,Nat.max f.lo f.hi)
  | _,_,_=>match oK 64 [f] 0 with|true=>some (0,18446744073709551615)|false=>none)
 | .bin .add k x y=>(match bnd x,bnd y with
  | some (p,q),some (r,s)=>(match Nat.blt (Nat.add q s) (Nat.pow 2 (dw k)) with
   | true=>some (Nat.add p r,Nat.add q s)
   | false=>tL k)
  | _,_=>tL k)
 | .bin .sub k x y=>(match bnd x,bnd y with
  | some (p,q),some (r,s)=>(match Nat.ble s p,Nat.blt q (Nat.pow 2 (dw k)) with
   | true,true=>some (Nat.sub p s,Nat.sub q r)
   | _,_=>(match Nat.blt q r,Nat.ble s (Nat.pow 2 (dw k)),xS k with
    | true,true,false=>some (Nat.sub (Nat.add (Nat.pow 2 (dw k)) p) s,Nat.sub (Nat.add (Nat.pow 2 (dw k)) q) r)
    | _,_,_=>tL k))
  | _,_=>tL k)
 | .bin .mul k x y=>(match bnd x,bnd y with
  | some (p,q),some (r,s)=>(match Nat.blt (Nat.mul q s) (Nat.pow 2 (dw k)) with
   | true=>some (Nat.mul p r,Nat.mul q s)
   | false=>tL k)
  | _,_=>tL k)
 | .bin .rem _ x y=>(match bnd x,bnd y with
  | some (_,q),some (r,s)=>(match Nat.blt 0 r with
   | true=>some (0,Nat.min q (Nat.sub s 1))
   | false=>none)
  | _,_=>none)
 | .wrap k _=>tL k
 | _=>none
def Pw (k:IntKind) (a:SE):SE:=
 match bnd a with
 | some (_,q)=>(match Nat.blt q (Nat.pow 2 (dw k)) with|true=>a|false=> .wrap k a)
 | none=> .wrap k a
def Mi (k:IntKind) (a:SE):SE:=
 match a with
 | .aQ l c=>(match xS k with
  | true=>(match oK (dw k) l c with|true=> .aQ l c|false=> .wrap k (.aQ l c))
  | false=>pK (oI (dw k) l) (Nat.mod c (Nat.pow 2 (dw k))))
 | a=>Pw k a
def L8 (k:IntKind) (a b:SE) (l:List aO) (c:Nat) (l':List aO) (c':Nat):SE:=
 match oK (dw k) l c,oK (dw k) l' c' with
 | true,true=>pK (qO l l') (Nat.lor c c')
 | _,_=> .bin .or k a b
def FK (k:IntKind) (a b:SE) (l:List aO) (c m:Nat):SE:=
 match oK (dw k) l c,Nat.blt m (Nat.pow 2 (dw k)) with
 | true,true=>pK (wz (Nat.testBit m) l) (Nat.land c m)
 | _,_=> .bin .and k a b
def OZ (k:IntKind) (a b:SE) (l:List aO) (c m:Nat):SE:=
 match oK (dw k) l c,Nat.blt m (Nat.pow 2 (dw k)) with
 | true,true=>pK (wz (fun i=>match Nat.testBit m i with|true=>false|false=>true) l) (Nat.xor c (Nat.land c m))
 | _,_=> .bin .andNot k a b
def Mc (k:IntKind) (a b:SE) (l:List aO) (c n:Nat):SE:=
 match Nat.ble n k.bits,xS k with
 | true,false=>pK (oI (dw k) (Et n l)) (Nat.mod (Nat.mul c (Nat.pow 2 n)) (Nat.pow 2 (dw k)))
 | _,_=> .bin .shl k a b
def Md (k:IntKind) (a b:SE) (l:List aO) (c n:Nat):SE:=
 match Nat.ble n k.bits with
 | true=>pK (qf n l) (Nat.div c (Nat.pow 2 n))
 | false=> .bin .shr k a b
def FY (m:Nat):List aO→Bool
 | [] => true
 | f::l=>match Nat.ble m f.sh with|true=>FY m l|false=>false
def width (l:List aO) (c:Nat):Nat:=
 match l with
 | [] => (match c with|0=>0|c+1=>Nat.succ (Nat.log2 (Nat.succ c)))
 | f::l=>Nat.max (Nat.add f.sh f.n) (width l c)
def LY (k:IntKind) (a b:SE) (l:List aO) (c:Nat) (l':List aO) (c':Nat):SE:=
 match oK (dw k) l c,oK (dw k) l' c' with
 | true,true=>(match oK (width l c) l c,FY (width l c) l',Nat.beq (Nat.mod c' (Nat.pow 2 (width l c))) 0 with
  | true,true,true=>pK (qO l l') (Nat.lor c c')
  | _,_,_=> .bin .add k a b)
 | _,_=> .bin .add k a b
def L9 (k:IntKind) (a b:SE) (l:List aO) (c n:Nat):SE:=
 match oK (dw k) l c,Nat.beq n (Nat.pow 2 (Nat.log2 n)) with
 | true,true=>pK (qf (Nat.log2 n) l) (Nat.div c (Nat.pow 2 (Nat.log2 n)))
 | _,_=> .bin .quo k a b
def Ma (k:IntKind) (a b:SE) (l:List aO) (c n:Nat):SE:=
 match Nat.beq n (Nat.pow 2 (Nat.log2 n)) with
 | true=>pK (oI (Nat.log2 n) l) (Nat.mod c (Nat.pow 2 (Nat.log2 n)))
 | false=> .bin .rem k a b
def L6 (o:BinOp) (k:IntKind) (a b:SE) (l:List aO) (c:Nat) (l':List aO) (c':Nat):SE:=
 match l' with
 | [] => (match Nat.beq c' 0,oK (dw k) l c with
  | true,true=>pK l c
  | _,_=> .bin o k a b)
 | _=> .bin o k a b
def jJ (o:BinOp) (k:IntKind) (a b:SE):SE:=
 match FP a,FP b with
 | some (l,c),some (l',c')=>(match o with
  | .or=>L8 k a b l c l' c'
  | .and=>(match l' with
   | [] => FK k a b l c c'
   | _=>(match l with
    | [] => FK k b a l' c' c
    | _=> .bin .and k a b))
  | .andNot=>(match l' with| []=>OZ k a b l c c'|_=> .bin .andNot k a b)
  | .shl=>(match l' with| []=>Mc k a b l c c'|_=> .bin .shl k a b)
  | .shr=>(match l' with| []=>Md k a b l c c'|_=> .bin .shr k a b)
  | .add=>LY k a b l c l' c'
  | .quo=>(match l' with| []=>L9 k a b l c c'|_=> .bin .quo k a b)
  | .rem=>(match l' with| []=>Ma k a b l c c'|_=> .bin .rem k a b)
  | .sub=>L6 .sub k a b l c l' c'
  | o=> .bin o k a b)
 | _,_=> .bin o k a b
def zvJ (o:BinOp):Bool:=
 match o with
 | .neq| .lss| .gtr=>false
 | _=>true
def Mj (o:BinOp) (a b:SE):SB:=
 match bnd a,bnd b with
 | some (p,q),some (r,s)=>(match o with
  | .eql=>(match Nat.blt q r,Nat.blt s p with|false,false=> .cmp .eql a b|_,_=> .lit false)
  | .neq=>(match Nat.blt q r,Nat.blt s p with|false,false=> .cmp .neq a b|_,_=> .lit true)
  | .lss=>(match Nat.blt q r,Nat.ble s p with|true,_=> .lit true|_,true=> .lit false|_,_=> .cmp .lss a b)
  | .gtr=>(match Nat.blt s p,Nat.ble q r with|true,_=> .lit true|_,true=> .lit false|_,_=> .cmp .gtr a b)
  | .leq=>(match Nat.ble q r,Nat.blt s p with|true,_=> .lit true|_,true=> .lit false|_,_=> .cmp .leq a b)
  | .geq=>(match Nat.ble s p,Nat.blt q r with|true,_=> .lit true|_,true=> .lit false|_,_=> .cmp .geq a b)
  | o=> .cmp o a b)
 | _,_=> .cmp o a b
def LZ (o:BinOp) (a b:SE):SB:=
 match SE.beq a b with
 | true=> .lit (zvJ o)
 | false=>Mj o a b
inductive kC where
 | known (c:Nat)
 | upto (skip:Nat)
inductive AV where
 | bool (b:SB)
 | int (k:IntKind) (n:SE)
 | str (s:List Nat)
 | jm
 | ptr (n off:Nat)
 | cO
 | sl (n off len:Nat) (cap:kC)
 | emp
 | oz (n:SE)
 | mV
 | kI
 | map (n:Nat)
 | func (f:FuncId) (first cap:List AV)
 | lT
 | mR
 | iface (t:TypeId) (v:AV)
 | agg (l:List AV)
 | ay (l:List AV)
 | cst (i:Nat) (len:Option SE)
 | opq (n:Nat) (len:Option SE)
 | iM (c:SB) (w:Bool)
 | junk
 | sx (i:Nat) (n:SE) (sz:Nat) (l:List (SE×Nat))
def Jv:List (SE×Nat)→List (SE×Nat)→Bool
 | [], [] => true
 | a::l,b::m=>match SE.beq a.1 b.1,Nat.beq a.2 b.2 with|true,true=>Jv l m|_,_=>false
 | _,_=>false
def Ja:Option SE→Option SE→Bool
 | none,none=>true
 | some a,some b=>SE.beq a b
 | _,_=>false
def kC.beq:kC→kC→Bool
 | .known a,.known b=>Nat.beq a b
 | .upto a,.upto b=>Nat.beq a b
 | _,_=>false
def rW:List Nat→List Nat→Bool
 | [], [] => true
 | a::l,b::m=>match Nat.beq a b with|true=>rW l m|false=>false
 | _,_=>false
mutual
def AV.beq:AV→AV→Bool
 | .bool a,.bool b=>SB.eqv a b
 | .int k n,.int k' n'=>match SE.beq n n' with|true=>(if k=k' then true else false)|false=>false
 | .str a,.str b=>rW a b
 | .jm,.jm=>true
 | .ptr a b,.ptr c d=>match Nat.beq a c with|true=>Nat.beq b d|false=>false
 | .cO,.cO=>true
 | .sl a b c d,.sl a' b' c' d'=>match Nat.beq a a',Nat.beq b b',Nat.beq c c' with|true,true,true=>kC.beq d d'|_,_,_=>false
 | .emp,.emp=>true
 | .oz a,.oz b=>SE.beq a b
 | .mV,.mV=>true
 | .kI,.kI=>true
 | .map a,.map b=>Nat.beq a b
 | .func f l l',.func g m m'=>match Nat.beq f g,AV.o6 l m with|true,true=>AV.o6 l' m'|_,_=>false
 | .lT,.lT=>true
 | .mR,.mR=>true
 | .iface t v,.iface u w=>match Nat.beq t u with|true=>AV.beq v w|false=>false
 | .agg l,.agg m=>AV.o6 l m
 | .ay l,.ay m=>AV.o6 l m
 | .cst i l,.cst i' l'=>match Nat.beq i i' with|true=>Ja l l'|false=>false
 | .opq i l,.opq i' l'=>match Nat.beq i i' with|true=>Ja l l'|false=>false
 | .junk,.junk=>true
 | .sx i n s l,.sx i' n' s' l'=>match Nat.beq i i',SE.beq n n',Nat.beq s s' with|true,true,true=>Jv l l'|_,_,_=>false
 | .iM c w,.iM c' w'=>match SB.eqv c c' with|true=>(match w,w' with|true,true=>true|false,false=>true|_,_=>false)|false=>false
 | _,_=>false
def AV.o6:List AV→List AV→Bool
 | [], [] => true
 | a::l,b::m=>match AV.beq a b with|true=>AV.o6 l m|false=>false
 | _,_=>false
end
def jL:AV:= .ay []
def I9:Value→Option AV
 | .bool b=>some (.bool (.lit b))
 | .int k n=>some (.int k (.lit n))
 | .string s=>some (.str (s.data.toList.map (·.toNat)))
 | .pointer none=>some .jm
 | .slice none 0 0=>some .cO
 | .map none=>some .kI
 | .nilFunc=>some .lT
 | .nilIface=>some .mR
 | _=>none
def AB:List Value→Option (List AV)
 | [] => some []
 | v::l=>match I9 v with
  | none=>none
  | some a=>match AB l with
   | none=>none
   | some m=>some (a::m)
def ofValue (v:Value):Option AV:=
 match v with
 | .agg cs=>match AB cs.toList with|some l=>some (.agg l)|none=>none
 | .tuple vs=>match AB vs.toList with|some l=>some (.ay l)|none=>none
 | v=>I9 v
def AV.cells:AV→List AV
 | .agg l=>l
 | v=> [v]
structure Vec where
 t:T AV
 n:Nat
 d:AV
def Vec.get (v:Vec) (i:Nat):AV:=match v.t.get i with|some x=>x|none=>v.d
def Vec.set (v:Vec) (i:Nat) (x:AV):Vec:=match v with|⟨t,n,d⟩=>match t.set i x with| .leaf=>⟨.leaf,n,d⟩| .node a b c=>⟨.node a b c,n,d⟩
def Vec.list (v:Vec) (i:Nat):Nat→List AV
 | 0=> []
 | n+1=>v.get i::Vec.list v (Nat.succ i) n
def Vec.put (v:Vec) (i:Nat):List AV→Vec
 | [] => v
 | x::l=>Vec.put (v.set i x) (Nat.succ i) l
def Vec.ofList (l:List AV):Vec:=Vec.put ⟨.leaf,l.length,jL⟩ 0 l
structure ME where
 key:AV
 val:AV
 born:Nat
inductive Obj where
 | cells (v:Vec) (bq jY:Nat) (closed:Option Nat) (shared own:Bool)
 | map (es:List ME) (clock:Nat)
 | iter (m:Option Nat) (since:Nat) (seen:List Nat) (stepped:Nat)
 | qF (es:List ME)
 | dB (kn:List (AV×Option AV)) (log:List (AV×Option AV))
 | opq
 | gs (k:Nat)
structure Heap where
 m:T Obj
 nx:Nat
 gw:T Nat
def Heap.alloc (H:Heap) (o:Obj):Heap:=
 match H with
 | ⟨m,nx,gw⟩=>match m.set nx o with
  | .leaf=>⟨.leaf,nx+1,gw⟩
  | .node a b c=>qb (nx+1) fun x=>⟨.node a b c,x,gw⟩
def Heap.upd (H:Heap) (n:Nat) (o:Obj):Heap:=
 match H with
 | ⟨m,nx,gw⟩=>match m.set n o with
  | .leaf=>⟨.leaf,nx,gw⟩
  | .node a b c=>⟨.node a b c,nx,gw⟩
def Heap.wrote (H:Heap) (g:Nat):Heap:=match H with|⟨m,nx,gw⟩=>⟨m,nx,gw.set g nx⟩
def alive (gw:T Nat) (g:Nat) (closed:Option Nat):Bool:=
 match closed with
 | none=>true
 | some t=>match gw.get g with
  | none=>true
  | some w=>Nat.blt w t
def Heap.row (H:Heap) (n:Nat):Option Vec:=
 match H.m.get n with
 | some (.cells v _ g closed _ _)=>match alive H.gw g closed with
  | true=>some v
  | false=>none
 | _=>none
def PE:AV→Bool
 | .agg _=>false
 | .ay _=>false
 | .iM _ _=>false
 | .junk=>false
 | _=>true
def yg:List AV→Bool
 | [] => true
 | a::l=>match PE a with|true=>yg l|false=>false
def Heap.store (H:Heap) (n off:Nat) (l:List AV):Option Heap:=
 match H.m.get n with
 | some (.cells v bq g none sh true)=>
  match Nat.ble (Nat.add off l.length) v.n,yg l with
  | true,true=>match sh with
   | false=>some (H.upd n (.cells (v.put off l) bq g none false true))
   | true=>some ((H.upd n (.cells (v.put off l) bq g none false true)).wrote g)
  | _,_=>none
 | _=>none
def Heap.iD (H:Heap) (n:Nat):Option (List ME×Nat):=
 match H.m.get n with
 | some (.map es c)=>some (es,c)
 | _=>none
def Heap.tC (H:Heap) (n:Nat):Option (List (AV×Option AV)×List (AV×Option AV)):=
 match H.m.get n with
 | some (.dB kn log)=>some (kn,log)
 | _=>none
def Heap.gs (H:Heap):Nat:=
 match H.m.get 0 with
 | some (.gs k)=>k
 | _=>0
end Go.Dw
namespace Go.Dw
inductive Ob where
 | ok
 | bad (n:Nat) (s:String)
 | all (l:List Ob)
 | ite (c:SB) (t e:Ob)
mutual
def Ob.den (ρ:Val):Ob→Prop
 | .ok=>True
 | .bad _ _=>False
 | .all l=>Ob.EK ρ l
 | .ite c t e=>(c.den ρ=true→t.den ρ)∧(c.den ρ=false→e.den ρ)
def Ob.EK (ρ:Val):List Ob→Prop
 | [] => True
 | o::l=>o.den ρ∧Ob.EK ρ l
end
mutual
def Ob.good:Ob→Bool
 | .ok=>true
 | .bad _ _=>false
 | .all l=>Ob.EP l
 | .ite _ t e=>match t.good with|true=>e.good|false=>false
def Ob.EP:List Ob→Bool
 | [] => true
 | o::l=>match o.good with|true=>Ob.EP l|false=>false
end
inductive Ex where
 | normal
 | exit (id:Nat)
 | ret
section
variable (P:Program)
def bM:Nat:=1000000
def bf (env:T AV):Operand→Option AV
 | .tmp t=>match Nat.blt t bM with
  | true=>(match env.get t with|some .junk=>none|some v=>some v|none=>some jL)
  | false=>none
 | .const v=>ofValue v
 | .func f=>some (.func f [] [])
 | .global _=>none
def kY (env:T AV):List Operand→Option (List AV)
 | [] => some []
 | x::l=>match bf env x with
  | none=>none
  | some a=>match kY env l with
   | none=>none
   | some m=>some (a::m)
def iZ (t:TypeId):Option Nat:=match P.info? t with|some i=>some i.size|none=>none
def I6 (t:TypeId):Option Bool:=
 match P.underlying t with
 | some (.struct _)=>some true
 | some (.array _ _)=>some true
 | some _=>some false
 | none=>none
def qP (t:TypeId):Option AV:=
 match P.info? t with
 | some i=>(match i.zero with|some v=>ofValue v|none=>none)
 | none=>none
def yK:Nat→List AV→List AV
 | 0,l=>l
 | _+1,[]=> []
 | n+1,_::l=>yK n l
def takeN:Nat→List AV→Option (List AV)
 | 0,_=>some []
 | _+1,[]=>none
 | n+1,a::l=>match takeN n l with|some m=>some (a::m)|none=>none
def qg (t:TypeId) (cs:List AV) (off:Nat):Option AV:=
 match I6 P t,iZ P t with
 | some true,some n=>match takeN n (yK off cs) with|some l=>some (.agg l)|none=>none
 | some false,_=>match yK off cs with|a::_=>some a| []=>none
 | _,_=>none
def Ev (o:BinOp) (a b:SE):SB:=
 match a,b with
 | .lit x,.lit y=> .lit (JU o x y)
 | a,b=>LZ o a b
def mkNot:SB→SB
 | .lit true=> .lit false
 | .lit false=> .lit true
 | .not b=>b
 | b=> .not b
def Mq (a b:SB):SB:=
 match a,b with
 | .lit true,b=>b
 | .lit false,b=>mkNot b
 | a,.lit true=>a
 | a,.lit false=>mkNot a
 | a,b=> .beq a b
def mkInt (o:BinOp) (k:IntKind) (a b:SE):Option SE:=
 match a,b with
 | .lit x,.lit y=>match Cc o k x y with
  | some (.ofNat m)=>qb m fun m=>some (.lit (.ofNat m))
  | some (.negSucc m)=>qb m fun m=>some (.lit (.negSucc m))
  | none=>none
 | a,.lit y=>match o with
  | .add=>some (jJ .add k a (.lit y))| .sub=>some (jJ .sub k a (.lit y))| .mul=>some (jJ .mul k a (.lit y))
  | .and=>some (jJ .and k a (.lit y))| .or=>some (jJ .or k a (.lit y))| .xor=>some (jJ .xor k a (.lit y))| .andNot=>some (jJ .andNot k a (.lit y))
  | .quo=>match nW y 0 with|true=>none|false=>some (jJ .quo k a (.lit y))
  | .rem=>match nW y 0 with|true=>none|false=>some (jJ .rem k a (.lit y))
  | .shl=>match y with| .ofNat _=>some (jJ .shl k a (.lit y))|_=>none
  | .shr=>match y with| .ofNat _=>some (jJ .shr k a (.lit y))|_=>none
  | _=>none
 | a,b=>match o with
  | .quo=>(match bnd b with|some (q,_)=>(match Nat.blt 0 q with|true=>some (jJ .quo k a b)|false=>none)|none=>none)
  | .rem=>(match bnd b with|some (q,_)=>(match Nat.blt 0 q with|true=>some (jJ .rem k a b)|false=>none)|none=>none)
  | .add=>some (jJ .add k a b)| .sub=>some (jJ .sub k a b)| .mul=>some (jJ .mul k a b)
  | .and=>some (jJ .and k a b)| .or=>some (jJ .or k a b)| .xor=>some (jJ .xor k a b)| .andNot=>some (jJ .andNot k a b)
  | _=>none
def mkWrap (k:IntKind) (a:SE):SE:=
 match a with
 | .lit x=>match qQ k x with
  | .ofNat m=>qb m fun m=> .lit (.ofNat m)
  | .negSucc m=>qb m fun m=> .lit (.negSucc m)
 | a=>Mi k a
def yP:BinOp→Bool
 | .eql| .neq| .lss| .leq| .gtr| .geq=>true
 | _=>false
def D5:BinOp→Bool
 | .shl| .shr=>true
 | _=>false
def uQ (H:Heap) (n m:Nat):Bool:=
 match H.m.get n,H.m.get m with
 | some (.cells _ _ g _ _ true),some (.cells _ _ g' _ _ true)=>
  match Nat.beq g g' with
  | true=>false
  | false=>match H.row n,H.row m with
   | some _,some _=>true
   | _,_=>false
 | _,_=>false
def mkAnd (a b:SB):SB:=
 match a,b with
 | .lit true,b=>b
 | .lit false,_=> .lit false
 | a,.lit true=>a
 | _,.lit false=> .lit false
 | a,b=> .and a b
def eqFields (eq:TypeId→AV→AV→Option SB):List Field→List AV→List AV→Option SB
  | [], _,_=>some (.lit true)
  | fd::l,xs,ys=>
    if fd.name = "_" then eqFields eq l xs ys else
    match qg P fd.type xs fd.offset,qg P fd.type ys fd.offset with
    | some a,some b=>match eq fd.type a b with
      | none=>none
      | some c=>match eqFields eq l xs ys with
        | some d=>some (mkAnd c d)
        | none=>none
    | _,_=>none
def uy (eq:AV→AV→Option SB) (e:TypeId) (s:Nat):Nat→Nat→List AV→List AV→Option SB
 | 0,_,_,_=>some (.lit true)
 | n+1,i,xs,ys=>
  match qg P e xs (i*s),qg P e ys (i*s) with
  | some a,some b=>match eq a b with
   | none=>none
   | some c=>match uy eq e s n (i+1) xs ys with
    | some d=>some (mkAnd c d)
    | none=>none
  | _,_=>none
def jk (H:Heap):Nat→TypeId→AV→AV→Option SB
 | 0,_,_,_=>none
 | f+1,t,x,y=>
  match P.underlying t with
  | some .bool=>match x,y with
   | .bool a,.bool b=>some (Mq a b)
   | _,_=>none
  | some (.int _)=>match x,y with
   | .int k a,.int k' b=>match Nat.beq (kn k) (kn k') with|true=>some (Ev .eql a b)|false=>none
   | _,_=>none
  | some (.pointer e)=>match x,y with
   | .jm,.jm=>some (.lit true)
   | .jm,.ptr _ _=>some (.lit false)
   | .ptr _ _,.jm=>some (.lit false)
   | .ptr n o,.ptr m p=>match iZ P e with
    | some (_+1)=>match Nat.beq n m with
     | true=>some (.lit (Nat.beq o p))
     | false=>match uQ H n m with
      | true=>some (.lit false)
      | false=>none
    | _=>none
   | _,_=>none
  | some (.slice _)=>match x,y with
   | .cO,.cO=>some (.lit true)
   | .cO,.sl _ _ _ _=>some (.lit false)
   | .cO,.emp=>some (.lit false)
   | .sl _ _ _ _,.cO=>some (.lit false)
   | .emp,.cO=>some (.lit false)
   | .cO,.mV=>some (.lit false)
   | .mV,.cO=>some (.lit false)
   | _,_=>none
  | some (.map _ _)=>match x,y with
   | .kI,.kI=>some (.lit true)
   | .kI,.map _=>some (.lit false)
   | .map _,.kI=>some (.lit false)
   | _,_=>none
  | some (.func _ _ _)=>match x,y with
   | .lT,.lT=>some (.lit true)
   | .lT,.func _ _ _=>some (.lit false)
   | .func _ _ _,.lT=>some (.lit false)
   | _,_=>none
  | some (.struct fs)=>match x,y with
   | .agg xs,.agg ys=>match P.stoodInHeld t with
    | true=>none
    | false=>eqFields P (jk H f) fs.toList xs ys
   | _,_=>none
  | some (.array len e)=>match x,y with
   | .agg xs,.agg ys=>match iZ P e with
    | some s=>uy P (jk H f e) e s len 0 xs ys
    | none=>none
   | _,_=>none
  | _=>none
def P5 (o:BinOp) (k k':IntKind) (a b:SE):Option AV:=
 match D5 o with
 | true=>(match mkInt o k a b with|some c=>some (.int k c)|none=>none)
 | false=>match Nat.beq (kn k) (kn k') with
  | true=>(match yP o with
   | true=>some (.bool (Ev o a b))
   | false=>match mkInt o k a b with|some c=>some (.int k c)|none=>none)
  | false=>none
def TW (_:BinOp) (_ _:List Nat):Option AV:=none
def jW (H:Heap) (o:BinOp) (t:TypeId) (x y:AV):Option AV:=
 match o with
 | .eql=>(match jk P H 8 t x y with|some b=>some (.bool b)|none=>none)
 | .neq=>(match jk P H 8 t x y with|some b=>some (.bool (mkNot b))|none=>none)
 | _=>none
def uS (H:Heap) (c:Bool) (o:BinOp) (t:TypeId) (x y:AV):Option AV:=
 match x with
 | .int k a=>(match y with| .int k' b=>P5 o k k' a b|_=>none)
 | .str a=>(match y with| .str b=>TW o a b|_=>none)
 | .mR=>(match c with|true=>jW P H o t .mR y|false=>none)
 | .agg l=>(match P.eqGuardType P.depth t with|true=>none|false=>jW P H o t (.agg l) y)
 | x=>jW P H o t x y
def TB (o:UnOp) (x:AV):Option AV:=
 match o,x with
 | .not,.bool b=>some (.bool (mkNot b))
 | .neg,.int k n=>match mkInt .sub k (.lit 0) n with|some c=>some (.int k c)|none=>none
 | .xor,.int k n=>match mkInt .xor k n (.lit (if k.signed then-1 else k.max)) with|some c=>some (.int k c)|none=>none
 | _,_=>none
def Ph:List Nat→List AV
 | [] => []
 | b::l=> .int .u8 (.lit (.ofNat b))::Ph l
def yG (H:Heap) (sz n:Nat) (x:AV):Option (List AV):=
 match x with
 | .cO=>(match n with|0=>some []|_+1=>none)
 | .emp=>(match n with|0=>some []|_+1=>none)
 | .sl b off len _=>(match Nat.ble n len with
  | false=>none
  | true=>match H.row b with
   | none=>none
   | some v=>match Nat.ble (Nat.add off (Nat.mul n sz)) v.n with
    | true=>some (v.list off (Nat.mul n sz))
    | false=>none)
 | .str s=>(match Nat.beq sz 1 with|true=>takeN n (Ph s)|false=>none)
 | _=>none
def zK (x:AV):Option Nat:=
 match x with
 | .cO=>some 0
 | .emp=>some 0
 | .sl _ _ len _=>some len
 | .str s=>some s.length
 | _=>none
def zyq (_:Heap) (_:TypeId) (_:AV):Option AV:=none
def Vk (H:Heap) (src dst:TypeId) (x:AV):Option AV:=
 match P.underlying src with
 | none=>none
 | some s=>match P.underlying dst with
  | some (.int k)=>(match x with| .int _ n=>some (.int k (mkWrap k n))|_=>none)
  | some .string=>(match s with
   | .slice e=>zyq H e x
   | .string=>(match x with| .str s=>some (.str s)|_=>none)
   | _=>none)
  | _=>none
def nH (env:T AV) (x:Operand):Option Nat:=
 match bf env x with
 | some (.int _ (.lit (.ofNat n)))=>some n
 | _=>none
def og (env:T AV) (x:Option Operand) (d:Nat):Option Nat:=
 match x with
 | none=>some d
 | some x=>nH env x
def wE (t:TypeId):Option Nat:=
 match P.underlying t with
 | some (.slice e)=>iZ P e
 | _=>none
def Bc (t:TypeId):Option (Nat×TypeId×Nat):=
 match P.underlying t with
 | some (.array len e)=>(match iZ P e with|some s=>some (len,e,s)|none=>none)
 | _=>none
def PX (t:TypeId):Bool:=
 match P.underlying t with
 | some .string=>true
 | _=>false
def bounds (env:T AV) (len cap:Nat) (lo hi mx:Option Operand):Option (Nat×Nat×Nat):=
 match mx with
 | some m=>(match nH env m with
  | none=>none
  | some m=>(match Nat.ble m cap with
   | false=>none
   | true=>match hi with
    | none=>none
    | some h=>match nH env h with
     | none=>none
     | some h=>match Nat.ble h m with
      | false=>none
      | true=>match og env lo 0 with
       | none=>none
       | some l=>match Nat.ble l h with
        | true=>some (l,h,m)
        | false=>none))
 | none=>(match og env hi len with
  | none=>none
  | some h=>(match Nat.ble h cap with
   | false=>none
   | true=>match og env lo 0 with
    | none=>none
    | some l=>match Nat.ble l h with
     | true=>some (l,h,cap)
     | false=>none))
def Bl (b off s l h m:Nat):AV:=
 match Nat.beq m l with
 | true=> .sl b off (Nat.sub h l) (.known 0)
 | false=> .sl b (Nat.add off (Nat.mul l s)) (Nat.sub h l) (.known (Nat.sub m l))
def JV (b off s l h len k:Nat):AV:=
 match Nat.beq l 0 with
 | true=> .sl b off h (.upto k)
 | false=>match Nat.blt l len with
  | true=> .sl b (Nat.add off (Nat.mul l s)) (Nat.sub h l) (.upto (Nat.add k l))
  | false=> .emp
def Aw (env:T AV) (c:Nat) (lo hi:Option Operand):Bool:=
 match og env lo 0,hi with
 | some l,some h=>(match bf env h with
  | some (.int _ e)=>(match bnd e with
   | some (p,q)=>(match Nat.ble l p,Nat.ble q c with|true,true=>true|_,_=>false)
   | none=>false)
  | _=>false)
 | _,_=>false
def DF (env:T AV) (s b off len:Nat) (cap:kC) (lo hi mx:Option Operand):Option AV:=
 match cap with
 | .known c=>(match bounds env len c lo hi mx with
  | some (l,h,m)=>some (Bl b off s l h m)
  | none=>(match mx,Aw env c lo hi with
   | none,true=>some .mV
   | _,_=>none))
 | .upto k=>(match bounds env len len lo hi mx with
  | some (l,h,m)=>(match mx with
   | some _=>some (Bl b off s l h m)
   | none=>some (JV b off s l h len k))
  | none=>none)
def AJ (env:T AV) (t:TypeId) (x:AV) (lo hi mx:Option Operand):Option AV:=
 match x with
 | .str s=>(match PX P t,mx with
  | true,none=>(match bounds env s.length s.length lo hi none with
   | some (l,h,_)=>some (.str ((s.drop l).take (Nat.sub h l)))
   | none=>none)
  | _,_=>none)
 | .cO=>(match wE P t,bounds env 0 0 lo hi mx with
  | some _,some _=>some .cO
  | _,_=>none)
 | .emp=>(match wE P t,mx with
  | some _,none=>(match bounds env 0 0 lo hi none with
   | some _=>some .emp
   | none=>none)
  | _,_=>none)
 | .sl b off len cap=>(match wE P t with
  | some s=>DF env s b off len cap lo hi mx
  | none=>none)
 | .ptr b off=>(match Bc P t with
  | some (n,_,s)=>(match bounds env n n lo hi mx with
   | some (l,h,m)=>some (Bl b off s l h m)
   | none=>none)
  | none=>none)
 | _=>none
def D9 (t:TypeId) (f:Nat):Option Field:=
 match P.underlying t with
 | some (.struct fs)=>fs[f]?
 | _=>none
def OX (x y:SE):Option Bool:=
 match x,y with
 | .lit x,.lit y=>some (nW x y)
 | x,y=>match SE.beq x y with
  | true=>some true
  | false=>match bnd x,bnd y with
   | some (p,q),some (r,s)=>(match Nat.blt q r,Nat.blt s p with
    | false,false=>none
    | _,_=>some false)
   | _,_=>none
def F8 (kd:TypeDesc) (a b:AV):Option Bool:=
 match kd with
 | .int _=>(match a,b with
  | .int k x,.int k' y=>(match Nat.beq (kn k) (kn k') with|true=>OX x y|false=>none)
  | _,_=>none)
 | .string=>(match a,b with
  | .str x,.str y=>some (rW x y)
  | _,_=>none)
 | _=>none
def wL (kd:TypeDesc) (k:AV):List ME→Nat→Option (Option (Nat×AV))
 | [], _=>some none
 | e::l,i=>match F8 kd k e.key with
  | some true=>some (some (i,e.val))
  | some false=>wL kd k l (Nat.succ i)
  | none=>none
def mapOf (t:TypeId):Option (TypeDesc×TypeId):=
 match P.underlying t with
 | some (.map kt et)=>(match P.underlying kt with
  | some (.int k)=>some (.int k,et)
  | some .string=>some (.string,et)
  | _=>none)
 | _=>none
def isKey (kd:TypeDesc) (k:AV):Bool:=
 match kd with
 | .int _=>(match k with| .int _ _=>true|_=>false)
 | .string=>(match k with| .str _=>true|_=>false)
 | _=>false
def qY (H:Heap) (m:AV):Option (List ME):=
 match m with
 | .kI=>some []
 | .map n=>(match H.iD n with|some (es,_)=>some es|none=>none)
 | _=>none
def Ms:AV→Bool
 | .ay _=>true
 | _=>false
def rR:List (AV×Option AV)→List (AV×Option AV)
 | [] => []
 | e::l=>match Ms e.1 with|true=>rR l|false=>e::rR l
def A9 (kd:TypeDesc) (k:AV):List (AV×Option AV)→Option (Option AV)
 | [] => none
 | e::l=>match F8 kd k e.1 with
  | some true=>some e.2
  | some false=>A9 kd k l
  | none=>none
def vH (H:Heap) (kd:TypeDesc) (et:TypeId) (m k:AV) (ok:Bool):Option AV:=
 match m with
 | .map n=>(match H.tC n,isKey kd k with
  | some (kn,_),true=>(match A9 kd k (rR kn) with
   | none=>none
   | some (some v)=>some (match ok with|true=> .ay [v,.bool (.lit true)]|false=>v)
   | some none=>match qP P et with
    | none=>none
    | some z=>some (match ok with|true=> .ay [z,.bool (.lit false)]|false=>z))
  | _,_=>none)
 | _=>none
def vG (H:Heap) (t:TypeId) (m k:AV) (ok:Bool):Option AV:=
 match mapOf P t with
 | none=>none
 | some (kd,et)=>match qY H m with
  | none=>vH P H kd et m k ok
  | some es=>match isKey kd k with
   | false=>none
   | true=>match wL kd k es 0 with
    | none=>none
    | some (some (_,v))=>some (match ok with|true=> .ay [v,.bool (.lit true)]|false=>v)
    | some none=>match qP P et with
     | none=>none
     | some z=>some (match ok with|true=> .ay [z,.bool (.lit false)]|false=>z)
def Ct:List AV→Nat→Option AV
 | [], _=>none
 | a::l,n=>match n with|0=>some a|m+1=>Ct l m
abbrev L:=T AV→Heap→Option AV
def iL:L:=fun _ _=>none
def Mr (x:Operand):L:=fun env _=>bf env x
def given (s:SB) (w:Bool) (y:AV):AV:=
 match y with
 | .bool t=>(match SB.eqv t s with|true=> .bool (.lit w)|false=> .bool t)
 | y=>y
def Mt (s x y:SB):SB:=
 match SB.eqv y s with
 | true=>mkAnd s x
 | false=>match SB.eqv x s with
  | true=>mkNot (mkAnd (mkNot s) (mkNot y))
  | false=>mkNot (mkAnd (mkNot (mkAnd s x)) (mkNot (mkAnd (mkNot s) y)))
def Mw (s:SB) (x y:AV):Option AV:=
 match x with
 | .iM c w=>(match SB.eqv c s,w with|true,true=>some (given s false y)|_,_=>none)
 | x=>match y with
  | .iM c w=>(match SB.eqv c s,w with|true,false=>some (given s true x)|_,_=>none)
  | .bool q=>(match x with| .bool p=>some (.bool (Mt s p q))|_=>none)
  | _=>none
def F7 (c a b:Operand):L:=fun env _=>
 match bf env c with
 | some (.bool (.lit true))=>bf env a
 | some (.bool (.lit false))=>bf env b
 | some (.bool s)=>(match bf env a,bf env b with
  | some x,some y=>Mw s x y
  | _,_=>none)
 | _=>none
def Ik (x:Operand) (i:Nat):L:=fun env _=>
 match bf env x with
 | some (.ay l)=>Ct l i
 | _=>none
def G7 (x:Operand):L:=fun env _=>
 match bf env x with
 | some .jm=>none
 | some .mR=>none
 | some .lT=>none
 | some (.cst _ _)=>none
 | some (.opq _ _)=>none
 | some (.iM _ _)=>none
 | some (.sx _ _ _ _)=>none
 | x=>x
def zs8 (t:TypeId) (f:Nat):Option Nat:=
 match D9 P t f with
 | some fd=>match iZ P fd.type with
  | some (_+1)=>some fd.offset
  | _=>none
 | none=>none
def GK (t:TypeId) (x:Operand) (f:Nat):L:=fun env _=>
 match zs8 P t f,bf env x with
 | some o,some (.ptr n off)=>some (.ptr n (Nat.add off o))
 | _,_=>none
def Oo (t:TypeId):Option (Option Nat):=
 match I6 P t,iZ P t with
 | some false,some _=>some none
 | some true,some s=>some (some s)
 | _,_=>none
def loadAt (k:Option (Option Nat)) (v:Vec) (off:Nat):Option AV:=
 match k with
 | some none=>match Nat.blt off v.n with|true=>some (v.get off)|false=>none
 | some (some s)=>match Nat.ble (Nat.add off s) v.n with|true=>some (.agg (v.list off s))|false=>none
 | none=>none
def Ew (t:TypeId) (x:Operand):L:=fun env H=>
 match bf env x with
 | some (.ptr n off)=>match H.row n with
  | some v=>loadAt (Oo P t) v off
  | none=>none
 | _=>none
def vB:Operand→Bool
 | .const _=>true
 | _=>false
def Ej (o:BinOp) (t:TypeId) (x y:Operand) (_:TypeId):L:=fun env H=>
 match bf env x,bf env y with
 | some a,some b=>uS P H (match vB x with|true=>true|false=>vB y) o t a b
 | _,_=>none
def F6 (o:UnOp) (_:TypeId) (x:Operand):L:=fun env _=>
 match bf env x with
 | some a=>TB o a
 | none=>none
def Il (s d:TypeId) (x:Operand):L:=fun env H=>
 match bf env x with
 | some a=>Vk P H s d a
 | none=>none
def Eh (e:SE):List (SE×Nat)→Option Nat
 | [] => none
 | p::l=>match SE.beq p.1 e with|true=>some p.2|false=>Eh e l
def Ij (t:TypeId) (x i:Operand):L:=fun env _=>
 match bf env x,bf env i with
 | some (.sx _ _ sz l),some (.int _ e)=>(match wE P t with
  | some s=>(match Nat.beq s sz with
   | true=>(match Eh e l with
    | some n=>some (.ptr n 0)
    | none=>none)
   | false=>none)
  | none=>none)
 | _,_=>none
def GJ (t:TypeId) (x i:Operand):L:=fun env H=>
 match bf env x,nH env i with
 | some (.sl n off len _),some i=>(match wE P t with
  | some s=>(match Nat.blt i len with
   | true=>some (.ptr n (Nat.add off (Nat.mul i s)))
   | false=>none)
  | none=>none)
 | some (.ptr n off),some i=>(match Bc P t with
  | some (len,_,s)=>(match Nat.blt i len with
   | true=>some (.ptr n (Nat.add off (Nat.mul i s)))
   | false=>none)
  | none=>none)
 | _,_=>Ij P t x i env H
def Jf (t:TypeId) (x i:Operand):L:=fun env _=>
 match bf env x,nH env i with
 | some (.agg cs),some i=>(match Bc P t with
  | some (len,e,s)=>(match Nat.blt i len with
   | true=>qg P e cs (Nat.mul i s)
   | false=>none)
  | none=>none)
 | _,_=>none
def Jg (t:TypeId) (x:Operand) (f:Nat):L:=fun env _=>
 match D9 P t f,bf env x with
 | some fd,some (.agg cs)=>qg P fd.type cs fd.offset
 | _,_=>none
def Je (t:TypeId) (x:Operand) (lo hi mx:Option Operand):L:=fun env _=>
 match bf env x with
 | some a=>AJ P env t a lo hi mx
 | none=>none
def II (t:TypeId) (x:Operand):L:=fun env _=>
 match Bc P t,bf env x with
 | some (n,_,_),some (.sl b off len _)=>(match Nat.ble n len with
  | true=>some (.ptr b off)
  | false=>none)
 | some (n,_,_),some (.sx _ (.lit (.ofNat len)) _ l)=>(match Nat.ble n len,Eh (.lit (.ofNat 0)) l with
  | true,some m=>some (.ptr m 0)
  | _,_=>none)
 | _,_=>none
def G8 (fn:Fn) (first cap:Array Operand):L:=fun env _=>
 match fn with
 | .func f=>match kY env first.toList,kY env cap.toList with
  | some l,some m=>some (.func f l m)
  | _,_=>none
 | _=>none
def DY (t:TypeId) (x i:Operand) (ok:Bool):L:=fun env H=>
 match bf env x,bf env i with
 | some m,some k=>vG P H t m k ok
 | _,_=>none
def tF (n:Nat):Option AV:=qb n fun n=>some (.int .i64 (.lit (.ofNat n)))
def vF (d:Option TypeDesc) (H:Heap) (x:AV):Option AV:=
 match d with
 | some (.slice _)=>(match x with
  | .cO=>tF 0
  | .emp=>tF 0
  | .sl _ _ n _=>tF n
  | .oz n=>some (.int .i64 n)
  | .cst _ (some n)=>some (.int .i64 n)
  | .opq _ (some n)=>some (.int .i64 n)
  | .sx _ n _ _=>some (.int .i64 n)
  | _=>none)
 | some .string=>(match x with
  | .str s=>tF s.length
  | _=>none)
 | some (.array n _)=>tF n
 | some (.map _ _)=>(match x with
  | .kI=>tF 0
  | .map m=>(match H.iD m with
   | some (es,_)=>tF es.length
   | none=>none)
  | _=>none)
 | _=>none
def xO (ts:List TypeId) (xs:List Operand):L:=fun env H=>
 match ts,xs with
 | t::_,[x]=>match bf env x with
  | some a=>vF (P.underlying t) H a
  | none=>none
 | _,_=>none
def uI (c:Call):L:=
 match c.callee with
 | .builtin .len=>xO P c.argTypes.toList c.args.toList
 | _=>iL
def fB:List AV→Nat→List AV→List AV
 | [], _,_=> []
 | c::cs,off,vs=>match off with
  | 0=>(match vs with
   | [] => c::cs
   | v::vs=>v::fB cs 0 vs)
  | o+1=>c::fB cs o vs
def yJ (place:Nat→Option (Nat×Nat)):List AV→List (Nat×AV)→Option (List AV)
 | cells,[]=>some cells
 | cells,p::rest=>match place p.1 with
  | none=>none
  | some (off,size)=>match Nat.beq p.2.cells.length size,Nat.ble (Nat.add off size) cells.length with
   | true,true=>yJ place (fB cells off p.2.cells) rest
   | _,_=>none
def partsOf (env:T AV):List (Nat×Operand)→Option (List (Nat×AV))
 | [] => some []
 | p::l=>match bf env p.2 with
  | none=>none
  | some a=>match partsOf env l with
   | some m=>some ((p.1,a)::m)
   | none=>none
def rM:Nat→List AV→List AV
 | 0,_=> []
 | n+1,l=>l++rM n l
def uniform:List AV→Option AV
 | [] => none
 | a::l=>match go a l with|true=>some a|false=>none
where
 go (a:AV):List AV→Bool
  | [] => true
  | b::l=>match AV.beq b a with|true=>go a l|false=>false
def DN:List Field→Option (List (Nat×Nat))
 | [] => some []
 | f::l=>match iZ P f.type with
  | none=>none
  | some s=>match DN l with
   | some m=>some ((f.offset,s)::m)
   | none=>none
def Cu:List (Nat×Nat)→Nat→Option (Nat×Nat)
 | [], _=>none
 | a::l,n=>match n with|0=>some a|m+1=>Cu l m
def Jt (env:T AV) (t:TypeId) (parts:List (Nat×Operand)):Option AV:=
 match qP P t,partsOf env parts with
 | some z,some ps=>match P.underlying t with
  | some (.struct fs)=>(match DN P fs.toList with
   | some pl=>(match yJ (Cu pl) z.cells ps with|some l=>some (.agg l)|none=>none)
   | none=>none)
  | some (.array _ e)=>(match iZ P e with
   | some s=>(match yJ (fun i=>some (Nat.mul i s,s)) z.cells ps with|some l=>some (.agg l)|none=>none)
   | none=>none)
  | _=>none
 | _,_=>none
def PU (t:TypeId) (parts:Array (Nat×Operand)):L:=fun env _=>Jt P env t parts.toList
def light (o:Op):L:=
 Op.casesOn (motive:=fun _=>L) o Mr Mr F7 (fun _=>iL) (fun _ _=>iL) (PU P) (fun _ _ _=>iL) (fun _ _ _ _=>iL) (Ew P)
  (fun _ _ _=>iL) (fun _=>iL) (fun _=>iL) G7 (Ej P) (F6) (Il P) (II P) (fun _ _=>iL) G8 (fun _ _=>iL) (fun _ _=>iL)
  (fun _ _ _=>iL) (Je P) (GK P) (Jg P) (GJ P) (Jf P) (DY P) (fun _ _ _ _=>iL) (fun _ _ _=>iL) (fun _ _ _ _=>iL)
  (fun _ _=>iL) (fun _ _=>iL) (fun _=>iL) (fun _ _ _ _=>iL) Ik (uI P) (fun _=>iL) (fun _=>iL) (fun _=>iL) (fun _ _=>iL) (fun _ _ _=>iL) (fun _ _=>iL)
def kK (l:List AV) (s nx:Nat):Obj:= .cells (Vec.ofList l) s nx none false true
def Es (t:TypeId) (nx:Nat):Option (AV×Obj):=
 match qP P t,iZ P t with
 | some z,some _=>some (.ptr nx 0,kK z.cells 0 nx)
 | _,_=>none
def yU (t:TypeId) (x:Operand) (env:T AV) (nx:Nat):Option (AV×Obj):=
 match bf env x,iZ P t with
 | some v,some _=>some (.ptr nx 0,kK v.cells 0 nx)
 | _,_=>none
def Aa (t:TypeId) (len:Nat) (parts:Array (Nat×Operand)) (env:T AV) (nx:Nat):Option (AV×Obj):=
 match P.underlying t with
 | some (.slice e)=>(match iZ P e,qP P e,partsOf env parts.toList with
  | some s,some z,some ps=>(match Nat.ble (Nat.mul len s) 16777216,Nat.beq z.cells.length s with
   | true,true=>(match yJ (fun i=>some (Nat.mul i s,s)) (rM len z.cells) ps with
    | some l=>some (.sl nx 0 len (.known len),kK l s nx)
    | none=>none)
   | _,_=>none)
  | _,_,_=>none)
 | _=>none
def Ao (t:TypeId) (r:Option Operand) (env:T AV) (nx:Nat):Option (AV×Obj):=
 match r with
 | none=>some (.map nx,.map [] 0)
 | some r=>(match P.underlying t,nH env r with
  | some (.map _ _),some _=>some (.map nx,.map [] 0)
  | _,_=>none)
def rowOf (z:List AV) (c s:Nat):Option Vec:=
 match uniform z with
 | some u=>some ⟨.leaf,Nat.mul c s,u⟩
 | none=>(match Nat.ble (Nat.mul c s) 100000 with
  | true=>some (Vec.ofList (rM c z))
  | false=>none)
def zY (t:TypeId) (l c:Operand) (env:T AV) (nx:Nat):Option (AV×Obj):=
 match P.underlying t,nH env l,nH env c with
 | some (.slice e),some l,some c=>(match P.info? e,qP P e with
  | some inf,some z=>(match Nat.ble l c,Nat.ble (Nat.mul inf.bytes c) 140737488355328,Nat.blt c 4611686018427387904,Nat.beq z.cells.length inf.size with
   | true,true,true,true=>(match rowOf z.cells c inf.size with
    | some r=>some (.sl nx 0 l (.known c),.cells r inf.size nx none false true)
    | none=>none)
   | _,_,_,_=>none)
  | _,_=>none)
 | _,_,_=>none
abbrev A:=T AV→Nat→Option (AV×Obj)
def JJ:A:=fun _ _=>none
def ng (o:Op):A:=
 match o with
 | .alloc t=>fun _ nx=>Es P t nx
 | .box t x=>yU P t x
 | .buildSlice t len parts=>Aa P t len parts
 | .makeMap t r=>Ao P t r
 | .makeSlice t l c=>zY P t l c
 | _=>JJ
def UL (H:Heap) (t:TypeId) (n off:Nat) (v:AV):Option Heap:=
 match iZ P t with
 | some s=>match Nat.beq v.cells.length s with
  | true=>H.store n off v.cells
  | false=>none
 | none=>none
def Ee (es:List ME) (i:Nat) (e:ME):List ME:=
 match es with
 | [] => []
 | x::l=>match i with|0=>e::l|j+1=>x::Ee l j e
def Aq (es:List ME) (i:Nat):List ME:=
 match es with
 | [] => []
 | x::l=>match i with|0=>l|j+1=>x::Aq l j
def zP:List ME→Nat→Option ME
 | [], _=>none
 | a::l,n=>match n with|0=>some a|m+1=>zP l m
def A8:AV→Bool
 | .int .i64 _=>true
 | _=>false
def O8 (H:Heap) (kd:TypeDesc) (n:Nat) (k v:AV):Option Heap:=
 match kd with
 | .int _=>(match A8 k,H.tC n with
  | true,some (_,log)=>some (H.upd n (.dB [(k,some v)] ((k,some v)::log)))
  | _,_=>none)
 | _=>none
def IA (H:Heap) (t:TypeId) (m k v:AV):Option Heap:=
 match mapOf P t with
 | none=>none
 | some (kd,_)=>match m with
  | .map n=>(match isKey kd k,H.iD n with
   | true,some (es,clock)=>(match wL kd k es 0 with
    | none=>none
    | some (some (i,_))=>(match zP es i with
     | none=>none
     | some e=>match AV.beq e.key k with
      | true=>some (H.upd n (.map (Ee es i ⟨k,v,e.born⟩) clock))
      | false=>none)
    | some none=>some (H.upd n (.map (es++ [⟨k,v,clock⟩]) (Nat.succ clock))))
   | _,_=>O8 H kd n k v)
  | _=>none
def zxL (H:Heap) (kd:TypeDesc) (n:Nat) (k:AV):Option Heap:=
 match kd with
 | .int _=>(match A8 k,H.tC n with
  | true,some (_,log)=>some (H.upd n (.dB [(k,none)] ((k,none)::log)))
  | _,_=>none)
 | _=>none
def O9 (H:Heap) (t:TypeId) (m k:AV):Option Heap:=
 match mapOf P t with
 | none=>none
 | some (kd,_)=>match isKey kd k with
  | false=>none
  | true=>match m with
   | .kI=>some H
   | .map n=>(match H.iD n with
    | none=>zxL H kd n k
    | some (es,clock)=>match wL kd k es 0 with
     | none=>none
     | some (some (i,_))=>some (H.upd n (.map (Aq es i) clock))
     | some none=>some H)
   | _=>none
def G6 (H:Heap) (kd:TypeDesc) (et:TypeId) (n:Nat) (k:AV):Option (AV×Heap):=
 match kd with
 | .int _=>(match A8 k,H.tC n with
  | true,some (kn,log)=>(match A9 kd k (rR kn),qP P et with
   | some none,some z=>some (.ay [z,.opq H.nx none],(H.alloc .opq).upd n (.dB [(k,some z),(.ay [.opq H.nx none,k],none)] ((k,some z)::log)))
   | _,_=>none)
  | _,_=>none)
 | _=>none
def zoG (H:Heap) (t:TypeId) (m k:AV):Option (AV×Heap):=
 match mapOf P t with
 | none=>none
 | some (kd,et)=>match m with
  | .map n=>(match isKey kd k,H.iD n with
   | true,some (es,clock)=>(match wL kd k es 0 with
    | none=>none
    | some (some (i,v))=>(match zP es i with
     | none=>none
     | some e=>match AV.beq e.key k with
      | true=>some (.ay [v,.int .i64 (.lit (.ofNat e.born))],H)
      | false=>none)
    | some none=>match qP P et with
     | none=>none
     | some z=>some (.ay [z,.int .i64 (.lit (.ofNat clock))],H.upd n (.map (es++ [⟨k,z,clock⟩]) (Nat.succ clock))))
   | _,_=>G6 P H kd et n k)
  | _=>none
def IC (b:Nat) (v:AV):List ME→Option (List ME)
 | [] => none
 | e::l=>match Nat.beq e.born b with
  | true=>some (⟨e.key,v,e.born⟩::l)
  | false=>match IC b v l with|some m=>some (e::m)|none=>none
def En (s:AV):List (AV×Option AV)→Option AV
 | [] => none
 | e::l=>match e.1 with
  | .ay [s',k]=>(match AV.beq s' s with|true=>some k|false=>En s l)
  | _=>En s l
def Gt (H:Heap) (n q:Nat) (v:AV):Option Heap:=
 match H.tC n with
 | some (kn,log)=>(match En (.opq q none) kn with
  | some k=>some (H.upd n (.dB [(k,some v)] ((k,some v)::log)))
  | none=>none)
 | none=>none
def Ye (H:Heap) (m s v:AV):Option Heap:=
 match m,s with
 | .map n,.int _ (.lit (.ofNat b))=>match H.iD n with
  | none=>none
  | some (es,clock)=>match IC b v es with
   | some l=>some (H.upd n (.map l clock))
   | none=>none
 | .map n,.opq q none=>Gt H n q v
 | _,_=>none
def Io (t:TypeId):Option (Nat×Nat):=
 match P.underlying t with
 | some (.slice e)=>(match P.info? e,qP P e with
  | some inf,some z=>(match Nat.beq z.cells.length inf.size,inf.size with
   | true,s+1=>some (inf.bytes,s+1)
   | _,_=>none)
  | _,_=>none)
 | _=>none
def yO (t:TypeId):Bool:=
 match P.underlying t with
 | some (.slice _)=>true
 | some .string=>true
 | _=>false
def Ce:AV→Bool
 | .cO=>true
 | .emp=>true
 | .sl _ _ _ _=>true
 | _=>false
def Ir (H:Heap) (bytes sz need:Nat) (l:List AV):Option (AV×Heap):=
 match Nat.ble (Nat.mul need bytes) 35184372088832,Nat.ble (Nat.mul need sz) 35184372088832 with
 | true,true=>(match H with
  | ⟨m,nx,gw⟩=>some (.sl nx 0 need (.upto 0),Heap.alloc ⟨m,nx,gw⟩ (.cells (Vec.ofList l) sz nx none false true)))
 | _,_=>none
def extended (v:Vec) (off n:Nat) (new:List AV):Vec:=
 match Nat.beq off 0 with
 | true=>(match v with|⟨t,m,d⟩=>Vec.put ⟨t,Nat.add m new.length,d⟩ m new)
 | false=>Vec.ofList (v.list off n++new)
def Pm (H:Heap) (bytes sz n:Nat) (new:List AV) (b off len k:Nat):Option (AV×Heap):=
 match H.m.get b with
 | some (.cells v bq g none _ true)=>(match Nat.beq bq sz,Nat.beq off (Nat.mul k sz),yg new with
  | true,true,true=>(match Nat.beq (Nat.add off (Nat.mul len sz)) v.n with
   | true=>(match Nat.ble (Nat.mul (Nat.add len n) bytes) 35184372088832,Nat.ble (Nat.mul (Nat.add len n) sz) 35184372088832 with
    | true,true=>(match H with
     | ⟨m,nx,gw⟩=>some (.sl nx 0 (Nat.add len n) (.upto 0),Heap.alloc (Heap.upd ⟨m,nx,gw⟩ b (.cells v sz g (some (Nat.succ nx)) true true)) (.cells (extended v off (Nat.mul len sz) new) sz g none true true)))
    | _,_=>none)
   | false=>(match Nat.ble (Nat.add off (Nat.mul (Nat.add len n) sz)) v.n with
    | true=>(match H.store b (Nat.add off (Nat.mul len sz)) new with
     | some H'=>some (.sl b off (Nat.add len n) (.upto k),H')
     | none=>none)
    | false=>none))
  | _,_,_=>none)
 | _=>none
def Vn (H:Heap) (bytes sz n:Nat) (new:List AV) (s:AV):Option (AV×Heap):=
 match s with
 | .cO=>Ir H bytes sz n new
 | .sl b off len cap=>(match cap with
  | .known c=>(match Nat.ble (Nat.add len n) c with
   | true=>(match H.store b (Nat.add off (Nat.mul len sz)) new with
    | some H'=>some (.sl b off (Nat.add len n) (.known c),H')
    | none=>none)
   | false=>(match yG H sz len (.sl b off len (.known c)) with
    | some old=>Ir H bytes sz (Nat.add len n) (old++new)
    | none=>none))
  | .upto k=>Pm H bytes sz n new b off len k)
 | _=>none
def Pk (H:Heap) (ts tx:TypeId) (s x:AV):Option (AV×Heap):=
 match Io P ts,yO P tx with
 | some (bytes,sz),true=>(match zK x with
  | none=>none
  | some n=>(match yG H sz n x with
   | none=>none
   | some new=>(match n with
    | 0=>(match Ce s with|true=>some (s,H)|false=>none)
    | m+1=>Vn H bytes sz (Nat.succ m) new s)))
 | _,_=>none
def ztp (H:Heap) (sz c:Nat) (d s:AV):Option (AV×Heap):=
 match c with
 | 0=>(match Ce d with|true=>some (.int .i64 (.lit 0),H)|false=>none)
 | c+1=>(match yG H sz (Nat.succ c) s,d with
  | some l,.sl b off _ _=>(match H.store b off l with
   | some H'=>some (.int .i64 (.lit (.ofNat (Nat.succ c))),H')
   | none=>none)
  | _,_=>none)
def Lr (m n:Nat):Nat:=match Nat.ble m n with|true=>m|false=>n
def Ml (H:Heap) (td:TypeId) (d s:AV):Option (AV×Heap):=
 match wE P td,zK d,zK s with
 | some sz,some n,some m=>ztp H sz (Lr m n) d s
 | _,_,_=>none
end
end Go.Dw
namespace Go.Dw
inductive qR where
 | run (o:Oper)
 | sI (l:List Oper)
inductive Task where
 | code (c:Code) (p:List Nat) (N:Nat) (env:T AV) (H:Heap) (k:Ex→T AV→Heap→Ob)
 | ops (all:Array Oper) (l:List Oper) (N:Nat) (env:T AV) (H:Heap) (k:T AV→Heap→Ob)
 | call (f:FuncId) (args:List AV) (H:Heap) (k:AV→Heap→Ob)
 | app (t:TypeId) (s:AV) (n:Nat) (xs:List AV) (H:Heap) (k:AV→Heap→Ob)
inductive Qa where
 | light|alloc|heavy|EJ
def AQ:List Nat→Bool
 | [] => true
 | n::l=>match l.any (Nat.beq n) with|true=>false|false=>AQ l
def oL (o:Op):Qa:=
 match o with
 | .alloc _| .box _ _| .buildSlice _ _ _| .makeMap _ _| .makeSlice _ _ _=> .alloc
 | .store _ _ _| .mapUpdate _ _ _ _| .insert _ _ _ _| .mapEntry _ _ _| .entryStore _ _ _ _| .range _ _| .next _ _=> .heavy
 | .call c=>match c.callee with
  | .builtin .len| .builtin .cap| .builtin .min| .builtin .max=> .light
  | _=> .heavy
 | .defer _=> .EJ
 | _=> .light
def nN (ms:List Nat):List Edge→Nat
 | [] => 0
 | e::l=>match Region.binds .any e with
  | true=>Nat.lor (Nat.lor (2^e.on) (ms.getD e.on 0)) (nN ms l)
  | false=>nN ms l
def nQ:List Oper→List Nat→List Nat
 | [], ms=>ms
 | o::l,ms=>nQ l (ms++ [nN ms o.after.toList])
def kN (l:List Oper):List Nat:=nQ l []
def jg (o:Oper):Bool:=match oL o.op with| .heavy=>true| .EJ=>true|_=>false
def D7 (o:Oper):Bool:=match oL o.op with| .EJ=>true|_=>false
def D6 (o:Oper):Bool:=match oL o.op with| .light=>true|_=>false
structure PO where
 o:Oper
 i:Nat
 m:Nat
 s:Nat
def lF (m:Nat):List Nat→Nat→Nat→Nat
 | [], _,acc=>acc
 | h::l,t,acc=>match m.testBit h with
  | true=>lF m l (Nat.succ t) (Nat.succ t)
  | false=>lF m l (Nat.succ t) acc
def pX:List Oper→Nat→List Nat
 | [], _=> []
 | o::l,i=>match jg o with
  | true=>i::pX l (Nat.succ i)
  | false=>pX l (Nat.succ i)
def posOf (hs:List Nat):List Oper→List Nat→Nat→List PO
 | o::l,m::ms,i=>⟨o,i,m,lF m hs 0 0⟩::posOf hs l ms (Nat.succ i)
 | _,_,_=> []
def chained (ms:List Nat):List Nat→Bool
 | [] => true
 | h::l=>match l with
  | [] => true
  | h'::_=>match (ms.getD h' 0).testBit h with|true=>chained ms l|false=>false
def Eb:List PO→Bool
 | [] => true
 | p::l=>match p.o.after.toList.all (fun e=>match Region.binds .any e with|true=>Nat.blt e.on p.i|false=>true) with
  | true=>Eb l
  | false=>false
def looks (ops:Array Oper) (o:Oper):List Tmp:=
 o.op.operands.toList.filterMap (fun x=>match x with| .tmp t=>some t|_=>none)++(match o.guard with
  | some (g,_)=>(match ops[g]? with|some q=>(match q.dst with|some t=> [t]|none=> [])|none=> [])
  | none=> [])
def zwd (ops:Array Oper) (all:List PO) (p:PO):Bool:=
 all.all fun q=>match q.o.dst with
  | none=>true
  | some t=>match (looks ops p.o).any (Nat.beq t),p.m.testBit q.i||q.m.testBit p.i with
   | true,false=>false
   | _,_=>match Nat.beq p.i q.i,p.o.dst with
    | false,some u=>(match Nat.beq t u with|true=>false|false=>true)
    | _,_=>true
def yD (s:Nat):List PO→List qR
 | [] => []
 | p::l=>match jg p.o,Nat.beq p.s s with
  | false,true=> .run p.o::yD s l
  | _,_=>yD s l
def vW (s hm:Nat):List PO→List PO
 | [] => []
 | p::l=>match D6 p.o,Nat.ble p.s s,hm.testBit p.i with
  | true,true,false=>p::vW s hm l
  | _,_,_=>vW s hm l
def DL:List PO→List Oper
 | [] => []
 | p::l=>p.o::DL l
def vZ (s hm:Nat) (l:List PO):List Oper:=DL (vW s hm l)
def OD (ops:Array Oper) (all:List PO) (s:Nat) (p:PO):Bool:=
 all.all fun q=>match q.o.dst with
  | none=>true
  | some t=>match (looks ops p.o).any (Nat.beq t),p.m.testBit q.i||Nat.blt s q.s with
   | true,false=>false
   | _,_=>true
def Dl (ops:Array Oper) (all:List PO):Nat→List PO→Bool
 | _,[]=>true
 | s,h::rest=>match (vW s h.m all).all (OD ops all s) with
  | true=>Dl ops all (Nat.succ s) rest
  | false=>false
def vS (all:List PO):Nat→List PO→List qR
 | s,[]=>yD s all
 | s,h::rest=>yD s all++ .run h.o:: .sI (vZ s h.m all)::vS all (Nat.succ s) rest
def Pz (ops:Array Oper):Option (List qR):=
 let ms:=kN ops.toList
 let hs:=pX ops.toList 0
 let all:=posOf hs ops.toList ms 0
 let hp:=all.filter fun p=>jg p.o
 match chained ms hs&&Eb all&&all.all (zwd ops all)&& !(ops.toList.any D7)&&Dl ops all 0 hp with
 | true=>some (vS all 0 hp)
 | false=>none
section
variable (P:Program)
inductive G where
 | yes|no
 | test (t:Nat) (b:SB) (want:Bool)
 | none
def lV (all:Array Oper) (env:T AV) (o:Oper):G:=
 match o.guard with
 | none=> .yes
 | some (j,want)=>match all[j]? with
  | none=> .no
  | some oj=>match oj.dst with
   | none=> .no
   | some t=>match env.get t with
    | none=> .no
    | some (.bool (.lit true))=>(match want with|true=> .yes|false=> .no)
    | some (.bool (.lit false))=>(match want with|true=> .no|false=> .yes)
    | some (.bool b)=> .test t b want
    | some (.ay [])=> .no
    | some (.iM _ _)=> .no
    | _=> .none
def yh (H:Heap) (env:T AV):List ResultVar→Option (List AV)
 | [] => some []
 | .tmp t::l=>match bf env (.tmp t),yh H env l with
  | some v,some m=>some (v::m)
  | _,_=>none
 | .cell a t::l=>match light P (.load t (.tmp a)) env H,yh H env l with
  | some v,some m=>some (v::m)
  | _,_=>none
def OO (fn:Func) (H:Heap) (env:T AV):Option AV:=
 match yh P H env fn.results.toList with
 | some [v]=>some v
 | some l=>some (.ay l)
 | none=>none
def wM:List AV→Nat→T AV→T AV
 | [], _,env=>env
 | a::l,i,env=>wM l (Nat.succ i) (env.set i a)
def zyd (k:AV→Heap→Ob):List (AV×Heap)→Ob
  | [] => .bad 90 "no way"
  | [(v,H)]=>k v H
  | l=> .all (l.map fun x=>k x.1 x.2)
abbrev K:=AV→Heap→Ob
abbrev D:=T AV→Heap→K→Ob
def eX : D := fun _ _ _ => .bad 29 ""
def Fy (k:K):Option Heap→Ob
  | some H=>k jL H
  | none => .bad 3 ""
def Sq (k:K):Option (AV×Heap)→Ob
  | some (v,H)=>k v H
  | none => .bad 4 ""
def Jr (t:TypeId) (a v:Operand):D:=fun env H k=>
  match bf env a,bf env v with
  | some (.ptr n off),some x=>Fy k (UL P H t n off x)
  | _, _ => .bad 5 ""
def Au (t:TypeId) (m kk v:Operand):D:=fun env H k=>
  match bf env m,bf env kk,bf env v with
  | some m,some kk,some v=>Fy k (IA P H t m kk v)
  | _, _, _ => .bad 6 ""
def H6 (t:TypeId) (m kk:Operand):D:=fun env H k=>
  match bf env m,bf env kk with
  | some m,some kk=>Sq k (zoG P H t m kk)
  | _, _ => .bad 9 ""
def Gi (_:TypeId) (m s v:Operand):D:=fun env H k=>
  match bf env m,bf env s,bf env v with
  | some m,some s,some v=>Fy k (Ye H m s v)
  | _, _, _ => .bad 11 ""
def Js (rec:Task→Ob) (f:Operand) (args:List Operand):D:=fun env H k=>
  match bf env f,kY env args with
  | some (.func g first cap),some args=>match first,cap with
    | [], [] => rec (.call g args H k)
    | _,_=>rec (.call g (first++(args++cap)) H k)
  | _, _ => .bad 17 ""
def JM (rec:Task→Ob) (ts tx:TypeId) (rest:List TypeId) (s x:AV) (H:Heap) (k:K):Ob:=
  match rest,Nat.beq tx ts,Io P ts,x with
  | [], true,some (_,sz),.sl b off len _=>(match H.row b with
    | some v=>(match Nat.ble (Nat.add off (Nat.mul len sz)) v.n with
      | true=>rec (.app ts s len (v.list off (Nat.mul len sz)) H k)
      | false => .bad 4 "")
    | none => .bad 4 "")
  | _, _, _, _ => .bad 4 ""
def IV (rec:Task→Ob) (ts:List TypeId) (args:List Operand):D:=fun env H k=>
  match ts,kY env args with
  | ts::tx::rest,some [s,x]=>(match Pk P H ts tx s x with
    | some q=>k q.1 q.2
    | none=>JM P rec ts tx rest s x H k)
  | _, _ => .bad 21 ""
def F4 (ts:List TypeId) (args:List Operand):D:=fun env H k=>
  match ts,kY env args with
  | td::_,some [d,s]=>Sq k (Ml P H td d s)
  | _, _ => .bad 23 ""
def IU (ts:List TypeId) (args:List Operand):D:=fun env H k=>
  match ts,kY env args with
  | t::_,some [m,kk]=>Fy k (O9 P H t m kk)
  | _, _ => .bad 25 ""
def Iq (rec:Task→Ob) (b:Builtin) (c:Call):D:=
 match b with
 | .append=>IV P rec c.argTypes.toList c.args.toList
 | .copy=>F4 P c.argTypes.toList c.args.toList
 | .delete=>IU P c.argTypes.toList c.args.toList
 | _=>eX
def Mk (rec:Task→Ob) (c:Call):D:=
 match c.callee with
 | .value f=>Js rec f c.args.toList
 | .invoke _ _=>eX
 | .builtin b=>Iq P rec b c
def heavy (rec:Task→Ob) (o:Op):D:=
 Op.casesOn (motive:=fun _=>D) o (fun _=>eX) (fun _=>eX) (fun _ _ _=>eX) (fun _=>eX) (fun _ _=>eX) (fun _ _=>eX) (fun _ _ _=>eX) (Au P) (fun _ _=>eX)
  (Jr P) (fun _=>eX) (fun _=>eX) (fun _=>eX) (fun _ _ _ _ _=>eX) (fun _ _ _=>eX) (fun _ _ _=>eX) (fun _ _=>eX) (fun _ _=>eX) (fun _ _ _=>eX) (fun _ _=>eX) (fun _ _=>eX)
  (fun _ _ _=>eX) (fun _ _ _ _ _=>eX) (fun _ _ _=>eX) (fun _ _ _=>eX) (fun _ _ _=>eX) (fun _ _ _=>eX) (fun _ _ _ _=>eX) (Au P) (H6 P) (Gi)
  (fun _ _=>eX) (fun _ _=>eX) (fun _=>eX) (fun _ _ _ _=>eX) (fun _ _=>eX) (Mk P rec) (fun _=>eX) (fun _=>eX) (fun _=>eX) (fun _ _=>eX) (fun _ _ _=>eX) (fun _ _=>eX)
def LA (o:Oper) (H:Heap) (k:K):Option AV→Ob
 | some v=>k v H
 | none=> .bad 1 o.pos
def Lx (o:Oper) (H:Heap) (k:K):Option (AV×Obj)→Ob
 | some (v,ob)=>k v (H.alloc ob)
 | none=> .bad 2 o.pos
abbrev K3:=T AV→AV→Heap→Ob
abbrev D3:=T AV→Heap→K3→Ob
def zDY (_:Task→Ob) (o:Oper):D3:=fun env H k=>LA o H (k env) (light P o.op env H)
def zD0 (_:Task→Ob) (o:Oper):D3:=fun env H k=>match H with|⟨m,nx,gw⟩=>Lx o ⟨m,nx,gw⟩ (k env) (ng P o.op env nx)
def zDZ (rec:Task→Ob) (o:Oper):D3:=fun env H k=>heavy P rec o.op env H (k env)
def O4 (_:Task→Ob) (o:Oper):D3:=fun env H k=>
 match o.op with
 | .defer c=>match c.callee with
  | .value f=>match bf env f,kY env c.args.toList with
   | some (.func g first cap),some args=>k (env.set bM (.ay [.func g [] (first++(args++cap)),match env.get bM with|some v=>v|none=>jL])) jL H
   | _,_=> .bad 60 o.pos
  | _=> .bad 61 o.pos
 | _=> .bad 62 o.pos
def uW (rec:Task→Ob) (o:Oper):D3:=
 Qa.casesOn (motive:=fun _=>(Task→Ob)→Oper→D3) (oL o.op) (zDY P) (zD0 P) (zDZ P) O4 rec o
def nI (dst:Option Tmp) (N:Nat) (env:T AV) (v:AV) (k:T AV→Ob):Ob:=
  match dst with
  | none=>k env
  | some d=>match Nat.blt d N with
    | true=>k (env.set d v)
    | false => .bad 30 ""
def uF (c:SB):List (SB×Bool)→Option Bool
 | [] => none
 | p::l=>match SB.eqv c p.1 with|true=>some p.2|false=>uF c l
def uE (fs:List (SB×Bool)) (all:Array Oper) (env:T AV) (o:Oper):G:=
 match lV all env o with
 | .test t b want=>(match uF b fs with
  | some true=>(match want with|true=> .yes|false=> .no)
  | some false=>(match want with|true=> .no|false=> .yes)
  | none=> .test t b want)
 | g=>g
def MB (all:Array Oper) (env:T AV) (o:Oper):AV:=
 match lV all env o with
 | .test _ b want=> .iM b want
 | _=>jL
def uT (fs:List (SB×Bool)) (all:Array Oper) (env:T AV) (H:Heap):List Oper→Bool
 | [] => true
 | o::l=>match uE fs all env o with
  | .no=>uT fs all env H l
  | .yes=>match light P o.op env H,o.dst with
   | some v,some d=>match env.get d with
    | some u=>match AV.beq v u with|true=>uT fs all env H l|false=>false
    | none=>false
   | some _,none=>uT fs all env H l
   | none,_=>false
  | _=>false
def Eg (rec:Task→Ob) (o:Oper) (N:Nat) (kk:T AV→Heap→Ob) (env:T AV) (H:Heap) (b:Bool) (z:AV):Ob:=
 match b with
 | true=>uW P rec o env H fun env v H=>nI o.dst N env v fun env'=>kk env' H
 | false=>nI o.dst N env z fun env'=>kk env' H
def gU (rec:Task→Ob) (all:Array Oper) (N:Nat) (k:T AV→Heap→Ob):List qR→List (SB×Bool)→T AV→Heap→Ob
  | [], _,env,H=>k env H
  | .run o::rest,fs,env,H=>(match uE fs all env o with
    | .yes=>Eg P rec o N (gU rec all N k rest fs) env H true jL
    | .no=>Eg P rec o N (gU rec all N k rest fs) env H false (MB all env o)
    | .test _ b want=> .ite b (Eg P rec o N (gU rec all N k rest ((b,true)::fs)) env H want (.iM b want)) (Eg P rec o N (gU rec all N k rest ((b,false)::fs)) env H (match want with|true=>false|false=>true) (.iM b want))
    | .none=> .bad 47 o.pos)
  | .sI os::rest,fs,env,H=>(match uT P fs all env H os with
    | true=>gU rec all N k rest fs env H
    | false => .bad 48 (match os with | o :: _ => o.pos | [] => ""))
abbrev KC:=Ex→T AV→Heap→Ob
abbrev SC:=(Task→Ob)→List Nat→Nat→T AV→Heap→KC→Ob
def FL : SC := fun _ _ _ _ _ _ => .bad 43 "a statement"
def Ve:SC:=fun _ _ _ env H k=>k .normal env H
def OY (_:Nat) (ops:Array Oper) (draw:Bool):SC:=fun rec _ N env H k=>
  match draw with
  | false=>rec (.ops ops ops.toList N env H (k .normal))
  | true=>match Pz ops with
    | some l=>gU P rec ops N (k .normal) l [] env H
    | none => .bad 40 "a region without a plan"
def Jy (rec:Task→Ob) (b:Code) (p:List Nat) (N:Nat) (k:KC):KC:=fun e env H=>
 Ex.casesOn e (rec (.code b p N env H k)) (fun id=>k (.exit id) env H) (k .ret env H)
def Tf (a b:Code):SC:=fun rec p N env H k=>rec (.code a (0::p) N env H (Jy rec b (1::p) N k))
def Vg (c:Operand) (a b:Code):SC:=fun rec p N env H k=>
  match bf env c with
  | some (.bool s)=>match s with
    | .lit true=>rec (.code a (0::p) N env H k)
    | .lit false=>rec (.code b (1::p) N env H k)
    | s=>match c with
      | .tmp t=>match Nat.blt t N with
        | true=> .ite s (rec (.code a (0::p) N (env.set t (.bool (.lit true))) H k)) (rec (.code b (1::p) N (env.set t (.bool (.lit false))) H k))
        | false => .bad 41 ""
      | _ => .bad 41 ""
  | _ => .bad 42 "a test"
def TV (id:Nat) (k:KC):KC:=fun e env H=>
 match e with
 | .exit id'=>match Nat.beq id' id with
  | true=>k .normal env H
  | false=>k (.exit id') env H
 | e=>k e env H
def zEI (id:Nat) (c:Code):SC:=fun rec p N env H k=>rec (.code c (0::p) N env H (TV id k))
abbrev EF:=List (SB×Ex×T AV×Heap)
abbrev oQ:=List Nat→Nat→T AV→Heap→Option EF
def Sj:oQ:=fun _ _ _ _=>none
abbrev uK:=TypeId→AV→Nat→List AV→Heap→Option (AV×Heap)
def Si:uK:=fun _ _ _ _ _=>none
def EB (k:KC):EF→Ob
  | [] => .bad 91 "no end"
  | (b,x,env,H)::l=>match b with
    | .lit true=>k x env H
    | b=> .ite b (k x env H) (EB k l)
def Ak:List Nat→List Nat
 | 2::i::q=>i::q
 | p=>p
def JB (iW:oQ) (c:Code):SC:=fun rec p N env H k=>
 match iW p N env H with
 | some l=>EB k l
 | none=>rec (.code c (0::Ak p) N env H (Jy rec (.loop c) (2::Ak p) N k))
def Vf (iW:oQ) (a b:Code):SC:=fun rec p N env H k=>
 match iW p N env H with
 | some l=>EB k l
 | none=>Tf a b rec p N env H k
def zFK (id:Nat):SC:=fun _ _ _ env H k=>k (.exit id) env H
def zEG (_:Nat):SC:=Ve
def abC:SC:=fun _ _ _ env H k=>k .ret env H
def Ou (iW:oQ) (rec:Task→Ob) (c:Code) (p:List Nat) (N:Nat) (env:T AV) (H:Heap) (k:KC):Ob:=
 Code.casesOn (motive:=fun _=>SC) c Ve (OY P) (Vf iW) Vg zEI (JB iW) (fun _ _ _ _=>FL) zFK (fun _=>FL) zEG (fun _=>FL) abC (fun _=>FL) rec p N env H k
def abk (rec:Task→Ob) (all:Array Oper) (rest:List Oper) (N:Nat) (k:T AV→Heap→Ob) (o:Oper):K3:=fun env v H=>
 nI o.dst N env v fun env'=>rec (.ops all rest N env' H k)
def OU (rec:Task→Ob) (all:Array Oper) (l:List Oper) (N:Nat) (env:T AV) (H:Heap) (k:T AV→Heap→Ob):Ob:=
  match l with
  | [] => k env H
  | o::rest=>match lV all env o with
    | .yes=>uW P rec o env H (abk rec all rest N k o)
    | .no=>nI o.dst N env jL fun env'=>rec (.ops all rest N env' H k)
    | .test t b _=>match Nat.blt t N with
      | true=> .ite b (rec (.ops all l N (env.set t (.bool (.lit true))) H k)) (rec (.ops all l N (env.set t (.bool (.lit false))) H k))
      | false => .bad 44 ""
    | .none=> .bad 45 o.pos
def AO (f:FuncId):Option (Func×Code):=
  match P.funcs[f]? with
  | none=>none
  | some fn=>match fn.body with
    | none=>none
    | some c => if fn.name = "runtime.NumGoroutine" then none else some (fn, c)
def leave (fn:Func) (env:T AV) (k:K):Heap→Ob:=fun H=>
 match OO P fn H env with
 | some v=>k v H
 | none=> .bad 54 fn.name
def zFy (fn:Func) (k:K):KC:=fun e env H=>
 match e with
 | .exit _=> .bad 56 fn.name
 | _=>match env.get bM with
  | none=>leave P fn env k H
  | some _=> .bad 57 fn.name
def Ab (rec:Task→Ob) (fin:Heap→Ob):Nat→AV→Heap→Ob
  | 0, _, _ => .bad 70 ""
  | n+1,d,H=>match d with
    | .ay []=>fin H
    | .ay [.func g [] args,rest]=>(match AO P g with
      | none => .bad 72 ""
      | some (fn,c)=>(match Nat.ble args.length fn.ntmps&&Nat.ble fn.ntmps bM with
        | true=>rec (.code c [g] fn.ntmps (wM args 0 .leaf) H (zFy P fn fun _ H'=>Ab rec fin n rest H'))
        | false=> .bad 73 fn.name))
    | _ => .bad 71 ""
def zFS (rec:Task→Ob) (fn:Func) (k:K):KC:=fun e env H=>
 match e with
 | .exit _=> .bad 53 fn.name
 | _=>match env.get bM with
  | none=>leave P fn env k H
  | some d=>Ab P rec (leave P fn env k) 8 d H
def Ov (gD:FuncId→List AV→Heap→Option (List (AV×Heap))) (rec:Task→Ob) (f:FuncId) (args:List AV) (H:Heap) (k:K):Ob:=
  match gD f args H with
  | some l=>zyd k l
  | none=>match AO P f with
    | none => .bad 50 ""
    | some (fn,c)=>match Nat.ble args.length fn.ntmps&&Nat.ble fn.ntmps bM with
      | true=>rec (.code c [f] fn.ntmps (wM args 0 .leaf) H (zFS P rec fn k))
      | false=> .bad 55 fn.name
def OV (mI:uK) (t:TypeId) (s:AV) (n:Nat) (xs:List AV) (H:Heap) (k:K):Ob:=
  match mI t s n xs H with
  | some q=>k q.1 q.2
  | none => .bad 4 "append"
def step (gD:FuncId→List AV→Heap→Option (List (AV×Heap))) (iW:oQ) (mI:uK) (rec:Task→Ob) (t:Task):Ob:=
 Task.casesOn (motive:=fun _=>Ob) t (Ou P iW rec) (OU P rec) (Ov P gD rec) (OV mI)
noncomputable def fG (gD:FuncId→List AV→Heap→Option (List (AV×Heap))) (iW:oQ) (mI:uK) (n:Nat):Task→Ob:=
  Nat.rec (motive := fun _ => Task → Ob) (fun _ => .bad 0 "no fuel") (fun _ ih => step P gD iW mI ih) n
noncomputable def ev (gD:FuncId→List AV→Heap→Option (List (AV×Heap))) (n:Nat):Task→Ob:=fG P gD Sj Si n
def au (i:Nat):Code→Code
 | .seq a b=>(match i with|0=>a|1=>b|_=> .skip)
 | .cond _ a b=>(match i with|0=>a|1=>b|_=> .skip)
 | .block _ c=>(match i with|0=>c|_=> .skip)
 | .loop c=>(match i with|0=>c|2=> .loop c|_=> .skip)
 | _=> .skip
def bJ:List Nat→Code
 | [] => .skip
 | i::p=>match p with
  | [] => (match AO P i with|some (_,c)=>c|none=> .skip)
  | _::_=>au i (bJ p)
def nX:Heap:=⟨.leaf,1,.leaf⟩
def isTrue (v:AV) (_:Heap):Ob:=
  match v with
  | .bool (.lit true)=> .ok
  | .bool (.lit false) => .bad 99 "false"
  | .bool b => .ite b .ok (.bad 98 "false")
  | _ => .bad 97 "no bool"
def Ba:FuncId→List AV→Heap→Option (List (AV×Heap)):=fun _ _ _=>none
end
end Go.Dw
namespace Go.Dw
namespace T
variable {α:Type}
theorem tY (n:Nat):(leaf:T α).get n=none:=rfl
theorem Al (l:T α) (v:Option α) (r:T α):(node l v r).get 0=v:=rfl
theorem tX (l:T α) (v:Option α) (r:T α) (m:Nat):
  (node l v r).get (m+1)=if m%2=0 then l.get (m/2) else r.get (m/2):=by
 show Nat.casesOn (motive:=fun _=>Option α) (Nat.mod m 2) (l.get (Nat.div m 2)) (fun _=>r.get (Nat.div m 2))=_;have h:Nat.mod m 2=m%2:=rfl;have h2:Nat.div m 2=m/2:=rfl;rw [h,h2];cases e:m%2 with
 | zero=>rw [yaj rfl];rfl
 | succ k=>rw [yai (by omega)]
theorem Uw (v:Option α) (r l:T α):Cq v r l=node l v r:=by cases l<;>rfl
theorem Uv (v:Option α) (l r:T α):Cr v l r=node l v r:=by cases r<;>rfl
theorem zjN (f:Nat) (x:α):nK (f+1) leaf 0 x=node leaf (some x) leaf:=rfl
theorem zjL (f:Nat) (l:T α) (v:Option α) (r:T α) (x:α):nK (f+1) (node l v r) 0 x=node l (some x) r:=rfl
theorem zjO (f m:Nat) (x:α):nK (f+1) (leaf:T α) (m+1) x=
  if m%2=0 then node (nK f leaf (m/2) x) none leaf else node leaf none (nK f leaf (m/2) x):=by
 show Nat.casesOn (motive:=fun _=>T α) (Nat.mod m 2) (Cq none leaf (nK f leaf (Nat.div m 2) x)) (fun _=>Cr none leaf (nK f leaf (Nat.div m 2) x))=_;have h:Nat.mod m 2=m%2:=rfl;have h2:Nat.div m 2=m/2:=rfl;rw [h,h2];cases e:m%2 with
 | zero=>rw [yaj rfl];exact Uw _ _ _
 | succ k=>rw [yai (by omega)];exact Uv _ _ _
theorem zjM (f m:Nat) (l:T α) (v:Option α) (r:T α) (x:α):nK (f+1) (node l v r) (m+1) x=
  if m%2=0 then node (nK f l (m/2) x) v r else node l v (nK f r (m/2) x):=by
 show Nat.casesOn (motive:=fun _=>T α) (Nat.mod m 2) (Cq v r (nK f l (Nat.div m 2) x)) (fun _=>Cr v l (nK f r (Nat.div m 2) x))=_;have h:Nat.mod m 2=m%2:=rfl;have h2:Nat.div m 2=m/2:=rfl;rw [h,h2];cases e:m%2 with
 | zero=>rw [yaj rfl];exact Uw _ _ _
 | succ k=>rw [yai (by omega)];exact Uv _ _ _
theorem zAw: ∀(f:Nat) (t:T α) (n m:Nat) (x:α),n<f→(nK f t n x).get m=if m=n then some x else t.get m:=by
 intro f
 induction f with
 | zero=>intro t n m x h;omega
 | succ f ih=>
  intro t n m x h;cases n with
  | zero=>
   cases t with
   | leaf=>
    rw [zjN];cases m with
    | zero=>rfl
    | succ m=>rw [tX];simp [tY]
   | node l v r=>
    rw [zjL];cases m with
    | zero=>rfl
    | succ m=>rw [tX,tX];simp
  | succ n=>
   have hn:n/2<f:=by omega
   cases t with
   | leaf=>
    rw [zjO];by_cases hp:n%2=0
    ·rw [yaj hp];cases m with
     | zero=>rw [Al];simp [tY]
     | succ m=>
      rw [tX,tY,tY,ih _ _ _ _ hn,tY];by_cases hm:m%2=0
      ·rw [yaj hm];by_cases e:m/2=n/2
       ·rw [yaj e,yaj (by omega)]
       ·rw [yai e,yai (by omega)]
      ·rw [yai hm,yai (by omega)]
    ·rw [yai hp];cases m with
     | zero=>rw [Al];simp [tY]
     | succ m=>
      rw [tX,tY,tY,ih _ _ _ _ hn,tY];by_cases hm:m%2=0
      ·rw [yaj hm,yai (by omega)]
      ·rw [yai hm];by_cases e:m/2=n/2
       ·rw [yaj e,yaj (by omega)]
       ·rw [yai e,yai (by omega)]
   | node l v r=>
    rw [zjM];by_cases hp:n%2=0
    ·rw [yaj hp];cases m with
     | zero=>rw [Al,Al];simp
     | succ m=>
      rw [tX,tX,ih _ _ _ _ hn];by_cases hm:m%2=0
      ·rw [yaj hm,yaj hm];by_cases e:m/2=n/2
       ·rw [yaj e,yaj (by omega)]
       ·rw [yai e,yai (by omega)]
      ·rw [yai hm,yai hm,yai (by omega)]
    ·rw [yai hp];cases m with
     | zero=>rw [Al,Al];simp
     | succ m=>
      rw [tX,tX,ih _ _ _ _ hn];by_cases hm:m%2=0
      ·rw [yaj hm,yaj hm,yai (by omega)]
      ·rw [yai hm,yai hm];by_cases e:m/2=n/2
       ·rw [yaj e,yaj (by omega)]
       ·rw [yai e,yai (by omega)]
theorem lI (t:T α) (n m:Nat) (x:α):(t.set n x).get m=if m=n then some x else t.get m:=zAw _ _ _ _ _ (ydt n)
theorem get_set_same (t:T α) (n:Nat) (x:α):(t.set n x).get n=some x:=by rw [lI,yaj rfl]
theorem jl (t:T α) {n m:Nat} (x:α) (h:m≠n):(t.set n x).get m=t.get m:=by rw [lI,yai h]
end T
theorem tZ {β:Type} (n:Nat) (k:Nat→β):qb n k=k n:=by cases n<;>rfl
theorem Vec.get_eq (v:Vec) (i:Nat):v.get i=(v.t.get i).getD v.d:=by
 unfold Vec.get;cases v.t.get i<;>rfl
theorem Vec.Tk (v:Vec) (i:Nat) (x:AV):v.set i x=⟨v.t.set i x,v.n,v.d⟩:=by
 obtain ⟨t,n,d⟩:=v;show (match t.set i x with| .leaf=>(⟨.leaf,n,d⟩:Vec)| .node a b c=>⟨.node a b c,n,d⟩)=_;cases t.set i x<;>rfl
theorem Vec.lI (v:Vec) (i j:Nat) (x:AV):(v.set i x).get j=if j=i then x else v.get j:=by
 rw [Vec.Tk,Vec.get_eq,Vec.get_eq,T.lI];by_cases h:j=i<;>simp [h]
theorem Vec.abf (v:Vec) (i:Nat) (x:AV):(v.set i x).n=v.n:=by rw [Vec.Tk]
theorem Vec.zO: ∀(l:List AV) (v:Vec) (i:Nat),(v.put i l).n=v.n
 | [], _,_=>rfl
 | x::l,v,i=>by unfold Vec.put;rw [Vec.zO l,Vec.abf]
theorem Vec.get_put: ∀(l:List AV) (v:Vec) (i j:Nat),(v.put i l).get j=if h:i≤j∧j<i+l.length then l[j-i]'(by omega) else v.get j
 | [], v,i,j=>by
  unfold Vec.put;rw [ydC (by simp)]
 | x::l,v,i,j=>by
  unfold Vec.put;rw [Vec.get_put l,Vec.lI];by_cases h:j=i
  ·subst h;rw [ydC (by simp;omega),yaj rfl,ydB (by simp)];simp
  ·by_cases h2:i≤j∧j<i+(x::l).length
   ·rw [ydB (by simp at h2 ⊢;omega),ydB h2];have e:j-i=(j-Nat.succ i)+1:=by simp at h2;omega
    simp only [e,ybB]
   ·rw [ydC (by simp at h2 ⊢;omega),ydC h2,yai h]
theorem Vec.lQ (l:List AV):(Vec.ofList l).n=l.length:=by unfold Vec.ofList;rw [Vec.zO]
theorem Vec.sN (l:List AV) (i:Nat) (h:i<l.length):(Vec.ofList l).get i=l[i]:=by
 unfold Vec.ofList;rw [Vec.get_put,ydB (by omega)];simp
theorem Vec.qE: ∀(n:Nat) (v:Vec) (i:Nat),(v.list i n).length=n
 | 0,_,_=>rfl
 | n+1,v,i=>by unfold Vec.list;rw [ya6,Vec.qE]
theorem Vec.zb: ∀(n:Nat) (v:Vec) (i k:Nat) (h:k<n),(v.list i n)[k]? =some (v.get (i+k))
 | 0,_,_,_,h=>by omega
 | n+1,v,i,0,_=>by unfold Vec.list;simp
 | n+1,v,i,k+1,h=>by
  unfold Vec.list;rw [yaQ,Vec.zb n v (Nat.succ i) k (by omega)];congr 2;omega
theorem zFl (x y:Int):zL x y=decide (x<y):=by
 cases x<;>cases y<;>unfold zL<;>rw [ycL]<;>simp [yaF]<;>omega
theorem Uy (x y:Int):nW x y=(x==y):=by
 cases x<;>cases y<;>unfold nW<;>rw [ycL]<;>simp [Nat.beq_eq]<;>omega
theorem zEa (o:BinOp) (x y:Int):JU o x y=mG o x y:=by
 cases o<;>simp only [JU,mG,Uy,zFl]
 case neq=>show (match (x==y) with|true=>false|false=>true)=(!(x==y));cases (x==y)<;>rfl
 case leq=>by_cases h:y<x<;>simp [h]<;>omega
 all_goals (by_cases h:x<y<;>simp [h]<;>omega)
theorem zEj (x y:Int):Qd x y=x+y:=by cases x<;>cases y<;>rfl
theorem zDC (x y:Int):Sb x y=x*y:=by cases x<;>cases y<;>rfl
theorem zD3 (x y:Int):Qm x y=x.tdiv y:=by cases x<;>cases y<;>rfl
theorem zDD (x y:Int):R9 x y=x.tmod y:=by cases x<;>cases y<;>rfl
theorem zCg (x y:Int):Mf x y=x-y:=by
 cases x<;>cases y<;>try rfl
 rename_i a b;have e:Mf (Int.ofNat a) (Int.ofNat b)=match Nat.ble b a with|true=>Int.ofNat (Nat.sub a b)|false=>Int.negSucc (Nat.sub (Nat.sub b a) 1):=rfl
 rw [e];cases h:Nat.ble b a with
 | true=>
  have:=yal h;show Int.ofNat (a-b)=(a:Int)-(b:Int);simp only [ybM];omega
 | false=>
  have: ¬b≤a:=fun hh=>by rw [ycb hh] at h;cases h
  show Int.negSucc (b-a-1)=(a:Int)-(b:Int);rw [Int.negSucc_eq];omega
theorem C8 {k:IntKind} {n:Int} (h1:k.min≤n) (h2:n≤k.max):k.wrap n=n:=by
 cases k<;>simp [IntKind.min,IntKind.max,IntKind.signed,IntKind.bits] at h1 h2<;>simp [IntKind.wrap,IntKind.signed,IntKind.bits]<;>omega
theorem Iw (k:IntKind) (n:Int):qQ k n=k.wrap n:=by
 cases n with
 | ofNat m=>
  have e:qQ k (Int.ofNat m)=match Nat.blt m (ku k) with|true=>Int.ofNat m|false=>k.wrap (Int.ofNat m):=rfl
  rw [e];cases h:Nat.blt m (ku k) with
  | true=>
   rw [yaF] at h;refine (C8 ?_ ?_).symm<;>cases k<;>simp [ku] at h<;>simp [IntKind.min,IntKind.max,IntKind.signed,IntKind.bits]<;>omega
  | false=>rfl
 | negSucc m=>
  have e:qQ k (Int.negSucc m)=match k.signed with|true=>(match Nat.blt m (ku k) with|true=>Int.negSucc m|false=>k.wrap (Int.negSucc m))|false=>k.wrap (Int.negSucc m):=rfl
  rw [e];cases hs:k.signed with
  | false=>rfl
  | true=>
   cases h:Nat.blt m (ku k) with
   | true=>
    rw [yaF] at h;refine (C8 ?_ ?_).symm<;>cases k<;>simp [ku] at h<;>simp [IntKind.signed] at hs<;>simp [IntKind.min,IntKind.max,IntKind.signed,IntKind.bits]<;>omega
   | false=>rfl
theorem ofInt_ofNat (n x:Nat):BitVec.ofInt n (Int.ofNat x)=BitVec.ofNat n x:=by
 apply BitVec.eq_of_toNat_eq;simp
theorem Iu {k:IntKind} {m:Nat} (h:m<ku k):k.wrap ((m:Nat):Int)=Int.ofNat m:=by
 refine C8 ?_ ?_<;>cases k<;>simp [ku] at h<;>simp [IntKind.min,IntKind.max,IntKind.signed,IntKind.bits]<;>omega
theorem zvy (k:IntKind): ∃e,ku k=2^e∧e≤k.bits:=by
 cases k<;>simp only [ku,IntKind.bits]
 ·exact ⟨7,by decide,by decide⟩
 ·exact ⟨15,by decide,by decide⟩
 ·exact ⟨31,by decide,by decide⟩
 ·exact ⟨63,by decide,by decide⟩
 ·exact ⟨8,by decide,by decide⟩
 ·exact ⟨16,by decide,by decide⟩
 ·exact ⟨32,by decide,by decide⟩
 ·exact ⟨64,by decide,by decide⟩
theorem Dz (o:BinOp) (ho:o= .and∨o= .or∨o= .xor∨o= .andNot) (k:IntKind) (x y:Int):nu o k x y=mZ o k x y:=by
 cases x with
 | negSucc a=>cases y<;>rfl
 | ofNat a=>
  cases y with
  | negSucc b=>rfl
  | ofNat b=>
   cases ha:Nat.blt a (ku k) with
   | false=>simp only [nu,ha]
   | true=>
    cases hb:Nat.blt b (ku k) with
    | false=>simp only [nu,ha,hb]
    | true=>
     have key:nu o k (Int.ofNat a) (Int.ofNat b)=nu.nat o a b:=by simp only [nu,ha,hb]
     rw [key];rw [yaF] at ha hb;obtain ⟨e,he,hle⟩:=zvy k;have ha2:a<2^k.bits:=yae (he▸ha) (ybx (by omega) hle);have hb2:b<2^k.bits:=yae (he▸hb) (ybx (by omega) hle);have ea:(BitVec.ofNat k.bits a).toNat=a:=by rw [yb6,ybd ha2]
     have eb:(BitVec.ofNat k.bits b).toNat=b:=by rw [yb6,ybd hb2]
     rcases ho with rfl|rfl|rfl|rfl
     ·show Int.ofNat (a&&&b)=k.wrap _;rw [ofInt_ofNat,ofInt_ofNat,yc5,ea,eb,Iu (by rw [he];exact Nat.and_lt_two_pow _ (he▸hb))]
     ·show Int.ofNat (a|||b)=k.wrap _;rw [ofInt_ofNat,ofInt_ofNat,BitVec.toNat_or,ea,eb,Iu (by rw [he];exact yc0 (he▸ha) (he▸hb))]
     ·show Int.ofNat (a^^^b)=k.wrap _;rw [ofInt_ofNat,ofInt_ofNat,BitVec.toNat_xor,ea,eb,Iu (by rw [he];exact Nat.xor_lt_two_pow (he▸ha) (he▸hb))]
     ·show Int.ofNat (a^^^(a&&&b))=k.wrap (((BitVec.ofInt k.bits (Int.ofNat a)&&& ~~~(BitVec.ofInt k.bits (Int.ofNat b))).toNat:Nat):Int);have e3:(BitVec.ofInt k.bits (Int.ofNat a)&&& ~~~(BitVec.ofInt k.bits (Int.ofNat b))).toNat=a^^^(a&&&b):=by
       rw [ofInt_ofNat,ofInt_ofNat,yc5,ea];apply ybh;intro i;rw [yca,ydF,yca];by_cases hi:i<k.bits
       ·have:(~~~(BitVec.ofNat k.bits b)).toNat.testBit i= !(b.testBit i):=by
         have h1:(~~~(BitVec.ofNat k.bits b)).toNat.testBit i=(~~~(BitVec.ofNat k.bits b)).getLsbD i:=rfl;rw [h1,BitVec.getLsbD_not];have h2:(BitVec.ofNat k.bits b).getLsbD i=(BitVec.ofNat k.bits b).toNat.testBit i:=rfl;rw [h2,eb];simp [hi]
        rw [this];cases a.testBit i<;>cases b.testBit i<;>rfl
       ·have:a.testBit i=false:=Nat.testBit_lt_two_pow (yae ha2 (ybx (by omega) (by omega)));simp [this]
      rw [e3,Iu (by rw [he];exact Nat.xor_lt_two_pow (he▸ha) (Nat.and_lt_two_pow _ (he▸hb)))]
theorem zxH (y b:Nat):(match Nat.blt y b with|true=>y|false=>b)=min y b:=by
 cases h:Nat.blt y b with
 | true=>rw [yaF] at h;simp;omega
 | false=>
  have: ¬y<b:=fun hh=>by rw [←yaF] at hh;rw [hh] at h;cases h
  simp;omega
theorem zCk (k:IntKind) (x:Int) (y:Nat):Tn k x y=x.fdiv (2^(min y k.bits)):=by
 cases x with
 | negSucc a=>rfl
 | ofNat a=>
  show Int.ofNat (Nat.div a (Nat.pow 2 (match Nat.blt y k.bits with|true=>y|false=>k.bits)))=_;rw [zxH];show ((a/2^(min y k.bits):Nat):Int)=_;rw [Int.natCast_ediv,ydL _ (by exact_mod_cast yaE _)];simp
theorem zCl (k:IntKind) (x:Int) (y:Nat):Tm k x y=k.wrap (x*2^(min y k.bits)):=by
 cases x with
 | negSucc a=>rfl
 | ofNat a=>
  show qQ k (Int.ofNat (Nat.mul a (Nat.pow 2 (match Nat.blt y k.bits with|true=>y|false=>k.bits))))=_;rw [zxH,Iw];congr 1
theorem zx2 {o:BinOp} {k:IntKind} {x y z:Int} (h:Cc o k x y=some z):jE o k x y=z:=by
 cases o<;>simp only [Cc,zEj,zCg,zDC,zD3,zDD,Iw] at h
 case add=>exact yaC h
 case sub=>exact yaC h
 case mul=>exact yaC h
 case quo=>split at h<;>simp_all [jE]
 case rem=>split at h<;>simp_all [jE]
 case shl=>split at h<;>simp_all [jE,zCl]
 case shr=>split at h<;>simp_all [jE,zCk]
 case and=>rw [Dz _ (by simp)] at h;exact yaC h
 case or=>rw [Dz _ (by simp)] at h;exact yaC h
 case xor=>rw [Dz _ (by simp)] at h;exact yaC h
 case andNot=>rw [Dz _ (by simp)] at h;exact yaC h
 all_goals cases h
theorem PV {k k':IntKind} (h:Nat.beq (kn k) (kn k')=true):k=k':=by
 cases k<;>cases k'<;>first|rfl|cases h
theorem bC {a b:Nat} (h:Nat.beq a b=true):a=b:=yda h
theorem NM: ∀ {a b:List Nat},rW a b=true→a=b
 | [], [], _=>rfl
 | [], _::_,h=>by cases h
 | _::_,[],h=>by cases h
 | a::l,b::m,h=>by
  unfold rW at h;split at h
  ·rename_i h1;rw [bC h1,NM h]
  ·cases h
theorem M6: ∀(a:List Nat),rW a a=true
 | [] => rfl
 | a::l=>by unfold rW;rw [yb9];exact M6 l
theorem zqK {a b:List Nat}:rW a b=decide (a=b):=by
 by_cases h:a=b
 ·subst h;simp [M6]
 ·cases e:rW a b with
  | true=>exact absurd (NM e) h
  | false=>simp [h]
theorem aO.beq_eq {f g:aO} (h:aO.beq f g=true):f=g:=by
 obtain ⟨a,b,c,d,e,p⟩:=f;obtain ⟨a',b',c',d',e',p'⟩:=g;unfold aO.beq at h;simp only at h;split at h
 ·rename_i h1 h2 h3 h4 h5 h6;rw [bC h1,bC h2,bC h3,bC h4,bC h5,bC h6]
 ·cases h
theorem Zv: ∀ {l m:List aO},IK l m=true→l=m
 | [], [], _=>rfl
 | [], _::_,h=>by cases h
 | _::_,[],h=>by cases h
 | f::l,g::m,h=>by
  unfold IK at h;split at h
  ·rename_i h1;rw [aO.beq_eq h1,Zv h]
  ·cases h
theorem SE.beq_eq: ∀ {a b:SE},SE.beq a b=true→a=b:=by
 intro a
 induction a with
 | lit n=>
  intro b h;cases b<;>simp only [SE.beq] at h<;>try cases h
  split at h
  ·rw [bC h]
  ·rw [bC h]
  ·cases h
 | var i=>
  intro b h;cases b<;>simp only [SE.beq] at h<;>try cases h
  rw [bC h]
 | bin o k a b iha ihb=>
  intro c h;cases c<;>simp only [SE.beq] at h<;>try cases h
  split at h
  ·split at h
   ·split at h
    ·rename_i h1 h2 _ h3;rw [h1,h2,iha h3,ihb h]
    ·cases h
   ·cases h
  ·cases h
 | wrap k a ih=>
  intro c h;cases c<;>simp only [SE.beq] at h<;>try cases h
  split at h
  ·rename_i h1;rw [h1,ih h]
  ·cases h
 | aQ l c=>
  intro b h;cases b<;>simp only [SE.beq] at h<;>try cases h
  split at h
  ·rename_i h1;rw [Zv h1,bC h]
  ·cases h
theorem SB.sM: ∀ {a b:SB},SB.eqv a b=true→a=b:=by
 intro a
 induction a with
 | lit n=>
  intro b h;cases b<;>simp only [SB.eqv] at h<;>try cases h
  simp at h;rw [h]
 | var i=>
  intro b h;cases b<;>simp only [SB.eqv] at h<;>try cases h
  rw [bC h]
 | cmp o a b=>
  intro c h;cases c<;>simp only [SB.eqv] at h<;>try cases h
  split at h
  ·split at h
   ·rename_i h1 _ h2;rw [h1,SE.beq_eq h2,SE.beq_eq h]
   ·cases h
  ·cases h
 | not a ih=>
  intro b h;cases b<;>simp only [SB.eqv] at h<;>try cases h
  rw [ih h]
 | beq a b iha ihb=>
  intro c h;cases c<;>simp only [SB.eqv] at h<;>try cases h
  split at h
  ·rename_i h1;rw [iha h1,ihb h]
  ·cases h
 | and a b iha ihb=>
  intro c h;cases c<;>simp only [SB.eqv] at h<;>try cases h
  split at h
  ·rename_i h1;rw [iha h1,ihb h]
  ·cases h
theorem kC.beq_eq {a b:kC} (h:kC.beq a b=true):a=b:=by
 cases a<;>cases b<;>simp only [kC.beq] at h<;>first|rw [bC h]|cases h
theorem zoz {a b:Option SE} (h:Ja a b=true):a=b:=by
 cases a<;>cases b<;>simp only [Ja] at h<;>first|rfl|rw [SE.beq_eq h]|cases h
theorem zrq: ∀ {a b:List (SE×Nat)},Jv a b=true→a=b
 | [], [], _=>rfl
 | x::a,y::b,h=>by
  unfold Jv at h;split at h
  ·rename_i h1 h2;rw [zrq h,Prod.ext (SE.beq_eq h1) (bC h2)]
  ·cases h
 | [], _::_,h=>by cases h
 | _::_,[],h=>by cases h
mutual
theorem AV.beq_eq: ∀ {a b:AV},AV.beq a b=true→a=b
 | .bool a,b,h=>by cases b<;>simp only [AV.beq] at h<;>first|rw [SB.sM h]|cases h
 | .int k n,b,h=>by
  cases b<;>simp only [AV.beq] at h<;>try cases h
  split at h
  ·split at h
   ·rename_i h1 h2;rw [SE.beq_eq h1,h2]
   ·cases h
  ·cases h
 | .str a,b,h=>by cases b<;>simp only [AV.beq] at h<;>first|rw [NM h]|cases h
 | .jm,b,h=>by cases b<;>simp only [AV.beq] at h<;>first|rfl|cases h
 | .ptr a c,b,h=>by
  cases b<;>simp only [AV.beq] at h<;>try cases h
  split at h
  ·rename_i h1;rw [bC h1,bC h]
  ·cases h
 | .cO,b,h=>by cases b<;>simp only [AV.beq] at h<;>first|rfl|cases h
 | .sl a c d e,b,h=>by
  cases b<;>simp only [AV.beq] at h<;>try cases h
  split at h
  ·rename_i h1 h2 h3;rw [bC h1,bC h2,bC h3,kC.beq_eq h]
  ·cases h
 | .emp,b,h=>by cases b<;>simp only [AV.beq] at h<;>first|rfl|cases h
 | .oz a,b,h=>by cases b<;>simp only [AV.beq] at h<;>first|rw [SE.beq_eq h]|cases h
 | .mV,b,h=>by cases b<;>simp only [AV.beq] at h<;>first|rfl|cases h
 | .kI,b,h=>by cases b<;>simp only [AV.beq] at h<;>first|rfl|cases h
 | .map a,b,h=>by cases b<;>simp only [AV.beq] at h<;>first|rw [bC h]|cases h
 | .func f l m,b,h=>by
  cases b<;>simp only [AV.beq] at h<;>try cases h
  split at h
  ·rename_i h1 h2;rw [bC h1,AV.qW h2,AV.qW h]
  ·cases h
 | .lT,b,h=>by cases b<;>simp only [AV.beq] at h<;>first|rfl|cases h
 | .mR,b,h=>by cases b<;>simp only [AV.beq] at h<;>first|rfl|cases h
 | .iface t v,b,h=>by
  cases b<;>simp only [AV.beq] at h<;>try cases h
  split at h
  ·rename_i h1;rw [bC h1,AV.beq_eq h]
  ·cases h
 | .agg l,b,h=>by cases b<;>simp only [AV.beq] at h<;>first|rw [AV.qW h]|cases h
 | .ay l,b,h=>by cases b<;>simp only [AV.beq] at h<;>first|rw [AV.qW h]|cases h
 | .cst a l,b,h=>by
  cases b<;>simp only [AV.beq] at h<;>try cases h
  split at h
  ·rename_i h1;rw [bC h1,zoz h]
  ·cases h
 | .opq a l,b,h=>by
  cases b<;>simp only [AV.beq] at h<;>try cases h
  split at h
  ·rename_i h1;rw [bC h1,zoz h]
  ·cases h
 | .sx i n s l,b,h=>by
  cases b<;>simp only [AV.beq] at h<;>try cases h
  split at h
  ·rename_i h1 h2 h3;rw [bC h1,SE.beq_eq h2,bC h3,zrq h]
  ·cases h
 | .junk,b,h=>by cases b<;>simp only [AV.beq] at h<;>first|rfl|cases h
 | .iM c w,b,h=>by
  cases b<;>simp only [AV.beq] at h<;>try cases h
  split at h
  ·rename_i h1;split at h
   ·rw [SB.sM h1]
   ·rw [SB.sM h1]
   ·cases h
  ·cases h
theorem AV.qW: ∀ {a b:List AV},AV.o6 a b=true→a=b
 | [], b,h=>by cases b<;>simp only [AV.o6] at h<;>first|rfl|cases h
 | x::l,b,h=>by
  cases b<;>simp only [AV.o6] at h<;>try cases h
  split at h
  ·rename_i h1;rw [AV.beq_eq h1,AV.qW h]
  ·cases h
end
end Go.Dw
namespace Go.Dw
structure Loc where
 blk:Nat
 off:Nat
 cap:Nat
 q:Option Value
abbrev J:=Nat→Option Loc
def uJ (L:Loc):kC→Nat
 | .known c=>c
 | .upto k=>L.cap-k
def Vl (L:Loc) (len:Nat):kC→Prop
 | .known c=>len≤c
 | .upto k=>k+len≤L.cap∧0<L.cap
def qV (ρ:Val) (j:J) (sz:Nat) (b:Option Addr) (len:Nat):List (SE×Nat)→Prop
 | [] => True
 | p::l=>(∃bb o L k,b=some ⟨bb,o,none⟩∧j p.2=some L∧L.blk=bb∧p.1.den ρ=Int.ofNat k∧k<len∧L.off=o+sz*k)∧qV ρ j sz b len l
mutual
def R (ρ:Val) (j:J):AV→Value→Prop
 | .bool b,v=>v= .bool (b.den ρ)
 | .int k n,v=>v= .int k (n.den ρ)
 | .str s,v=>(∀b∈s,b<256)∧v= .string ⟨(s.map UInt8.ofNat).toArray⟩
 | .jm,v=>v= .pointer none
 | .ptr n o,v=> ∃L,j n=some L∧v= .pointer (some ⟨L.blk,L.off+o,none⟩)
 | .cO,v=>v= .slice none 0 0
 | .sl n o len cap,v=> ∃L,j n=some L∧Vl L len cap∧v= .slice (some ⟨L.blk,L.off+o,none⟩) len (uJ L cap)
 | .emp,v=> ∃a c,v= .slice (some a) 0 c
 | .oz n,v=> ∃b l c,v= .slice b l c∧Int.ofNat l=n.den ρ
 | .mV,v=> ∃a l c,v= .slice (some a) l c
 | .kI,v=>v= .map none
 | .map n,v=> ∃L,j n=some L∧v= .map (some L.blk)
 | .func f first cap,v=> ∃l m,v= .func (.func f) l.toArray m.toArray∧RL ρ j first l∧RL ρ j cap m
 | .lT,v=>v= .nilFunc
 | .mR,v=>v= .nilIface
 | .iface t x,v=> ∃y,v= .iface t y∧R ρ j x y
 | .agg l,v=> ∃m,v= .agg m.toArray∧RL ρ j l m
 | .ay l,v=> ∃m,v= .tuple m.toArray∧RL ρ j l m
 | .cst i len,v=>v=ρ.v i∧v.oneCell'=true∧ ∀n,len=some n→ ∃b l c,v= .slice b l c∧Int.ofNat l=n.den ρ
 | .iM c b,v=>v=undef∧c.den ρ= !b
 | .junk,_=>False
 | .sx i n sz l,v=>v=ρ.v i∧ ∃b len cap,v= .slice b len cap∧Int.ofNat len=n.den ρ∧qV ρ j sz b len l
 | .opq m len,v=>(∃L,j m=some L∧L.q=some v)∧v.oneCell'=true∧ ∀n,len=some n→ ∃b l c,v= .slice b l c∧Int.ofNat l=n.den ρ
def RL (ρ:Val) (j:J):List AV→List Value→Prop
 | [], l=>l= []
 | a::l,m=> ∃v m',m=v::m'∧R ρ j a v∧RL ρ j l m'
end
def Sub (j j':J):Prop:= ∀n L,j n=some L→j' n=some L
theorem Sub.refl (j:J):Sub j j:=fun _ _ h=>h
theorem Sub.trans {j j' Cf:J} (h:Sub j j') (h':Sub j' Cf):Sub j Cf:=fun n L e=>h' n L (h n L e)
theorem qV.mono {ρ:Val} {j j':J} (h: ∀n L,j n=some L→j' n=some L) {sz:Nat} {b:Option Addr} {len:Nat}: ∀ {l:List (SE×Nat)},qV ρ j sz b len l→qV ρ j' sz b len l
 | [], _=>trivial
 | _::_,r=>let ⟨⟨bb,o,L,k,h1,h2,h3⟩,h4⟩:=r;⟨⟨bb,o,L,k,h1,h _ _ h2,h3⟩,qV.mono h h4⟩
mutual
theorem R.mono {ρ:Val} {j j':J} (h:Sub j j'): ∀ {a:AV} {v:Value},R ρ j a v→R ρ j' a v
 | .bool _,_,r=>r
 | .int _ _,_,r=>r
 | .str _,_,r=>r
 | .jm,_,r=>r
 | .ptr _ _,_,r=>let ⟨L,e,x⟩:=r;⟨L,h _ _ e,x⟩
 | .cO,_,r=>r
 | .sl _ _ _ _,_,r=>let ⟨L,e,x⟩:=r;⟨L,h _ _ e,x⟩
 | .emp,_,r=>r
 | .oz _,_,r=>r
 | .mV,_,r=>r
 | .kI,_,r=>r
 | .map _,_,r=>let ⟨L,e,x⟩:=r;⟨L,h _ _ e,x⟩
 | .func _ _ _,_,r=>let ⟨l,m,e,x,y⟩:=r;⟨l,m,e,RL.mono h x,RL.mono h y⟩
 | .lT,_,r=>r
 | .mR,_,r=>r
 | .iface _ _,_,r=>let ⟨y,e,x⟩:=r;⟨y,e,R.mono h x⟩
 | .agg _,_,r=>let ⟨m,e,x⟩:=r;⟨m,e,RL.mono h x⟩
 | .ay _,_,r=>let ⟨m,e,x⟩:=r;⟨m,e,RL.mono h x⟩
 | .cst _ _,_,r=>r
 | .iM _ _,_,r=>r
 | .junk,_,r=>r.elim
 | .sx _ _ _ _,_,r=>let ⟨h1,b,len,cap,h2,h3,h4⟩:=r;⟨h1,b,len,cap,h2,h3,h4.mono h⟩
 | .opq _ _,_,r=>let ⟨⟨L,e,x⟩,y⟩:=r;⟨⟨L,h _ _ e,x⟩,y⟩
theorem RL.mono {ρ:Val} {j j':J} (h:Sub j j'): ∀ {a:List AV} {v:List Value},RL ρ j a v→RL ρ j' a v
 | [], _,r=>r
 | _::_,_,r=>let ⟨v,m,e,x,y⟩:=r;⟨v,m,e,R.mono h x,RL.mono h y⟩
end
section
variable {ρ:Val} {j:J}
theorem RL.length: ∀ {l:List AV} {m:List Value},RL ρ j l m→m.length=l.length
 | [], m,r=>by have e:m= []:=r;rw [e];rfl
 | _::l,_,r=>by obtain ⟨v,m,rfl,_,y⟩:=r;simp [RL.length y]
theorem RL.get: ∀ {l:List AV} {m:List Value},RL ρ j l m→ ∀(i:Nat) (a:AV),l[i]? =some a→ ∃v,m[i]? =some v∧R ρ j a v
 | [], _,_,_,_,h=>by simp at h
 | _::l,_,r,0,a,h=>by obtain ⟨v,m,rfl,x,_⟩:=r;simp at h;subst h;exact ⟨v,rfl,x⟩
 | _::l,_,r,i+1,a,h=>by obtain ⟨v,m,rfl,_,y⟩:=r;simp at h;simpa using RL.get y i a h
theorem RL.zQ: ∀ {l:List AV} {m:List Value},m.length=l.length→(∀(i:Nat) (a:AV),l[i]? =some a→ ∃v,m[i]? =some v∧R ρ j a v)→RL ρ j l m
 | [], m,h,_=>by
  have e:m= []:=by simpa using h
  exact e
 | a::l,[],h,_=>by simp at h
 | a::l,v::m,h,hg=>by
  refine ⟨v,m,rfl,?_,RL.zQ (by simpa using h) fun i b hb=>by simpa using hg (i+1) b (by simpa using hb)⟩;obtain ⟨v',h1,h2⟩:=hg 0 a rfl;simp at h1;subst h1;exact h2
theorem RL.append: ∀ {l l':List AV} {m m':List Value},RL ρ j l m→RL ρ j l' m'→RL ρ j (l++l') (m++m')
 | [], _,_,_,r,r'=>by rw [show _= [] from r];exact r'
 | _::l,_,_,_,r,r'=>by obtain ⟨v,m,rfl,x,y⟩:=r;exact ⟨v,_,rfl,x,RL.append y r'⟩
theorem RL.cons {a:AV} {v:Value} {l:List AV} {m:List Value} (h:R ρ j a v) (h':RL ρ j l m):RL ρ j (a::l) (v::m):=⟨v,m,rfl,h,h'⟩
theorem RL.nil:RL ρ j [] []:=rfl
theorem RL.one {a:AV} {v:Value} (h:R ρ j a v):RL ρ j [a] [v]:=⟨v,[],rfl,h,rfl⟩
theorem RL.two {a b:AV} {v u:Value} (h:R ρ j a v) (h':R ρ j b u):RL ρ j [a,b] [v,u]:= .cons h (.one h')
end
theorem zgi (l:List UInt8):(l.map (·.toNat)).map UInt8.ofNat=l:=by
 rw [ycR]
 conv=>rhs;rw [←List.map_id l]
 apply ycO;intro a _;simp
theorem ztE {ρ:Val} {j:J} {v:Value} {a:AV} (h:I9 v=some a):R ρ j a v:=by
  unfold I9 at h;split at h<;>first|(cases h;done)|skip
  all_goals (cases h)
  all_goals first
    | (simp [R,SB.den,SE.den];done)
    | skip
  rename_i s;refine ⟨by simp;intro b _;exact b.toNat_lt,?_⟩;rw [zgi]
theorem NA {ρ:Val} {j:J}: ∀ {vs:List Value} {l:List AV},AB vs=some l→RL ρ j l vs
 | [], l,h=>by unfold AB at h;cases h;rfl
 | v::vs,l,h=>by
  unfold AB at h;split at h
  ·cases h
  ·rename_i a ha;split at h
   ·cases h
   ·rename_i m hm;cases h;exact ⟨v,vs,rfl,ztE ha,NA hm⟩
theorem zpy {ρ:Val} {j:J} {v:Value} {a:AV} (h:ofValue v=some a):R ρ j a v:=by
 unfold ofValue at h;split at h
 ·split at h
  ·rename_i hl;cases h;exact ⟨_,by simp,NA hl⟩
  ·cases h
 ·split at h
  ·rename_i hl;cases h;exact ⟨_,by simp,NA hl⟩
  ·cases h
 ·exact ztE h
theorem qM {ρ:Val} {j:J}:R ρ j jL undef:=⟨[],rfl,rfl⟩
theorem vU {ρ:Val} {j:J} {a:AV} {v:Value} (h:R ρ j a v):RL ρ j a.cells v.cells.toList:=by
  cases a with
  | agg l=>obtain ⟨m,rfl,r⟩:=h;simpa [AV.cells,Value.cells] using r
  | junk=>exact h.elim
  | _=>
    have hv:v.cells= #[v]:=by
      simp only [R] at h
      first
        | (subst h;rfl)
        | (obtain ⟨_,_,rfl⟩:=h;rfl)
        | (obtain ⟨_,_,_,rfl⟩:=h;rfl)
        | (obtain ⟨_,rfl,_⟩:=h;rfl)
        | (obtain ⟨_,rfl⟩:=h;rfl)
        | (obtain ⟨_,_,_,_,rfl,_⟩:=h;rfl)
        | (obtain ⟨_,_,rfl,_⟩:=h;rfl)
        | (obtain ⟨_,_,_,rfl,_⟩:=h;rfl)
        | (obtain ⟨rfl,_⟩:=h;rfl)
        | (have h1:=h.2.1;revert h1;cases v<;>intro h1<;>first|rfl|cases h1)
    rw [hv];exact RL.one h
theorem zgt {ρ:Val} {j:J} {a:AV} {v:Value} (h:R ρ j a v) (hc:PE a=true):v.oneCell'=true:=by
  cases a<;>simp only [PE] at hc<;>try (cases hc;done)
  all_goals
    simp only [R] at h
    first
      | (subst h;rfl)
      | (obtain ⟨_,_,rfl⟩:=h;rfl)
      | (obtain ⟨_,_,_,rfl⟩:=h;rfl)
      | (obtain ⟨_,rfl,_⟩:=h;rfl)
      | (obtain ⟨_,rfl⟩:=h;rfl)
      | (obtain ⟨_,_,_,_,rfl,_⟩:=h;rfl)
      | (obtain ⟨_,_,rfl,_⟩:=h;rfl)
      | (obtain ⟨_,_,_,rfl,_⟩:=h;rfl)
      | exact h.2.1
theorem OE {ρ:Val} {j:J}: ∀ {l:List AV} {m:List Value},RL ρ j l m→yg l=true→ ∀v∈m,v.oneCell'=true
 | [], _,r,_=>by rw [show _= [] from r];simp
 | a::l,_,r,h=>by
  obtain ⟨v,m,rfl,x,y⟩:=r;unfold yg at h;split at h
  ·rename_i hc;intro u hu;rcases yad.1 hu with rfl|hu
   ·exact zgt x hc
   ·exact OE y h u hu
  ·cases h
def Mine (j:J) (b:Nat):Prop:= ∃n L,j n=some L∧L.q=none∧L.blk=b
structure Cx where
 w:World
 K:Nat→Prop
 G:Nat→J→World→Prop
 abE: ∀k j j' w w',G k j w→Sub j j'→w.heap.size≤w'.heap.size→(∀b,b<w.heap.size→ ¬Mine j b→w'.heap[b]? =w.heap[b]?)→(∀b,Mine j' b→Mine j b∨w.heap.size≤b)→G k j' w'
def Cx.own (x:Cx) (b:Nat):Prop:=x.w.heap.size≤b∨x.K b
def Cx.plain (w:World):Cx:=⟨w,fun _=>False,fun _ _ _=>True,fun _ _ _ _ _ _ _ _ _ _=>trivial⟩
structure Fr (w0:Cx) (w:World):Prop where
 os:w.os=w0.w.os
 out:w.output=w0.w.output
 tape:w.tape=w0.w.tape
 size:w0.w.heap.size≤w.heap.size
 old: ∀i,i<w0.w.heap.size→ ¬w0.K i→w.heap[i]? =w0.w.heap[i]?
theorem Fr.below {w w':World} (h:Fr (Cx.plain w) w'):RowKit.Below w.heap.size w w':=⟨h.os,h.tape,h.out,h.size,fun i hi=>h.old i hi id⟩
theorem Fr.refl (x:Cx):Fr x x.w:=⟨rfl,rfl,rfl,yab _,fun _ _ _=>rfl⟩
theorem Fr.then {x:Cx} {b c:World} (h:Fr x b) (h1:c.os=b.os) (h2:c.output=b.output) (h3:c.tape=b.tape) (h4:b.heap.size≤c.heap.size) (h5: ∀i,i<b.heap.size→ ¬x.own i→c.heap[i]? =b.heap[i]?):Fr x c:=
 ⟨h1.trans h.os,h2.trans h.out,h3.trans h.tape,yaw h.size h4,fun i hi hk=>(h5 i (yae hi h.size) (fun ho=>ho.elim (fun h=>absurd hi (Nat.not_lt_of_le h)) hk)).trans (h.old i hi hk)⟩
def RM (ρ:Val) (j:J):List ME→List MapEntry→Prop
 | [], l=>l= []
 | e::l,m=> ∃x m',m=x::m'∧R ρ j e.key x.key∧R ρ j e.val x.val∧x.born=e.born∧RM ρ j l m'
theorem RM.mono {ρ:Val} {j j':J} (h:Sub j j'): ∀ {l:List ME} {m:List MapEntry},RM ρ j l m→RM ρ j' l m
 | [], _,r=>r
 | _::_,_,r=>let ⟨x,m,e,a,b,c,d⟩:=r;⟨x,m,e,a.mono h,b.mono h,c,RM.mono h d⟩
def RK (ρ:Val) (j:J):List ME→List MapEntry→Prop
 | [], l=>l= []
 | e::l,m=> ∃x m',m=x::m'∧R ρ j e.key x.key∧R ρ j e.val x.val∧RK ρ j l m'
theorem RK.mono {ρ:Val} {j j':J} (h:Sub j j'): ∀ {l:List ME} {m:List MapEntry},RK ρ j l m→RK ρ j' l m
 | [], _,r=>r
 | _::_,_,r=>let ⟨x,m,e,a,b,d⟩:=r;⟨x,m,e,a.mono h,b.mono h,RK.mono h d⟩
def A7 (v:Value) (n:Int):Bool:=
 match v with
 | .int .i64 m=>m==n
 | _=>false
def dz (arr:Array MapEntry) (n:Int):Option Value:=(arr.toList.find? fun e=>A7 e.key n).map (·.val)
def nG (D:Int→Option Value):List (Int×Option Value)→Int→Option Value
 | [], n=>D n
 | e::l,n=>if n=e.1 then e.2 else nG D l n
def RO (ρ:Val) (j:J):Option AV→Option Value→Prop
 | none,o=>o=none
 | some a,o=> ∃v,o=some v∧R ρ j a v
def RX (ρ:Val) (j:J):List (AV×Option AV)→List (Int×Option Value)→Prop
 | [], l=>l= []
 | e::l,m=> ∃x o m',m=(x,o)::m'∧R ρ j e.1 (.int .i64 x)∧RO ρ j e.2 o∧RX ρ j l m'
theorem RO.mono {ρ:Val} {j j':J} (h:Sub j j'): ∀ {a:Option AV} {o:Option Value},RO ρ j a o→RO ρ j' a o
 | none,_,r=>r
 | some _,_,r=>let ⟨v,e,x⟩:=r;⟨v,e,x.mono h⟩
theorem RX.mono {ρ:Val} {j j':J} (h:Sub j j'): ∀ {l:List (AV×Option AV)} {m:List (Int×Option Value)},RX ρ j l m→RX ρ j' l m
 | [], _,r=>r
 | _::_,_,r=>let ⟨x,o,m,e,a,b,c⟩:=r;⟨x,o,m,e,a.mono h,b.mono h,RX.mono h c⟩
structure jV (arr:Array MapEntry):Prop where
 keys: ∀e∈arr.toList,∃n,e.key= .int .i64 n
 once:arr.toList.Pairwise fun a b=>a.key≠b.key
def lG (arr:Array MapEntry) (clock:Nat):Prop:=(∀e∈arr.toList,e.born<clock)∧(arr.toList.map (·.born)).Nodup
def oV (ρ:Val) (j:J) (arr:Array MapEntry) (e:AV×Option AV):Prop:=
 match e.1 with
 | .ay [s,k]=> ∃(x:Int) (b p:Nat) (ent:MapEntry),R ρ j s (.int .i64 b)∧R ρ j k (.int .i64 x)∧arr.toList.findIdx? (fun e=>(e.born:Int)==(b:Int))=some p∧arr.toList[p]? =some ent∧ent.key= .int .i64 x
 | _=>True
theorem oV.mono {ρ:Val} {j j':J} (h:Sub j j') {arr:Array MapEntry} {e:AV×Option AV} (r:oV ρ j arr e):oV ρ j' arr e:=by
 unfold oV at r ⊢;split at r
 ·obtain ⟨x,b,p,ent,h1,h2,h3⟩:=r;exact ⟨x,b,p,ent,h1.mono h,h2.mono h,h3⟩
 ·trivial
theorem ND {ρ:Val} {j:J}: ∀ {l:List (AV×Option AV)} {m:List (Int×Option Value)},RX ρ j l m→rR l=l∧ ∀arr,∀e∈l,oV ρ j arr e
 | [], _,_=>⟨rfl,fun _ e h=>by cases h⟩
 | e::l,_,r=>by
  obtain ⟨x,o,m',rfl,h1,_,h3⟩:=r;obtain ⟨i1,i2⟩:=ND h3;have ht: ∀l',e.1≠ .ay l':=fun l' he=>by
   rw [he] at h1;obtain ⟨_,h4,_⟩:=h1;cases h4
  have hf:Ms e.1=false:=by
   cases he:e.1<;>first|rfl|exact absurd he (ht _)
  refine ⟨by unfold rR;rw [hf];exact yaI _ i1,fun arr e' he'=> ?_⟩;rcases yad.1 he' with rfl|he'
  ·unfold oV;split
   ·rename_i he;exact absurd he (ht _)
   ·trivial
  ·exact i2 arr e' he'
def mH (ρ:Val) (j:J) (w0:Cx) (w:World) (gw:T Nat) (L:Loc):Obj→Prop
  | .cells v bq g closed _ own=>L.q=none∧
    (if own=true then w0.own L.blk else¬w0.own L.blk)∧
    (alive gw g closed=true→ ∃arr e fr,w.heap[L.blk]? =some (.cells arr e fr)∧L.off+v.n≤arr.size∧(L.off+L.cap*bq≤arr.size∧(0<L.cap→v.n≤L.cap*bq))∧
      ∀ i,i<v.n→ ∃x,arr[L.off+i]? =some x∧R ρ j (v.get i) x)
  | .map es clock=>L.q=none∧w0.own L.blk∧L.off=0∧ ∃arr,w.heap[L.blk]? =some (.map arr clock)∧RM ρ j es arr.toList
  | .iter m since seen stepped=>L.q=none∧w0.own L.blk∧L.off=0∧ ∃m' sa,w.heap[L.blk]? =some (.mapIter m' since sa stepped)∧sa.toList=seen∧
      (match m with|none=>m'=none|some n=> ∃Lm,j n=some Lm∧m'=some Lm.blk)
  | .qF es=>L.q=none∧w0.own L.blk∧L.off=0∧ ∃arr clock es',w.heap[L.blk]? =some (.map arr clock)∧es'.Perm es∧RK ρ j es' arr.toList
  | .dB kn log=>L.q=none∧w0.own L.blk∧L.off=0∧ ∃arr clock dm eU m0 m1,w.heap[L.blk]? =some (.map arr clock)∧w0.w.heap[L.blk]? =some (.map dm eU)∧(jV arr∧lG arr clock∧ ∀e∈kn,oV ρ j arr e)∧
      RX ρ j (rR kn) m0∧RX ρ j log m1∧(∀x o,(x,o)∈m0→dz arr x=o)∧ ∀n,dz arr n=nG (dz dm) m1 n
  | .opq=>L.q≠none
  | .gs _=>False
def Sep (H:Heap) (n m:Nat) (Ln Lm:Loc):Prop:=
 ∃ vn en gn cn sn on vm em gm cm sm om,H.m.get n=some (.cells vn en gn cn sn on)∧H.m.get m=some (.cells vm em gm cm sm om)∧on=om∧
  (on=true→gn=gm∧(alive H.gw gn cn=true→alive H.gw gm cm=true→cn=none→sn=true∧cm≠none∧Lm.off+vm.n≤Ln.off+vn.n))
structure Inv (ρ:Val) (w0:Cx) (j:J) (H:Heap) (w:World):Prop where
 fr:Fr w0 w
 dom: ∀n L,j n=some L→n<H.nx
 blk: ∀n L,j n=some L→L.q=none→L.blk<w.heap.size
 used: ∀n o,H.m.get n=some o→n<H.nx
 obj: ∀n L,j n=some L→ ∃o,H.m.get n=some o∧mH ρ j w0 w H.gw L o
 sep: ∀n m Ln Lm,n≠m→j n=some Ln→j m=some Lm→Ln.q=none→Lm.q=none→Ln.blk=Lm.blk→Sep H n m Ln Lm
 oD: ∀n v e g t sh ow,H.m.get n=some (.cells v e g (some t) sh ow)→t≤H.nx
 mJ: ∀g x,H.gw.get g=some x→x≤H.nx
 jY: ∀n L v e g c sh,j n=some L→H.m.get n=some (.cells v e g c sh true)→ ∃Lg,j g=some Lg
 fz: ∀n L,j n=some L→L.q=none→w0.own L.blk→ ∀c e fr,w.heap[L.blk]? =some (.cells c e fr)→fr=(0,0)
 kW: ∀n L v e c sh,j n=some L→H.m.get n=some (.cells v e n c sh true)→L.off=0
 n0:j 0=none
 jo:0<H.nx
 z0: ∀o,H.m.get 0=some o→ ∃k,o= .gs k
 eY:w0.G H.gs j w
theorem mH.plain {ρ:Val} {j:J} {w0:Cx} {w:World} {gw:T Nat} {L:Loc} {o:Obj} (h:mH ρ j w0 w gw L o) (ho:o≠ .opq):L.q=none:=by
 cases o with
 | cells=>exact h.1
 | map=>exact h.1
 | iter=>exact h.1
 | qF=>exact h.1
 | dB=>exact h.1
 | opq=>exact absurd rfl ho
 | gs=>exact h.elim
structure St (j:J) (H:Heap) (j':J) (H':Heap):Prop where
 sub:Sub j j'
 fresh: ∀n L,j' n=some L→j n=none→H.nx≤n
 keep: ∀n,0<n→j n=none→n<H.nx→H'.m.get n=H.m.get n∧H'.gw.get n=H.gw.get n
 nx:H.nx≤H'.nx
theorem St.refl (j:J) (H:Heap):St j H j H:=⟨Sub.refl j,(fun n L h h'=>by rw [h] at h';cases h'),fun _ _ _ _=>⟨rfl,rfl⟩,yab _⟩
theorem St.trans {j j' Cf:J} {H H' Qc:Heap} (h:St j H j' H') (h':St j' H' Cf Qc):St j H Cf Qc:=by
 refine ⟨h.sub.trans h'.sub,fun n L e e0=> ?_,fun n hp e hn=> ?_,yaw h.nx h'.nx⟩
 ·cases e1:j' n with
  | none=>exact yaw h.nx (h'.fresh n L e e1)
  | some L'=>exact h.fresh n L' e1 e0
 ·have e1:j' n=none:=by
   cases e1:j' n with
   | none=>rfl
   | some L'=>have:=h.fresh n L' e1 e;omega
  have a:=h.keep n hp e hn;have b:=h'.keep n hp e1 (yae hn h.nx);exact ⟨b.1.trans a.1,b.2.trans a.2⟩
theorem Heap.alloc_eq (H:Heap) (o:Obj):H.alloc o=⟨H.m.set H.nx o,H.nx+1,H.gw⟩:=by
 obtain ⟨m,nx,gw⟩:=H;show (match m.set nx o with| .leaf=>(⟨.leaf,nx+1,gw⟩:Heap)| .node a b c=>qb (nx+1) fun x=>⟨.node a b c,x,gw⟩)=_;cases m.set nx o<;>simp [tZ]
theorem Heap.nL (H:Heap) (n:Nat) (o:Obj):H.upd n o=⟨H.m.set n o,H.nx,H.gw⟩:=by
 obtain ⟨m,nx,gw⟩:=H;show (match m.set n o with| .leaf=>(⟨.leaf,nx,gw⟩:Heap)| .node a b c=>⟨.node a b c,nx,gw⟩)=_;cases m.set n o<;>rfl
theorem Heap.TM (H:Heap) (g:Nat):H.wrote g=⟨H.m,H.nx,H.gw.set g H.nx⟩:=rfl
end Go.Dw
namespace Go.Dw
section
variable {ρ:Val} {w0:Cx} {j:J} {H:Heap} {w:World}
def iV (j:J) (n:Nat) (L:Loc):J:=fun k=>if k=n then some L else j k
theorem lC (j:J) (n:Nat) (L:Loc):iV j n L n=some L:=by simp [iV]
theorem lu (j:J) {n k:Nat} (L:Loc) (h:k≠n):iV j n L k=j k:=by simp [iV,h]
theorem pR {j:J} {n:Nat} {L:Loc} (h:j n=none):Sub j (iV j n L):=fun k L' e=>by
 by_cases hk:k=n
 ·subst hk;rw [h] at e;cases e
 ·rw [lu j L hk];exact e
theorem Em (H:Heap) (o:Obj) {n:Nat} (hn:n≠0) {nx:Nat} {gw:T Nat}:Heap.gs ⟨H.m.set n o,nx,gw⟩=H.gs:=by
 unfold Heap.gs;rw [show (H.m.set n o).get 0=H.m.get 0 from T.jl _ _ (ydl hn)]
theorem Inv.rF (h:Inv ρ w0 j H w) {n:Nat} {L:Loc} (hj:j n=some L):n≠0:=fun e=>by
 subst e;rw [h.n0] at hj;cases hj
theorem Inv.FU (h:Inv ρ w0 j H w) {n:Nat} (hn:n≠0) (o:Obj): ∀o',(H.m.set n o).get 0=some o'→ ∃k,o'= .gs k:=fun o' e=>by
 rw [show (H.m.set n o).get 0=H.m.get 0 from T.jl _ _ (ydl hn)] at e;exact h.z0 o' e
theorem Inv.q (h:Inv ρ w0 j H w) {n:Nat} {L:Loc} {o:Obj} (hj:j n=some L) (hm:H.m.get n=some o) (ho:o≠ .opq):L.q=none:=by
 obtain ⟨o',h1,h2⟩:=h.obj n L hj;rw [hm] at h1;cases h1;exact h2.plain ho
theorem Inv.kZ (h:Inv ρ w0 j H w) {n:Nat} {L:Loc} {v:Vec} {e g:Nat} {c:Option Nat} {s ow:Bool} (hj:j n=some L) (hm:H.m.get n=some (.cells v e g c s ow)):L.q=none:=h.q hj hm (by intro e;cases e)
theorem Inv.sO (h:Inv ρ w0 j H w) {j':J} {w':World} (hs:Sub j j') (h1:w.heap.size≤w'.heap.size) (h2: ∀b,b<w.heap.size→ ¬Mine j b→w'.heap[b]? =w.heap[b]?) (h3: ∀b,Mine j' b→Mine j b∨w.heap.size≤b):w0.G H.gs j' w':=w0.abE _ _ _ _ _ h.eY hs h1 h2 h3
theorem Inv.extend (h:Inv ρ w0 j H w) (o:Obj) (ho: ∀v e g t sh ow,o= .cells v e g (some t) sh ow→t≤H.nx+1):Inv ρ w0 j (H.alloc o) w:=by
 rw [Heap.alloc_eq];have old: ∀n L,j n=some L→(H.m.set H.nx o).get n=H.m.get n:=fun n L e=>T.jl _ _ (by have:=h.dom n L e;omega);refine ⟨h.fr,fun n L e=>ydm (h.dom n L e),h.blk,fun n o' e=> ?_,fun n L e=> ?_,fun n m Ln Lm hne e1 e2 q1 q2 hb=> ?_,fun n v e g t sh ow he=> ?_,fun g x e=>ycz (h.mJ g x e),fun n L v e g c sh e1 e2=> ?_,h.fz,fun n L v e c sh e1 e2=>h.kW n L v e c sh e1 (by rw [←old n L e1];exact e2),h.n0,ydq _,h.FU (by have:=h.jo;omega) o,?_⟩
 ·show n<H.nx+1;rw [show (H.m.set H.nx o).get n=if n=H.nx then some o else H.m.get n from T.lI _ _ _ _] at e;split at e
  ·omega
  ·have:=h.used n o' e;omega
 ·obtain ⟨o',h1,h2⟩:=h.obj n L e;exact ⟨o',by rw [old n L e];exact h1,h2⟩
 ·obtain ⟨vn,en,gn,cn,sn,on,vm,em,gm,cm,sm,om,h1,h2,h3⟩:=h.sep n m Ln Lm hne e1 e2 q1 q2 hb;exact ⟨vn,en,gn,cn,sn,on,vm,em,gm,cm,sm,om,by rw [old n Ln e1];exact h1,by rw [old m Lm e2];exact h2,h3⟩
 ·show t≤H.nx+1;rw [show (H.m.set H.nx o).get n=if n=H.nx then some o else H.m.get n from T.lI _ _ _ _] at he;split at he
  ·exact ho _ _ _ _ _ _ (yaC he)
  ·have:=h.oD n v e g t sh ow he;omega
 ·rw [old n L e1] at e2;exact h.jY n L v e g c sh e1 e2
 ·rw [Em H _ (by have:=h.jo;omega)];exact h.eY
theorem St.extend (h:Inv ρ w0 j H w) (o:Obj):St j H j (H.alloc o):=by
 rw [Heap.alloc_eq];refine ⟨Sub.refl j,(fun n L e e'=>by rw [e] at e';cases e'),fun n _ _ hn=>⟨?_,rfl⟩,Nat.le_succ _⟩;show (H.m.set H.nx o).get n=_;exact T.jl _ _ (by omega)
def uM (ρ:Val) (j:J) (o:Obj) (ob:Go.Obj) (c:Nat):Prop:=
 match o with
 | .cells v bq _ closed _ own=>own=true∧closed=none∧ ∃arr e,ob= .cells arr e (0,0)∧v.n≤arr.size∧(c*bq≤arr.size∧(0<c→v.n≤c*bq))∧ ∀i,i<v.n→ ∃x,arr[i]? =some x∧R ρ j (v.get i) x
 | .map es clock=>c=0∧ ∃arr,ob= .map arr clock∧RM ρ j es arr.toList
 | .iter m since seen stepped=>c=0∧ ∃m' sa,ob= .mapIter m' since sa stepped∧sa.toList=seen∧(match m with|none=>m'=none|some n=> ∃Lm,j n=some Lm∧m'=some Lm.blk)
 | .qF es=>c=0∧ ∃arr clock es',ob= .map arr clock∧es'.Perm es∧RK ρ j es' arr.toList
 | .dB _ _=>False
 | .opq=>False
 | .gs _=>False
theorem mH.grow {o:Obj} {L:Loc} {gw:T Nat} {j':J} {w':World} (hs:Sub j j') (hw:L.q=none→w'.heap[L.blk]? =w.heap[L.blk]?) (h:mH ρ j w0 w gw L o):mH ρ j' w0 w' gw L o:=by
 cases o with
 | cells v bq g closed sh own=>
  obtain ⟨h0,h1,h2⟩:=h;have hw:=hw h0;refine ⟨h0,h1,fun ha=> ?_⟩;obtain ⟨arr,e,fr,h3,h4,h5,h6⟩:=h2 ha;exact ⟨arr,e,fr,hw▸h3,h4,h5,fun i hi=>let ⟨x,h7,h8⟩:=h6 i hi;⟨x,h7,h8.mono hs⟩⟩
 | map es clock=>
  obtain ⟨h0,h1,h2,arr,h3,h4⟩:=h;have hw:=hw h0;exact ⟨h0,h1,h2,arr,hw▸h3,h4.mono hs⟩
 | iter m since seen stepped=>
  obtain ⟨h0,h1,h2,m',sa,h3,h4,h5⟩:=h;have hw:=hw h0;refine ⟨h0,h1,h2,m',sa,hw▸h3,h4,?_⟩;cases m with
  | none=>exact h5
  | some n=>obtain ⟨Lm,e,x⟩:=h5;exact ⟨Lm,hs _ _ e,x⟩
 | qF es=>
  obtain ⟨h0,h1,h2,arr,clock,es',h3,h4,h5⟩:=h;have hw:=hw h0;exact ⟨h0,h1,h2,arr,clock,es',hw▸h3,h4,h5.mono hs⟩
 | dB kn log=>
  obtain ⟨h0,h1,h2,arr,clock,dm,eU,m0,m1,h3,h4,h5,h6,h7,h8⟩:=h;have hw:=hw h0;exact ⟨h0,h1,h2,arr,clock,dm,eU,m0,m1,hw▸h3,h4,⟨h5.1,h5.2.1,fun e he=>(h5.2.2 e he).mono hs⟩,h6.mono hs,h7.mono hs,h8⟩
 | opq=>exact h
 | gs k=>exact h.elim
theorem Inv.JL (h:Inv ρ w0 j H w) {n:Nat} {o:Obj} {ob:Go.Obj} {c:Nat} (hn:H.m.get n=some o) (hj:j n=none) (hnew:uM ρ j o ob c)
  (hg: ∀v e g cl sh,o= .cells v e g cl sh true→g=n∨ ∃Lg,j g=some Lg):
  Inv ρ w0 (iV j n ⟨w.heap.size,0,c,none⟩) H { w with heap:=w.heap.push ob }:=by
 have hsub:=pR (L:=⟨w.heap.size,0,c,none⟩) hj;have hold: ∀i,i<w.heap.size→(w.heap.push ob)[i]? =w.heap[i]? :=fun i hi=>by
  rw [Array.getElem?_push];rw [yai (by omega)]
 have hne: ∀k L,j k=some L→k≠n:=fun k L e hk=>by subst hk;rw [hj] at e;cases e
 have hback: ∀k L,iV j n ⟨w.heap.size,0,c,none⟩ k=some L→(k=n∧L=⟨w.heap.size,0,c,none⟩)∨(k≠n∧j k=some L):=fun k L e=>by
  by_cases hk:k=n
  ·subst hk;rw [lC] at e;exact .inl ⟨rfl,(yaC e).symm⟩
  ·rw [lu _ _ hk] at e;exact .inr ⟨hk,e⟩
 have hfr:Fr w0 { w with heap:=w.heap.push ob }:=h.fr.then rfl rfl rfl (by simp) (fun i hi _=>hold i hi)
 refine ⟨hfr,fun k L e=> ?_,fun k L e q=> ?_,h.used,fun k L e=> ?_,fun k m Lk Lm hkm e1 e2 q1 q2 hb=> ?_,h.oD,h.mJ,fun k L v e g cl sh e1 e2=> ?_,fun k L hjk hq hi cs e fr he=> ?_,fun k L v e cl sh e1 e2=>(hback k L e1).elim (fun x=>x.2▸rfl) (fun x=>h.kW k L v e cl sh x.2 e2),?_,h.jo,h.z0,?_⟩
 ·rcases hback k L e with ⟨rfl,_⟩|⟨_,e⟩
  ·exact h.used _ _ hn
  ·exact h.dom k L e
 ·show L.blk<(w.heap.push ob).size;rcases hback k L e with ⟨_,rfl⟩|⟨_,e⟩
  ·simp
  ·have:=h.blk k L e q;simp;omega
 ·rcases hback k L e with ⟨rfl,rfl⟩|⟨_,e⟩
  ·refine ⟨o,hn,?_⟩;have hown:w0.own w.heap.size:=Or.inl h.fr.size;have Fj:(w.heap.push ob)[w.heap.size]? =some ob:=by simp
   cases o with
   | cells v bq g cl sh own=>
    obtain ⟨ho,_,arr,e',rfl,h1,h2,h3⟩:=hnew;refine ⟨rfl,by rw [yaj ho];exact hown,fun _=>⟨arr,e',(0,0),Fj,by simpa using h1,⟨by simpa using h2.1,h2.2⟩,fun i hi=> ?_⟩⟩;obtain ⟨x,h4,h5⟩:=h3 i hi;exact ⟨x,by simpa using h4,h5.mono hsub⟩
   | map es clock=>
    obtain ⟨_,arr,rfl,h1⟩:=hnew;exact ⟨rfl,hown,rfl,arr,Fj,h1.mono hsub⟩
   | iter m since seen stepped=>
    obtain ⟨_,m',sa,rfl,h1,h2⟩:=hnew;refine ⟨rfl,hown,rfl,m',sa,Fj,h1,?_⟩;cases m with
    | none=>exact h2
    | some n=>obtain ⟨Lm,e,x⟩:=h2;exact ⟨Lm,hsub _ _ e,x⟩
   | qF es=>
    obtain ⟨_,arr,clock,es',rfl,h1,h2⟩:=hnew;exact ⟨rfl,hown,rfl,arr,clock,es',Fj,h1,h2.mono hsub⟩
   | dB=>exact hnew.elim
   | opq=>exact hnew.elim
   | gs=>exact hnew.elim
  ·obtain ⟨o',h1,h2⟩:=h.obj k L e;exact ⟨o',h1,mH.grow hsub (fun q=>hold _ (h.blk k L e q)) h2⟩
 ·rcases hback k Lk e1 with ⟨rfl,rfl⟩|⟨_,e1⟩<;>rcases hback m Lm e2 with ⟨rfl,rfl⟩|⟨_,e2⟩
  ·exact absurd rfl hkm
  ·rename_i e2;have:=h.blk m Lm e2 q2;rw [←hb] at this;exact absurd this (ybX _)
  ·rename_i e1 _;have:=h.blk k Lk (by assumption) q1;rw [hb] at this;exact absurd this (ybX _)
  ·exact h.sep k m Lk Lm hkm (by assumption) (by assumption) q1 q2 hb
 ·rcases hback k L e1 with ⟨rfl,rfl⟩|⟨_,e1⟩
  ·rw [hn] at e2;rcases hg _ _ _ _ _ (yaC e2) with rfl|⟨Lg,e3⟩
   ·exact ⟨_,lC _ _ _⟩
   ·exact ⟨Lg,hsub _ _ e3⟩
  ·obtain ⟨Lg,e3⟩:=h.jY k L v e g cl sh e1 e2;exact ⟨Lg,hsub _ _ e3⟩
 ·have he:(w.heap.push ob)[L.blk]? =some (.cells cs e fr):=he;rcases hback k L hjk with ⟨rfl,rfl⟩|⟨_,hjk⟩
  ·rw [show (w.heap.push ob)[w.heap.size]? =some ob by simp] at he;cases o with
   | cells v bq g cl sh own=>
    obtain ⟨_,_,arr,e',rfl,_⟩:=hnew;cases he;rfl
   | map es clock=>obtain ⟨_,arr,rfl,_⟩:=hnew;cases he
   | iter m since seen stepped=>obtain ⟨_,m',sa,rfl,_⟩:=hnew;cases he
   | qF es=>obtain ⟨_,arr,clock,es',rfl,_⟩:=hnew;cases he
   | dB=>exact hnew.elim
   | opq=>exact hnew.elim
   | gs=>exact hnew.elim
  ·rw [hold _ (h.blk k L hjk hq)] at he;exact h.fz k L hjk hq hi cs e fr he
 ·by_cases hk:0=n
  ·rw [←hk] at hn;obtain ⟨kk,rfl⟩:=h.z0 _ hn;exact hnew.elim
  ·rw [lu _ _ hk];exact h.n0
 ·refine h.sO hsub (by simp) (fun b hb _=>hold b hb) (fun b hb=> ?_);obtain ⟨k,L,e,q,rfl⟩:=hb;rcases hback k L e with ⟨_,rfl⟩|⟨_,e⟩
  ·exact Or.inr (yab _)
  ·exact Or.inl ⟨k,L,e,q,rfl⟩
theorem Inv.alloc (h:Inv ρ w0 j H w) {o:Obj} {ob:Go.Obj} {c:Nat} (hnew:uM ρ j o ob c)
  (hg: ∀v e g cl sh,o= .cells v e g cl sh true→g=H.nx∨ ∃Lg,j g=some Lg):
  Inv ρ w0 (iV j H.nx ⟨w.heap.size,0,c,none⟩) (H.alloc o) { w with heap:=w.heap.push ob }∧St j H (iV j H.nx ⟨w.heap.size,0,c,none⟩) (H.alloc o):=by
 have hj:j H.nx=none:=by
  cases e:j H.nx with
  | none=>rfl
  | some L=>exact absurd (h.dom _ _ e) (ybX _)
 have h1:=h.extend o (fun v e g t sh ow ho=>by
  subst ho;obtain ⟨_,hc,_⟩:=hnew;cases hc)
 have hn:(H.alloc o).m.get H.nx=some o:=by rw [Heap.alloc_eq];exact T.get_set_same _ _ _
 refine ⟨h1.JL hn hj hnew hg,pR hj,fun n L e e0=> ?_,(St.extend h o).keep,(St.extend h o).nx⟩;by_cases hk:n=H.nx
 ·omega
 ·rw [lu _ _ hk,e0] at e;cases e
theorem zEK {n:Nat} {v:Vec} (h:H.row n=some v): ∃e g c sh ow,H.m.get n=some (.cells v e g c sh ow)∧alive H.gw g c=true:=by
 unfold Heap.row at h;split at h
 ·split at h
  ·rename_i hm _ ha;cases h;exact ⟨_,_,_,_,_,hm,ha⟩
  ·cases h
 ·cases h
theorem Inv.row (h:Inv ρ w0 j H w) {n:Nat} {L:Loc} {v:Vec} (hj:j n=some L) (hr:H.row n=some v):
  ∃ arr e fr,w.heap[L.blk]? =some (.cells arr e fr)∧L.off+v.n≤arr.size∧ ∀i,i<v.n→ ∃x,arr[L.off+i]? =some x∧R ρ j (v.get i) x:=by
 obtain ⟨e,g,c,sh,ow,hm,ha⟩:=zEK hr;obtain ⟨o,h1,h2⟩:=h.obj n L hj;rw [hm] at h1;cases h1;obtain ⟨arr,e,fr,h3,h4,_,h5⟩:=h2.2.2 ha;exact ⟨arr,e,fr,h3,h4,h5⟩
theorem Inv.cell (h:Inv ρ w0 j H w) {n off:Nat} {L:Loc} {v:Vec} (hj:j n=some L) (hr:H.row n=some v) (ho:off<v.n):
  ∃ x,w.cell? ⟨L.blk,L.off+off,none⟩=some x∧R ρ j (v.get off) x:=by
 obtain ⟨arr,e,fr,h1,_,h3⟩:=h.row hj hr;obtain ⟨x,h4,h5⟩:=h3 off ho;exact ⟨x,by simp [World.cell?,h1,h4],h5⟩
theorem addr_add (b o i:Nat):(⟨b,o,none⟩:Addr).add i=⟨b,o+i,none⟩:=by unfold Addr.add;split<;>simp_all
theorem Inv.loadCells {P:Program} (h:Inv ρ w0 j H w) {n off k:Nat} {L:Loc} {v:Vec} (hj:j n=some L) (hr:H.row n=some v) (ho:off+k≤v.n):
  ∃ xs:List Value,(Go.loadCells ⟨L.blk,L.off+off,none⟩ k).run P w= .ok xs.toArray w∧RL ρ j (v.list off k) xs:=by
 have hc: ∀i,i<k→ ∃x,w.cell? ⟨L.blk,L.off+off+i,none⟩=some x∧R ρ j (v.get (off+i)) x:=fun i hi=>by
  have:=h.cell hj hr (off:=off+i) (by omega)
  rwa [←ybf] at this
 let f:Nat→Value:=fun i=>(w.cell? ⟨L.blk,L.off+off+i,none⟩).getD undef
 refine ⟨(List.range k).map f,run_loadCells w _ k f fun i hi=> ?_,RL.zQ (by simp [Vec.qE]) fun i a ha=> ?_⟩
 ·obtain ⟨x,h1,_⟩:=hc i hi;rw [addr_add,h1];simp [f,h1]
 ·have hi:i<k:=by
   rcases ybT i k with h'|h'
   ·exact h'
   ·rw [ya1 (by rw [Vec.qE];exact h')] at ha;cases ha
  rw [Vec.zb k v off i hi] at ha;obtain ⟨x,h1,h2⟩:=hc i hi;refine ⟨x,by simp [hi,f,h1],?_⟩;rw [←yaC ha];exact h2
theorem zyM (gw:T Nat) (g x g':Nat) (c:Option Nat) (h:alive (gw.set g x) g' c=true) (hx: ∀y,gw.get g=some y→y≤x):alive gw g' c=true:=by
 unfold alive at*;cases c with
 | none=>rfl
 | some t=>
  simp only at*;by_cases hg:g'=g
  ·subst hg;rw [T.get_set_same] at h;simp only [yaF] at h;cases e:gw.get g' with
   | none=>rfl
   | some y=>simp only [yaF];have:=hx y e;omega
  ·rw [T.jl _ _ hg] at h;exact h
theorem Inv.stored (h:Inv ρ w0 j H w) {n off:Nat} {L:Loc} {v:Vec} {bq g:Nat} {sh:Bool} {l:List AV} {vs:List Value} {zf:T Nat} (hj:j n=some L)
  (hm:H.m.get n=some (.cells v bq g none sh true)) (hl:off+l.length≤v.n) (hc:yg l=true) (hr:RL ρ j l vs)
  (hA: ∀g' c,alive zf g' c=true→alive H.gw g' c=true)
  (hB: ∀m Lm vm em gm cm sm om,m≠n→j m=some Lm→Lm.blk=L.blk→H.m.get m=some (.cells vm em gm cm sm om)→alive zf gm cm=false)
  (hC: ∀g x,zf.get g=some x→x≤H.nx) (P:Program):
  ∃ w',(storeCells ⟨L.blk,L.off+off,none⟩ vs).run P w= .ok () w'∧Inv ρ w0 j ⟨H.m.set n (.cells (v.put off l) bq g none false true),H.nx,zf⟩ w':=by
 obtain ⟨o,h1,h2⟩:=h.obj n L hj;rw [hm] at h1;cases h1;obtain ⟨hq,hbase,hcont⟩:=h2;rw [yaj rfl] at hbase;obtain ⟨arr,e,fr,hb,hs1,hs2,hcells⟩:=hcont rfl;have hfr:=h.fz _ _ hj hq hbase _ _ _ hb;subst hfr;have hlen:=hr.length;have hrun:=ydx (P:=P) L.blk (L.off+off) e vs 0 arr w hb (by omega) (OE hr hc);refine ⟨_,hrun,?_⟩;generalize BH:(arr.toList.take (L.off+off+0)++vs++arr.toList.drop (L.off+off+0+vs.length)).toArray=arr';have hsz:arr'.size=arr.size:=by rw [←BH];simp;omega
 have hget: ∀k,arr'[k]? =if L.off+off≤k∧k<L.off+off+vs.length then vs[k-(L.off+off)]? else arr[k]? :=fun k=>by
  rw [←BH];simp only [ybk,yaA];by_cases hk:k<L.off+off
  ·rw [yai (by omega),ybl,yaV (by simp;omega),ybw hk];simp
  ·by_cases hk2:k<L.off+off+vs.length
   ·rw [yaj (by omega),ybl,yaW (by simp;omega),yaV (by simp;omega)];congr 1;simp;omega
   ·rw [yai (by omega),yaW (by simp;omega),yb5];simp only [yaX,ybD,yba,ybt];congr 1;omega
 have hset:=setRow_heap w L.blk arr arr' e (0,0) hb;have hoth: ∀k,k≠L.blk→(w.setRow L.blk arr').heap[k]? =w.heap[k]? :=fun k hk=>setRow_other w L.blk k arr' hk;have hold: ∀k,k≠n→(H.m.set n (.cells (v.put off l) bq g none false true)).get k=H.m.get k:=fun k hk=>T.jl _ _ hk;refine ⟨h.fr.then (by simp) (by simp) rfl (by simp) (fun i _ ho=>hoth i (fun e=>ho (e▸hbase))),h.dom,fun k Lk e q=>by simpa using h.blk k Lk e q,fun k o' e=> ?_,fun k Lk e=> ?_,fun k m Lk Lm hkm e1 e2 q1 q2 hbk=> ?_,fun k v' e' g' t sh' ow he=> ?_,hC,fun k Lk v' e' g' c sh' e1 e2=> ?_,fun k Lk hjk hqk hi c e' fr he=> ?_,fun k Lk v' e' c sh' e1 e2=> ?_,h.n0,h.jo,h.FU (h.rF hj) _,?_⟩
 ·by_cases hk:k=n
  ·subst hk;exact h.dom _ _ hj
  ·rw [hold k hk] at e;exact h.used k o' e
 ·by_cases hk:k=n
  ·subst hk;rw [hj] at e;cases e;refine ⟨_,T.get_set_same _ _ _,hq,by rw [yaj rfl];exact hbase,fun _=>⟨arr',e,(0,0),hset,by rw [Vec.zO,hsz];exact hs1,⟨by rw [hsz];exact hs2.1,by rw [Vec.zO];exact hs2.2⟩,fun i hi=> ?_⟩⟩;rw [Vec.zO] at hi;rw [hget,Vec.get_put];by_cases hin:off≤i∧i<off+l.length
   ·rw [yaj (by omega),ydB hin];obtain ⟨x,h3,h4⟩:=hr.get (i-off) _ (yao (by omega));exact ⟨x,by rw [←h3];congr 1;omega,h4⟩
   ·rw [yai (by omega),ydC hin];exact hcells i hi
  ·obtain ⟨o',h3,h4⟩:=h.obj k Lk e;refine ⟨o',by rw [hold k hk];exact h3,?_⟩;by_cases hqk:Lk.q=none
   case neg=>
    cases o' with
    | opq=>exact h4
    | gs=>exact h4.elim
    | _=>exact absurd h4.1 hqk
   by_cases hbk:Lk.blk=L.blk
   ·obtain ⟨vn,en,gn,cn,sn,on,vm,em,gm,cm,sm,om,h5,h6,_⟩:=h.sep k n Lk L hk e hj hqk hq hbk;rw [h3] at h5;cases h5;refine ⟨h4.1,h4.2.1,fun ha=> ?_⟩;rw [hB k Lk vn en gn cn sn on hk e hbk h3] at ha;cases ha
   ·have hw:=hoth _ hbk;cases o' with
    | cells v' aah g' c' sh' ow'=>exact ⟨h4.1,h4.2.1,fun ha=>let ⟨a1,a2,a3,a4,a5⟩:=h4.2.2 (hA _ _ ha);⟨a1,a2,a3,by rw [hw];exact a4,a5⟩⟩
    | map es clock=>obtain ⟨a0,a1,a2,a3,a4,a5⟩:=h4;exact ⟨a0,a1,a2,a3,by rw [hw];exact a4,a5⟩
    | iter m since seen stepped=>obtain ⟨a0,a1,a2,a3,a4,a5,a6⟩:=h4;exact ⟨a0,a1,a2,a3,a4,by rw [hw];exact a5,a6⟩
    | qF es=>obtain ⟨a0,a1,a2,a3,a4,a5,a6⟩:=h4;exact ⟨a0,a1,a2,a3,a4,a5,by rw [hw];exact a6⟩
    | dB kn log=>obtain ⟨a0,a1,a2,a3,a4,a5,a6,a7,a8,a9,JI⟩:=h4;exact ⟨a0,a1,a2,a3,a4,a5,a6,a7,a8,by rw [hw];exact a9,JI⟩
    | opq=>exact h4
    | gs=>exact h4.elim
 ·obtain ⟨vn,en,gn,cn,sn,on,vm,em,gm,cm,sm,om,h3,h4,h5,h6⟩:=h.sep k m Lk Lm hkm e1 e2 q1 q2 hbk;by_cases hk:k=n
  ·subst hk;have hmk:m≠k:=fun h'=>hkm h'.symm;rw [hj] at e1;cases e1;rw [hm] at h3;cases h3;refine ⟨_,_,_,_,_,_,vm,em,gm,cm,sm,om,T.get_set_same _ _ _,by rw [hold m hmk];exact h4,h5,fun ho=>⟨(h6 ho).1,fun _ ha=> ?_⟩⟩;rw [hB m Lm vm em gm cm sm om hmk e2 hbk.symm h4] at ha;cases ha
  ·by_cases hmn:m=n
   ·subst hmn;rw [hj] at e2;cases e2;rw [hm] at h4;cases h4;refine ⟨vn,en,gn,cn,sn,on,_,_,_,_,_,_,by rw [hold k hk];exact h3,T.get_set_same _ _ _,h5,fun ho=>⟨(h6 ho).1,fun ha=> ?_⟩⟩;rw [hB k Lk vn en gn cn sn on hk e1 hbk h3] at ha;cases ha
   ·exact ⟨vn,en,gn,cn,sn,on,vm,em,gm,cm,sm,om,by rw [hold k hk];exact h3,by rw [hold m hmn];exact h4,h5,fun ho=>⟨(h6 ho).1,fun a1 a2=>(h6 ho).2 (hA _ _ a1) (hA _ _ a2)⟩⟩
 ·by_cases hk:k=n
  ·subst hk;rw [T.get_set_same] at he;cases he
  ·rw [hold k hk] at he;exact h.oD k v' e' g' t sh' ow he
 ·by_cases hk:k=n
  ·subst hk;rw [T.get_set_same] at e2;cases e2;exact h.jY k Lk _ _ _ _ _ e1 hm
  ·rw [hold k hk] at e2;exact h.jY k Lk v' e' g' c sh' e1 e2
 ·by_cases hi2:Lk.blk=L.blk
  ·rw [hi2] at he;rw [hset] at he;cases he;rfl
  ·rw [hoth _ hi2] at he;exact h.fz k Lk hjk hqk hi c e' fr he
 ·by_cases hk:k=n
  ·subst hk;rw [T.get_set_same] at e2;cases e2;exact h.kW _ Lk _ _ _ _ e1 hm
  ·rw [hold k hk] at e2;exact h.kW k Lk v' e' c sh' e1 e2
 ·rw [Em H _ (h.rF hj)];exact h.sO (Sub.refl j) (by simp) (fun b _ hb=>hoth b (fun e=>hb ⟨n,L,hj,hq,e.symm⟩)) (fun b hb=>Or.inl hb)
theorem Inv.store (h:Inv ρ w0 j H w) {n off:Nat} {L:Loc} {l:List AV} {vs:List Value} {H':Heap} (hst:H.store n off l=some H') (hj:j n=some L) (hr:RL ρ j l vs) (P:Program):
    ∃ w',(storeCells ⟨L.blk,L.off+off,none⟩ vs).run P w= .ok () w'∧Inv ρ w0 j H' w'∧St j H j H':=by
  unfold Heap.store at hst;split at hst
  case h_2=>cases hst
  rename_i v bq g sh hm;split at hst
  case h_2=>cases hst
  rename_i hle hc;have hle:off+l.length≤v.n:=yal hle;have hgs:=h.jY n L v bq g none sh hj hm;have hne: ∀k,j k=none→k≠n:=fun k e hk=>by subst hk;rw [hj] at e;cases e
  split at hst
  · cases hst;obtain ⟨w',h1,h2⟩:=h.stored hj hm hle hc hr (zf:=H.gw) (fun _ _ x=>x) (fun m Lm vm em gm cm sm om hmn e hb hmm=>by
      obtain ⟨vn,en,gn,cn,sn,on,TJ,EL,Qu,Qh,sm',Sr,h3,h4,h5,h6⟩:=h.sep n m L Lm (fun h'=>hmn h'.symm) hj e (h.kZ hj hm) (h.kZ e hmm) hb.symm;rw [hm] at h3;cases h3;rw [hmm] at h4;cases h4;cases ha:alive H.gw gm cm with
      | false=>rfl
      | true=>exact absurd ((h6 rfl).2 rfl ha rfl).1 (by simp)) h.mJ P
    refine ⟨w',h1,by rw [Heap.nL];exact h2,?_⟩;rw [Heap.nL];exact ⟨Sub.refl j,(fun k L e e'=>by rw [e] at e';cases e'),fun k _ e _=>⟨T.jl _ _ (hne k e),rfl⟩,yab _⟩
  · cases hst;obtain ⟨w',h1,h2⟩:=h.stored hj hm hle hc hr (zf:=H.gw.set g H.nx) (fun g' c x=>zyM _ _ _ _ _ x (fun y hy=>h.mJ g y hy)) (fun m Lm vm em gm cm sm om hmn e hb hmm=>by
      obtain ⟨vn,en,gn,cn,sn,on,TJ,EL,Qu,Qh,sm',Sr,h3,h4,h5,h6⟩:=h.sep n m L Lm (fun h'=>hmn h'.symm) hj e (h.kZ hj hm) (h.kZ e hmm) hb.symm;rw [hm] at h3;cases h3;rw [hmm] at h4;cases h4;obtain ⟨rfl,h7⟩:=h6 rfl;cases cm with
      | none=>exact absurd rfl (h7 rfl rfl rfl).2.1
      | some t=>
        have:=h.oD m vm em g t sm _ hmm;simp only [alive,T.get_set_same];cases hx:Nat.blt H.nx t with
        | false=>rfl
        | true=>rw [yaF] at hx;omega)
      (fun g' x e=>by
        by_cases hg:g'=g
        · subst hg;rw [T.get_set_same] at e;cases e;exact yab _
        · rw [T.jl _ _ hg] at e;exact h.mJ g' x e) P
    refine ⟨w',h1,by rw [Heap.TM,Heap.nL];exact h2,?_⟩;rw [Heap.TM,Heap.nL];obtain ⟨Lg,qo⟩:=hgs;exact ⟨Sub.refl j,(fun k L e e'=>by rw [e] at e';cases e'),fun k _ e _=>⟨T.jl _ _ (hne k e),T.jl _ _ (fun hk=>by subst hk;rw [qo] at e;cases e)⟩,yab _⟩
theorem Inv.turned (h:Inv ρ w0 j H w) {n:Nat} {L:Loc} {v:Vec} {row:List AV} (hj:j n=some L) (hm:H.m.get n=some (.cells v 0 n none false true)) (hl:row.length=v.n)
  {w':World} {arr':Array Value} {e':TypeId} (hset:w'.heap[L.blk]? =some (.cells arr' e' (0,0))) (hoth: ∀k,k≠L.blk→w'.heap[k]? =w.heap[k]?) (hsize:w'.heap.size=w.heap.size)
  (hos:w'.os=w.os) (hout:w'.output=w.output) (aa4:w'.tape=w.tape) (hn:L.off+v.n≤arr'.size) (hc: ∀i a,row[i]? =some a→ ∃x,arr'[L.off+i]? =some x∧R ρ j a x):
  Inv ρ w0 j ⟨H.m.set n (.cells (Vec.ofList row) 0 n none false true),H.nx,H.gw⟩ w':=by
 obtain ⟨o,h1,h2⟩:=h.obj n L hj;rw [hm] at h1;cases h1;obtain ⟨hq,hbase,hcont⟩:=h2;rw [yaj rfl] at hbase;obtain ⟨arr,e,fr,hb,hs1,hs2,hcells⟩:=hcont rfl;have hB: ∀m Lm vm em gm cm sm om,m≠n→j m=some Lm→Lm.blk=L.blk→H.m.get m=some (.cells vm em gm cm sm om)→alive H.gw gm cm=false:=fun m Lm vm em gm cm sm om hmn e hb hmm=>by
  obtain ⟨vn,en,gn,cn,sn,on,TJ,EL,Qu,Qh,sm',Sr,h3,h4,h5,h6⟩:=h.sep n m L Lm (fun h'=>hmn h'.symm) hj e (h.kZ hj hm) (h.kZ e hmm) hb.symm;rw [hm] at h3;cases h3;rw [hmm] at h4;cases h4;cases ha:alive H.gw gm cm with
  | false=>rfl
  | true=>exact absurd ((h6 rfl).2 rfl ha rfl).1 (by simp)
 have hold: ∀k,k≠n→(H.m.set n (.cells (Vec.ofList row) 0 n none false true)).get k=H.m.get k:=fun k hk=>T.jl _ _ hk;refine ⟨h.fr.then hos hout aa4 (by omega) (fun i _ ho=>hoth i (fun e=>ho (e▸hbase))),h.dom,fun k Lk e q=>by rw [hsize];exact h.blk k Lk e q,fun k o' e=> ?_,fun k Lk e=> ?_,fun k m Lk Lm hkm e1 e2 q1 q2 hbk=> ?_,fun k v' e' g' t sh' ow he=> ?_,h.mJ,fun k Lk v' e' g' c sh' e1 e2=> ?_,fun k Lk hjk hqk hi c e' fr he=> ?_,fun k Lk v' e' c sh' e1 e2=> ?_,h.n0,h.jo,h.FU (h.rF hj) _,?_⟩
 ·by_cases hk:k=n
  ·subst hk;exact h.dom _ _ hj
  ·rw [hold k hk] at e;exact h.used k o' e
 ·by_cases hk:k=n
  ·subst hk;rw [hj] at e;cases e;refine ⟨_,T.get_set_same _ _ _,hq,by rw [yaj rfl];exact hbase,fun _=>⟨arr',e',(0,0),hset,by rw [Vec.lQ,hl];exact hn,⟨by omega,fun h0=> ?_⟩,fun i hi=> ?_⟩⟩
   ·rw [Vec.lQ,hl];exact hs2.2 h0
   ·rw [Vec.lQ] at hi;rw [Vec.sN row i hi];exact hc i _ (yao hi)
  ·obtain ⟨o',h3,h4⟩:=h.obj k Lk e;refine ⟨o',by rw [hold k hk];exact h3,?_⟩;by_cases hqk:Lk.q=none
   case neg=>
    cases o' with
    | opq=>exact h4
    | gs=>exact h4.elim
    | _=>exact absurd h4.1 hqk
   by_cases hbk:Lk.blk=L.blk
   ·obtain ⟨vn,en,gn,cn,sn,on,vm,em,gm,cm,sm,om,h5,h6,_⟩:=h.sep k n Lk L hk e hj hqk hq hbk;rw [h3] at h5;cases h5;refine ⟨h4.1,h4.2.1,fun ha=> ?_⟩;have ha:alive H.gw gn cn=true:=ha;rw [hB k Lk vn en gn cn sn on hk e hbk h3] at ha;cases ha
   ·have hw:=hoth _ hbk;cases o' with
    | cells v' aah g' c' sh' ow'=>exact ⟨h4.1,h4.2.1,fun ha=>let ⟨a1,a2,a3,a4,a5⟩:=h4.2.2 ha;⟨a1,a2,a3,by rw [hw];exact a4,a5⟩⟩
    | map es clock=>obtain ⟨a0,a1,a2,a3,a4,a5⟩:=h4;exact ⟨a0,a1,a2,a3,by rw [hw];exact a4,a5⟩
    | iter m since seen stepped=>obtain ⟨a0,a1,a2,a3,a4,a5,a6⟩:=h4;exact ⟨a0,a1,a2,a3,a4,by rw [hw];exact a5,a6⟩
    | qF es=>obtain ⟨a0,a1,a2,a3,a4,a5,a6⟩:=h4;exact ⟨a0,a1,a2,a3,a4,a5,by rw [hw];exact a6⟩
    | dB kn log=>obtain ⟨a0,a1,a2,a3,a4,a5,a6,a7,a8,a9,JI⟩:=h4;exact ⟨a0,a1,a2,a3,a4,a5,a6,a7,a8,by rw [hw];exact a9,JI⟩
    | opq=>exact h4
    | gs=>exact h4.elim
 ·obtain ⟨vn,en,gn,cn,sn,on,vm,em,gm,cm,sm,om,h3,h4,h5,h6⟩:=h.sep k m Lk Lm hkm e1 e2 q1 q2 hbk;by_cases hk:k=n
  ·subst hk;have hmk:m≠k:=fun h'=>hkm h'.symm;rw [hj] at e1;cases e1;rw [hm] at h3;cases h3;refine ⟨_,_,_,_,_,_,vm,em,gm,cm,sm,om,T.get_set_same _ _ _,by rw [hold m hmk];exact h4,h5,fun ho=>⟨(h6 ho).1,fun _ ha=> ?_⟩⟩;have ha:alive H.gw gm cm=true:=ha;rw [hB m Lm vm em gm cm sm om hmk e2 hbk.symm h4] at ha;cases ha
  ·by_cases hmn:m=n
   ·subst hmn;rw [hj] at e2;cases e2;rw [hm] at h4;cases h4;refine ⟨vn,en,gn,cn,sn,on,_,_,_,_,_,_,by rw [hold k hk];exact h3,T.get_set_same _ _ _,h5,fun ho=>⟨(h6 ho).1,fun ha=> ?_⟩⟩;have ha:alive H.gw gn cn=true:=ha;rw [hB k Lk vn en gn cn sn on hk e1 hbk h3] at ha;cases ha
   ·exact ⟨vn,en,gn,cn,sn,on,vm,em,gm,cm,sm,om,by rw [hold k hk];exact h3,by rw [hold m hmn];exact h4,h5,h6⟩
 ·by_cases hk:k=n
  ·subst hk;rw [T.get_set_same] at he;cases he
  ·rw [hold k hk] at he;exact h.oD k v' e' g' t sh' ow he
 ·by_cases hk:k=n
  ·subst hk;rw [T.get_set_same] at e2;cases e2;exact h.jY k Lk _ _ _ _ _ e1 hm
  ·rw [hold k hk] at e2;exact h.jY k Lk v' e' g' c sh' e1 e2
 ·by_cases hi2:Lk.blk=L.blk
  ·rw [hi2] at he;rw [hset] at he;cases he;rfl
  ·rw [hoth _ hi2] at he;exact h.fz k Lk hjk hqk hi c e' fr he
 ·by_cases hk:k=n
  ·subst hk;rw [T.get_set_same] at e2;cases e2;exact h.kW _ Lk _ _ _ _ e1 hm
  ·rw [hold k hk] at e2;exact h.kW k Lk v' e' c sh' e1 e2
 ·rw [Em H _ (h.rF hj)];exact h.sO (Sub.refl j) (by omega) (fun b _ hb=>hoth b (fun e=>hb ⟨n,L,hj,hq,e.symm⟩)) (fun b hb=>Or.inl hb)
def zsM:Obj→Bool
 | .cells .. =>false
 | .opq=>false
 | .gs _=>false
 | _=>true
def Uu:Go.Obj→Bool
 | .cells .. =>false
 | _=>true
theorem Inv.setObj (h:Inv ρ w0 j H w) {n:Nat} {L:Loc} {o o':Obj} {ob:Go.Obj} (hj:j n=some L) (hm:H.m.get n=some o) (ho:zsM o=true) (ho':zsM o'=true)
  (iK:Uu ob=true) (hR: ∀w':World,w'.heap[L.blk]? =some ob→mH ρ j w0 w' H.gw L o'):
  Inv ρ w0 j (H.upd n o') { w with heap:=w.heap.setIfInBounds L.blk ob }∧St j H j (H.upd n o'):=by
 rw [Heap.nL];obtain ⟨o1,h1,h2⟩:=h.obj n L hj;rw [hm] at h1;cases h1;have hq:L.q=none:=h.q hj hm (by intro e;subst e;cases ho);have hbase:w0.own L.blk:=by
  cases o with
  | cells=>cases ho
  | map=>exact h2.2.1
  | iter=>exact h2.2.1
  | qF=>exact h2.2.1
  | dB=>exact h2.2.1
  | opq=>cases ho
  | gs=>cases ho
 have hlt:=h.blk n L hj hq;have hself:(w.heap.setIfInBounds L.blk ob)[L.blk]? =some ob:=by simp [hlt]
 have hoth: ∀k,k≠L.blk→(w.heap.setIfInBounds L.blk ob)[k]? =w.heap[k]? :=fun k hk=>by rw [ybS (ydl hk)]
 have hold: ∀k,k≠n→(H.m.set n o').get k=H.m.get k:=fun k hk=>T.jl _ _ hk;have Li: ∀m Lm,m≠n→j m=some Lm→Lm.q=none→Lm.blk≠L.blk:=fun m Lm hmn e hqm hb=>by
  obtain ⟨vn,en,gn,cn,sn,on,vm,em,gm,cm,sm,om,h3,h4,_⟩:=h.sep m n Lm L hmn e hj hqm hq hb;rw [hm] at h4;cases h4;cases ho
 have hne: ∀k,j k=none→k≠n:=fun k e hk=>by subst hk;rw [hj] at e;cases e
 refine ⟨⟨h.fr.then rfl rfl rfl (by simp) (fun i _ hi=>hoth i (fun e=>hi (e▸hbase))),h.dom,fun k Lk e q=> ?_,fun k o' e=> ?_,fun k Lk e=> ?_,fun k m Lk Lm hkm e1 e2 q1 q2 hbk=> ?_,fun k v' e' g' t sh' ow he=> ?_,h.mJ,fun k Lk v' e' g' c sh' e1 e2=> ?_,fun k Lk hjk hqk hi c e' fr he=> ?_,fun k Lk v' e' c sh' e1 e2=> ?_,h.n0,h.jo,h.FU (h.rF hj) _,?_⟩,
  Sub.refl j,(fun k L e e'=>by rw [e] at e';cases e'),fun k _ e _=>⟨hold k (hne k e),rfl⟩,yab _⟩
 ·show Lk.blk<(w.heap.setIfInBounds L.blk ob).size;simpa using h.blk k Lk e q
 ·by_cases hk:k=n
  ·subst hk;exact h.dom _ _ hj
  ·rw [hold k hk] at e;exact h.used k _ e
 ·by_cases hk:k=n
  ·subst hk;rw [hj] at e;cases e;exact ⟨o',T.get_set_same _ _ _,hR _ hself⟩
  ·obtain ⟨o2,h3,h4⟩:=h.obj k Lk e;exact ⟨o2,by rw [hold k hk];exact h3,mH.grow (Sub.refl j) (fun q=>hoth _ (Li k Lk hk e q)) h4⟩
 ·by_cases hk:k=n
  ·subst hk;rw [hj] at e1;cases e1;exact absurd hbk.symm (Li m Lm (fun h'=>hkm h'.symm) e2 q2)
  ·by_cases hmn:m=n
   ·subst hmn;rw [hj] at e2;cases e2;exact absurd hbk (Li k Lk hk e1 q1)
   ·obtain ⟨vn,en,gn,cn,sn,on,vm,em,gm,cm,sm,om,h3,h4,h5⟩:=h.sep k m Lk Lm hkm e1 e2 q1 q2 hbk;exact ⟨vn,en,gn,cn,sn,on,vm,em,gm,cm,sm,om,by rw [hold k hk];exact h3,by rw [hold m hmn];exact h4,h5⟩
 ·by_cases hk:k=n
  ·subst hk;rw [T.get_set_same] at he;cases he;cases ho'
  ·rw [hold k hk] at he;exact h.oD k v' e' g' t sh' ow he
 ·by_cases hk:k=n
  ·subst hk;rw [T.get_set_same] at e2;cases e2;cases ho'
  ·rw [hold k hk] at e2;exact h.jY k Lk v' e' g' c sh' e1 e2
 ·have he:(w.heap.setIfInBounds L.blk ob)[Lk.blk]? =some (.cells c e' fr):=he;by_cases hi2:Lk.blk=L.blk
  ·rw [hi2,hself] at he;cases he;cases iK
  ·rw [hoth _ hi2] at he;exact h.fz k Lk hjk hqk hi c e' fr he
 ·by_cases hk:k=n
  ·subst hk;rw [T.get_set_same] at e2;cases e2;cases ho'
  ·rw [hold k hk] at e2;exact h.kW k Lk v' e' c sh' e1 e2
 ·rw [Em H _ (h.rF hj)];exact h.sO (Sub.refl j) (by simp) (fun b _ hb=>hoth b (fun e=>hb ⟨n,L,hj,hq,e.symm⟩)) (fun b hb=>Or.inl hb)
theorem Om {n:Nat} {es:List ME} {c:Nat} (h:H.iD n=some (es,c)):H.m.get n=some (.map es c):=by
 unfold Heap.iD at h;split at h
 ·rename_i hm;cases h;exact hm
 ·cases h
theorem Inv.iD (h:Inv ρ w0 j H w) {n:Nat} {L:Loc} {es:List ME} {c:Nat} (hj:j n=some L) (hm:H.iD n=some (es,c)):
  ∃ arr,w.heap[L.blk]? =some (.map arr c)∧RM ρ j es arr.toList:=by
 obtain ⟨o,h1,h2⟩:=h.obj n L hj;rw [Om hm] at h1;cases h1;exact h2.2.2.2
theorem Inv.hand (h:Inv ρ w0 j H w) {n:Nat} (hn:H.m.get n=some .opq) (hj:j n=none) (v:Value):Inv ρ w0 (iV j n ⟨0,0,0,some v⟩) H w:=by
 have hsub:=pR (L:=⟨0,0,0,some v⟩) hj;have hback: ∀k L,iV j n ⟨0,0,0,some v⟩ k=some L→(k=n∧L=⟨0,0,0,some v⟩)∨(k≠n∧j k=some L):=fun k L e=>by
  by_cases hk:k=n
  ·subst hk;rw [lC] at e;exact .inl ⟨rfl,(yaC e).symm⟩
  ·rw [lu _ _ hk] at e;exact .inr ⟨hk,e⟩
 have hbq: ∀k L,iV j n ⟨0,0,0,some v⟩ k=some L→L.q=none→j k=some L:=fun k L e q=>by
  rcases hback k L e with ⟨_,rfl⟩|⟨_,e⟩
  ·cases q
  ·exact e
 refine ⟨h.fr,fun k L e=> ?_,fun k L e q=>h.blk k L (hbq k L e q) q,h.used,fun k L e=> ?_,fun k m Lk Lm hkm e1 e2 q1 q2 hb=>h.sep k m Lk Lm hkm (hbq _ _ e1 q1) (hbq _ _ e2 q2) q1 q2 hb,h.oD,h.mJ,fun k L v' e g cl sh e1 e2=> ?_,
  fun k L e q=>h.fz k L (hbq _ _ e q) q,fun k L v' e cl sh e1 e2=> ?_,?_,h.jo,h.z0,h.sO hsub (yab _) (fun _ _ _=>rfl) fun b hm=> ?_⟩
 ·rcases hback k L e with ⟨rfl,_⟩|⟨_,e⟩
  ·exact h.used _ _ hn
  ·exact h.dom k L e
 ·rcases hback k L e with ⟨rfl,rfl⟩|⟨_,e⟩
  ·exact ⟨.opq,hn,by show (some v)≠none;simp⟩
  ·obtain ⟨o',h1,h2⟩:=h.obj k L e;exact ⟨o',h1,mH.grow hsub (fun _=>rfl) h2⟩
 ·rcases hback k L e1 with ⟨rfl,_⟩|⟨_,e1⟩
  ·rw [hn] at e2;cases e2
  ·obtain ⟨Lg,e3⟩:=h.jY k L v' e g cl sh e1 e2;exact ⟨Lg,hsub _ _ e3⟩
 ·rcases hback k L e1 with ⟨rfl,_⟩|⟨_,e1⟩
  ·rw [hn] at e2;cases e2
  ·exact h.kW k L v' e cl sh e1 e2
 ·by_cases hk:0=n
  ·rw [←hk] at hn;obtain ⟨kk,h1⟩:=h.z0 _ hn;cases h1
  ·rw [lu _ _ hk];exact h.n0
 ·obtain ⟨k,L,e,q,rfl⟩:=hm;exact .inl ⟨k,L,hbq k L e q,q,rfl⟩
theorem run_getObj_map (P:Program) {r:Nat} {arr:Array MapEntry} {c:Nat} (h:w.heap[r]? =some (.map arr c)):(getObj r).run P w= .ok (.map arr c) w:=by
 simp [getObj,Sem.run,h]
theorem run_setObj_map (P:Program) {r:Nat} {o o':Go.Obj} (h:w.heap[r]? =some o) (ho:Uu o=true):(setObj r o').run P w= .ok () { w with heap:=w.heap.setIfInBounds r o' }:=by
 cases o<;>first|(cases ho;done)|simp [setObj,Sem.run,h]
theorem Inv.mapped (h:Inv ρ w0 j H w) {n:Nat} {L:Loc} {es es':List ME} {c c':Nat} {arr':Array MapEntry} (hj:j n=some L) (hm:H.iD n=some (es,c)) (hr:RM ρ j es' arr'.toList) (P:Program):
  ∃ w',(Go.setObj L.blk (.map arr' c')).run P w= .ok () w'∧Inv ρ w0 j (H.upd n (.map es' c')) w'∧St j H j (H.upd n (.map es' c')):=by
 obtain ⟨arr,h1,h2⟩:=h.iD hj hm;obtain ⟨o,h3,h4⟩:=h.obj n L hj;rw [Om hm] at h3;cases h3;exact ⟨_,run_setObj_map P h1 rfl,h.setObj hj (Om hm) rfl rfl rfl fun w' e=>⟨h4.1,h4.2.1,h4.2.2.1,arr',e,hr⟩⟩
end
end Go.Dw
namespace Go.Dw
theorem OG {v:Value} {n:Int} (h:A7 v n=true):v= .int .i64 n:=by
 unfold A7 at h;split at h
 ·rename_i m;have:m=n:=by simpa using h
  rw [this]
 ·cases h
theorem Zq (n:Int):A7 (.int .i64 n) n=true:=by simp [A7]
theorem zAj {l:List MapEntry} (h:l.Pairwise fun a b=>a.key≠b.key) {e:MapEntry} {n:Int} (he:e∈l) (hk:e.key= .int .i64 n):l.find? (fun e=>A7 e.key n)=some e:=by
 induction l with
 | nil=>cases he
 | cons x l ih=>
  rw [ya9] at h;rcases yad.1 he with rfl|he
  ·rw [List.find?_cons_of_pos (by rw [hk];exact Zq n)]
  ·rw [List.find?_cons_of_neg (fun hx=>h.1 e he (by rw [OG hx,hk])),ih h.2 he]
theorem rU {arr:Array MapEntry} (h:jV arr) {e:MapEntry} {n:Int} (he:e∈arr.toList) (hk:e.key= .int .i64 n):dz arr n=some e.val:=by
 unfold dz;rw [zAj h.once he hk];rfl
theorem xW {arr:Array MapEntry} {n:Int} (h: ∀e∈arr.toList,e.key≠ .int .i64 n):dz arr n=none:=by
 unfold dz;rw [List.find?_eq_none.2 (fun e he hk=>h e he (OG hk))];rfl
theorem Ht {arr:Array MapEntry} {n:Int} {v:Value} (h:dz arr n=some v): ∃e∈arr.toList,e.key= .int .i64 n∧e.val=v:=by
 unfold dz at h;rw [yb3] at h;obtain ⟨e,he,rfl⟩:=h;exact ⟨e,List.mem_of_find?_eq_some he,OG (by simpa using List.find?_some he),rfl⟩
theorem NP {arr:Array MapEntry} {n:Int} (h:dz arr n=none): ∀e∈arr.toList,e.key≠ .int .i64 n:=fun e he hk=>by
 unfold dz at h;rw [Option.map_eq_none_iff,List.find?_eq_none] at h;exact h e he (by rw [hk];exact Zq n)
theorem xV {kk:IntKind} {n:Int}: ∀(xs:List MapEntry) (i:Nat),(∀e∈xs,∃m,e.key= .int .i64 m)→
  (Instr.findNow (.int kk) (.int .i64 n) xs i=some none∧ ∀e∈xs,e.key≠ .int .i64 n)∨(∃p e,Instr.findNow (.int kk) (.int .i64 n) xs i=some (some (i+p,e.val))∧xs[p]? =some e∧e.key= .int .i64 n)
 | [], i,_=> .inl ⟨rfl,by simp⟩
 | x::xs,i,h=>by
  obtain ⟨m,hm⟩:=h x (by simp);by_cases hmn:n=m
  ·subst hmn;exact .inr ⟨0,x,by simp [Instr.findNow,Instr.sameNow,hm],rfl,hm⟩
  ·have hs:Instr.findNow (.int kk) (.int .i64 n) (x::xs) i=Instr.findNow (.int kk) (.int .i64 n) xs (i+1):=by
    have hb:(n==m)=false:=by simpa using hmn
    simp [Instr.findNow,Instr.sameNow,hm,hb]
   rw [hs];rcases xV xs (i+1) (fun e he=>h e (by simp [he])) with ⟨h1,h2⟩|⟨p,e,h1,h2,h3⟩
   ·refine .inl ⟨h1,fun e he=> ?_⟩;rcases yad.1 he with rfl|he
    ·rw [hm];intro hh;cases hh;exact hmn rfl
    ·exact h2 e he
   ·exact .inr ⟨p+1,e,by rw [h1];congr 3;omega,by simpa using h2,h3⟩
theorem Dh {α:Type} (l:List α) (f:α→α) (p i:Nat):(l.modify p f)[i]? =if p=i then l[i]?.map f else l[i]? :=by
 rw [List.getElem?_modify];by_cases h:p=i
 ·simp only [yaj h];cases l[i]? <;>rfl
 ·simp only [yai h];cases l[i]? <;>rfl
theorem ZQ {arr:Array MapEntry} (h:jV arr) {p:Nat} {e:MapEntry} {k:Int} {v:Value} (hp:arr.toList[p]? =some e) (hk:e.key= .int .i64 k):
  jV (arr.modify p fun y=> { y with key:= .int .i64 k,val:=v })∧ ∀n,dz (arr.modify p fun y=> { y with key:= .int .i64 k,val:=v }) n=if n=k then some v else dz arr n:=by
 have hlt:p<arr.toList.length:=by
  rw [yax] at hp;exact hp.1
 have hkeys:(arr.modify p fun y=> { y with key:= .int .i64 k,val:=v }).toList.map (·.key)=arr.toList.map (·.key):=by
  rw [ybA];apply ydp;intro i;simp only [ybb,Dh];by_cases ic:p=i
  ·subst ic;rw [hp];simp [hk]
  ·rw [yai ic]
 have hw:jV (arr.modify p fun y=> { y with key:= .int .i64 k,val:=v }):=by
  refine ⟨fun e' he'=> ?_,?_⟩
  ·have:e'.key∈arr.toList.map (·.key):=by rw [←hkeys];exact ycN he'
   obtain ⟨e2,h2,h3⟩:=ya2.1 this;obtain ⟨n,hn⟩:=h.keys e2 h2;exact ⟨n,by rw [←h3];exact hn⟩
  ·have h1:(arr.toList.map (·.key)).Pairwise (· ≠ ·):=ycA.2 h.once;rw [←hkeys] at h1;exact ycA.1 h1
 refine ⟨hw,fun n=> ?_⟩;have hat:(arr.modify p fun y=> { y with key:= .int .i64 k,val:=v }).toList[p]? =some { e with key:= .int .i64 k,val:=v }:=by
  rw [ybA,Dh,yaj rfl,hp];rfl
 by_cases hn:n=k
 ·subst hn;rw [yaj rfl];exact rU hw (ya5 hat) rfl
 ·rw [yai hn];have Sv: ∀e',e'.key≠ .int .i64 k→(e'∈(arr.modify p fun y=> { y with key:= .int .i64 k,val:=v }).toList↔e'∈arr.toList):=fun e' hne=>by
   rw [ybA];simp only [ydb,Dh];constructor
   ·rintro ⟨i,hi⟩;by_cases ic:p=i
    ·subst ic;rw [yaj rfl,hp] at hi;cases hi;exact absurd rfl hne
    ·rw [yai ic] at hi;exact ⟨i,by simpa using hi⟩
   ·rintro ⟨i,hi⟩;by_cases ic:p=i
    ·subst ic;rw [hp] at hi;cases hi;exact absurd hk hne
    ·exact ⟨i,by rw [yai ic];simpa using hi⟩
  cases hv:dz arr n with
  | none=>
   refine xW fun e' he' hk'=> ?_;have hne:e'.key≠ .int .i64 k:=by rw [hk'];intro hh;cases hh;exact hn rfl
   exact NP hv e' ((Sv e' hne).1 he') hk'
  | some u=>
   obtain ⟨e',he',hk',rfl⟩:=Ht hv;have hne:e'.key≠ .int .i64 k:=by rw [hk'];intro hh;cases hh;exact hn rfl
   exact rU hw ((Sv e' hne).2 he') hk'
theorem zvq {arr:Array MapEntry} (h:jV arr) {k:Int} {v:Value} {c:Nat} (hk: ∀e∈arr.toList,e.key≠ .int .i64 k):
  jV (arr.push { key:= .int .i64 k,val:=v,born:=c })∧ ∀n,dz (arr.push { key:= .int .i64 k,val:=v,born:=c }) n=if n=k then some v else dz arr n:=by
 have hw:jV (arr.push { key:= .int .i64 k,val:=v,born:=c }):=by
  refine ⟨fun e he=> ?_,?_⟩
  ·rw [ybg,yaR] at he;rcases he with he|he
   ·exact h.keys e he
   ·rw [yaD] at he;subst he;exact ⟨k,rfl⟩
  ·rw [ybg,List.pairwise_append];refine ⟨h.once,by simp,fun a ha b hb=> ?_⟩;rw [yaD] at hb;subst hb;exact hk a ha
 refine ⟨hw,fun n=> ?_⟩;by_cases hn:n=k
 ·subst hn;rw [yaj rfl];exact rU hw (e:= { key:= .int .i64 n,val:=v,born:=c }) (by rw [ybg];simp) rfl
 ·rw [yai hn];cases hv:dz arr n with
  | none=>
   refine xW fun e he hke=> ?_;rw [ybg,yaR] at he;rcases he with he|he
   ·exact NP hv e he hke
   ·rw [yaD] at he;subst he;cases hke;exact hn rfl
  | some u=>
   obtain ⟨e,he,hke,rfl⟩:=Ht hv;exact rU hw (by rw [ybg];simp [he]) hke
theorem zyW {arr:Array MapEntry} (h:jV arr) {p:Nat} {e:MapEntry} {k:Int} (hp:arr.toList[p]? =some e) (hk:e.key= .int .i64 k):
  jV (arr.eraseIdxIfInBounds p)∧ ∀n,dz (arr.eraseIdxIfInBounds p) n=if n=k then none else dz arr n:=by
 have hl:(arr.eraseIdxIfInBounds p).toList=arr.toList.eraseIdx p:=by
  unfold Array.eraseIdxIfInBounds;split
  ·simp
  ·rw [ydJ];simp;omega
 have hlt:p<arr.toList.length:=by
  rw [yax] at hp;exact hp.1
 have hsub:(arr.toList.eraseIdx p).Sublist arr.toList:=List.eraseIdx_sublist ..;have hw:jV (arr.eraseIdxIfInBounds p):=⟨fun e he=>h.keys e (hsub.subset (by rw [←hl];exact he)),by rw [hl];exact h.once.sublist hsub⟩;have hsplit:arr.toList=arr.toList.take p++e::arr.toList.drop (p+1):=by
  have h1:=ybH p arr.toList;rw [ycl hlt] at h1;rw [yax] at hp;obtain ⟨_,h2⟩:=hp;rw [h2] at h1;exact h1.symm
 have her:arr.toList.eraseIdx p=arr.toList.take p++arr.toList.drop (p+1):=List.eraseIdx_eq_take_drop_succ ..;refine ⟨hw,fun n=> ?_⟩;have hone:=h.once;rw [hsplit,List.pairwise_append] at hone;obtain ⟨_,h2,h3⟩:=hone;rw [ya9] at h2;by_cases hn:n=k
 ·subst hn;rw [yaj rfl];refine xW fun e' he' hke=> ?_;rw [hl,her,yaR] at he';rcases he' with he'|he'
  ·exact h3 e' he' e (by simp) (by rw [hke,hk])
  ·exact h2.1 e' he' (by rw [hke,hk])
 ·rw [yai hn];cases hv:dz arr n with
  | none=>
   refine xW fun e' he' hke=> ?_;rw [hl] at he';exact NP hv e' (hsub.subset he') hke
  | some u=>
   obtain ⟨e',he',hke,rfl⟩:=Ht hv;refine rU hw ?_ hke;rw [hl,her];rw [hsplit] at he';rcases yaR.1 he' with he'|he'
   ·exact ych _ he'
   ·rcases yad.1 he' with rfl|he'
    ·rw [hke] at hk;cases hk;exact absurd rfl hn
    ·exact ycc _ he'
theorem zht {arr:Array MapEntry} {k:Int} (h: ∀e∈arr.toList,e.key≠ .int .i64 k) (n:Int):dz arr n=if n=k then none else dz arr n:=by
 by_cases hn:n=k
 ·rw [yaj hn,hn];exact xW h
 ·rw [yai hn]
section
variable {ρ:Val}
theorem aO.kE (f:aO) (b:Nat):(f.den ρ).testBit b=(decide (f.sh≤b)&&(decide (b-f.sh<f.n)&&(max f.lo (min (ρ.i f.i).toNat f.hi)).testBit (f.fr+(b-f.sh)))):=by
 unfold aO.den;rw [Nat.testBit_shiftLeft,ybZ,Nat.testBit_shiftRight]
theorem GX (W:Nat): ∀(l:List aO) (c:Nat),aN ρ (oI W l) (c%2^W)=aN ρ l c%2^W
 | [], c=>rfl
 | f::l,c=>by
  have ih:=GX W l c;apply ybh;intro b;have ihb:=yaI (fun x=>x.testBit b) ih;simp only [ybZ] at ihb;rw [ybZ];unfold oI;cases h1:Nat.blt f.sh W with
  | false=>
   have h1': ¬f.sh<W:=fun hh=>by rw [←yaF] at hh;rw [hh] at h1;cases h1
   simp only;rw [ihb];show _=(decide (b<W)&&(f.den ρ|||aN ρ l c).testBit b);rw [yaU,aO.kE];by_cases hb:b<W
   ·have: ¬f.sh≤b:=by omega
    simp [hb,this]
   ·simp [hb]
  | true=>
   rw [yaF] at h1;cases h2:Nat.ble (Nat.add f.sh f.n) W with
   | true=>
    have h2:f.sh+f.n≤W:=yal h2;show (f.den ρ|||aN ρ (oI W l) (c%2^W)).testBit b=(decide (b<W)&&(f.den ρ|||aN ρ l c).testBit b);rw [yaU,yaU,ihb,aO.kE];by_cases hb:b<W
    ·simp [hb]
    ·have: ¬b-f.sh<f.n:=by omega
     simp [hb,this]
   | false=>
    have h2: ¬f.sh+f.n≤W:=fun hh=>by
     have e:Nat.ble (Nat.add f.sh f.n) W=true:=ycb hh;rw [e] at h2;cases h2
    show (aO.den ρ ⟨f.i,f.lo,f.hi,f.fr,W-f.sh,f.sh⟩|||aN ρ (oI W l) (c%2^W)).testBit b=(decide (b<W)&&(f.den ρ|||aN ρ l c).testBit b);rw [yaU,yaU,ihb,aO.kE,aO.kE];simp only;by_cases hb:b<W
    ·by_cases hs:f.sh≤b
     ·have e1:b-f.sh<W-f.sh:=by omega
      have e2:b-f.sh<f.n:=by omega
      simp [hb,hs,e1,e2]
     ·simp [hb,hs]
    ·have: ¬b-f.sh<W-f.sh:=by omega
     simp [hb,this]
theorem NS (m:Nat): ∀(l:List aO) (c:Nat),aN ρ (qf m l) (c/2^m)=aN ρ l c/2^m
 | [], c=>rfl
 | f::l,c=>by
  have ih:=NS m l c;apply ybh;intro b;have ihb:=yaI (fun x=>x.testBit b) ih;simp only [←ydQ,Nat.testBit_shiftRight] at ihb ⊢;unfold qf;cases h1:Nat.ble m f.sh with
  | true=>
   have h1:m≤f.sh:=yal h1;show (aO.den ρ ⟨f.i,f.lo,f.hi,f.fr,f.n,f.sh-m⟩|||aN ρ (qf m l) (c>>>m)).testBit b=(f.den ρ|||aN ρ l c).testBit (m+b);rw [yaU,yaU,ihb,aO.kE,aO.kE];simp only;have e1:(f.sh-m≤b)↔(f.sh≤m+b):=by omega
   by_cases hs:f.sh≤m+b
   ·have e2:b-(f.sh-m)=m+b-f.sh:=by omega
    simp [e1,hs,e2]
   ·simp [e1,hs]
  | false=>
   have h1': ¬m≤f.sh:=fun hh=>by rw [ycb hh] at h1;cases h1
   cases h2:Nat.blt m (Nat.add f.sh f.n) with
   | true=>
    have h2:m<f.sh+f.n:=by rw [yaF] at h2;exact h2
    show (aO.den ρ ⟨f.i,f.lo,f.hi,f.fr+(m-f.sh),f.n-(m-f.sh),0⟩|||aN ρ (qf m l) (c>>>m)).testBit b=(f.den ρ|||aN ρ l c).testBit (m+b);rw [yaU,yaU,ihb,aO.kE,aO.kE];simp only;have e1:f.sh≤m+b:=by omega
    have e2:(b<f.n-(m-f.sh))↔(m+b-f.sh<f.n):=by omega
    have e3:f.fr+(m-f.sh)+b=f.fr+(m+b-f.sh):=by omega
    simp [e1,e2,e3]
   | false=>
    have h2': ¬m<f.sh+f.n:=fun hh=>by rw [←yaF] at hh;change Nat.blt m (Nat.add f.sh f.n)=true at hh;rw [hh] at h2;cases h2
    show (aN ρ (qf m l) (c>>>m)).testBit b=(f.den ρ|||aN ρ l c).testBit (m+b);rw [yaU,ihb,aO.kE];have: ¬m+b-f.sh<f.n:=by omega
    simp [this]
theorem Z5 (m:Nat): ∀(l:List aO) (c:Nat),aN ρ (Et m l) (c*2^m)=aN ρ l c*2^m
 | [], c=>rfl
 | f::l,c=>by
  have ih:=Z5 m l c;apply ybh;intro b;have ihb:=yaI (fun x=>x.testBit b) ih;simp only [←yb1,Nat.testBit_shiftLeft] at ihb ⊢;show (aO.den ρ ⟨f.i,f.lo,f.hi,f.fr,f.n,f.sh+m⟩|||aN ρ (Et m l) (c<<<m)).testBit b=(decide (b≥m)&&(f.den ρ|||aN ρ l c).testBit (b-m));rw [yaU,yaU,ihb,aO.kE,aO.kE];simp only;by_cases hm:m≤b
  ·have e1:(f.sh+m≤b)↔(f.sh≤b-m):=by omega
   have e2:b-(f.sh+m)=b-m-f.sh:=by omega
   simp [hm,e1,e2]
  ·have e1: ¬f.sh+m≤b:=by omega
   simp [hm,e1]
theorem zs6 {g f h:aO} (hf:EN g f=some h):h.den ρ=g.den ρ|||f.den ρ:=by
 unfold EN at hf;split at hf
 case h_2=>cases hf
 rename_i h1 h2 h3 h4 h5;cases hf;have h1:=bC h1;have h2:=bC h2;have h3:=bC h3;have h4:g.fr+g.n=f.fr:=bC h4;have h5:g.sh+g.n=f.sh:=bC h5;apply ybh;intro b;rw [yaU,aO.kE,aO.kE,aO.kE];simp only;rw [←h1,←h2,←h3,←h4,←h5];by_cases hs:g.sh≤b
 ·by_cases hn:b-g.sh<g.n
  ·have e1:b-g.sh<g.n+f.n:=by omega
   have e2: ¬g.sh+g.n≤b:=by omega
   simp [hs,hn,e1,e2]
  ·have e2:g.sh+g.n≤b:=by omega
   have e1:(b-g.sh<g.n+f.n)↔(b-(g.sh+g.n)<f.n):=by omega
   have e3:g.fr+g.n+(b-(g.sh+g.n))=g.fr+(b-g.sh):=by omega
   simp [hs,hn,e1,e2,e3]
 ·have e2: ¬g.sh+g.n≤b:=by omega
  simp [hs,e2]
theorem G9: ∀(l:List aO) (f:aO) (c:Nat),aN ρ (wN l f) c=f.den ρ|||aN ρ l c
 | [], f,c=>rfl
 | g::l,f,c=>by
  unfold wN;split
  ·rename_i h hh;rw [G9 l h c,zs6 hh];show g.den ρ|||f.den ρ|||aN ρ l c=f.den ρ|||(g.den ρ|||aN ρ l c);rw [←ycQ,ycI (f.den ρ)]
  ·split
   ·rename_i h hh;rw [G9 l h c,zs6 hh];show f.den ρ|||g.den ρ|||aN ρ l c=f.den ρ|||(g.den ρ|||aN ρ l c);rw [ycQ]
   ·show g.den ρ|||aN ρ (wN l f) c=f.den ρ|||(g.den ρ|||aN ρ l c);rw [G9 l f c,←ycQ,←ycQ,ycI (g.den ρ)]
theorem zo2: ∀(l:List aO) (c d:Nat),aN ρ l (c|||d)=aN ρ l c|||d
 | [], c,d=>rfl
 | f::l,c,d=>by
  show f.den ρ|||aN ρ l (c|||d)=f.den ρ|||aN ρ l c|||d;rw [zo2 l c d,ycQ]
theorem Di: ∀(m l:List aO) (c d:Nat),aN ρ (qO l m) (c|||d)=aN ρ l c|||aN ρ m d
 | [], l,c,d=>zo2 l c d
 | f::m,l,c,d=>by
  unfold qO;rw [Di m (wN l f) c d,G9];show f.den ρ|||aN ρ l c|||aN ρ m d=aN ρ l c|||(f.den ρ|||aN ρ m d);rw [←ycQ,ycI (f.den ρ)]
theorem YH (keep:Nat→Bool) (f:aO): ∀(k:Nat),k≤f.n→ ∀b,(aN ρ (pieces keep f k) 0).testBit b=(keep b&&(decide (f.sh≤b)&&(decide (b-f.sh<k)&&(max f.lo (min (ρ.i f.i).toNat f.hi)).testBit (f.fr+(b-f.sh)))))
 | 0,_,b=>by simp [pieces,aN]
 | k+1,hk,b=>by
  have ih:=YH keep f k (by omega) b;unfold pieces;by_cases he:b=f.sh+k
  ·subst he;have e0: ¬(f.sh+k-f.sh<k):=by omega
   have e1:f.sh+k-f.sh<k+1:=by omega
   simp only [e0,decide_false,Bool.false_and,Bool.and_false] at ih;cases hkeep:keep (Nat.add f.sh k) with
   | true=>
    have hkeep:keep (f.sh+k)=true:=hkeep;show (aO.den ρ ⟨f.i,f.lo,f.hi,f.fr+k,1,f.sh+k⟩|||aN ρ (pieces keep f k) 0).testBit (f.sh+k)=_;rw [yaU,ih,aO.kE];simp [hkeep]
   | false=>
    have hkeep:keep (f.sh+k)=false:=hkeep;simp only;rw [ih];simp [hkeep]
  ·have e1:(b-f.sh<k+1∧f.sh≤b)↔(b-f.sh<k∧f.sh≤b):=by omega
   have hr:(keep b&&(decide (f.sh≤b)&&(decide (b-f.sh<k+1)&&(max f.lo (min (ρ.i f.i).toNat f.hi)).testBit (f.fr+(b-f.sh)))))=(keep b&&(decide (f.sh≤b)&&(decide (b-f.sh<k)&&(max f.lo (min (ρ.i f.i).toNat f.hi)).testBit (f.fr+(b-f.sh))))):=by
    by_cases hs:f.sh≤b
    ·have:(b-f.sh<k+1)↔(b-f.sh<k):=by omega
     simp [hs,this]
    ·simp [hs]
   rw [hr];cases hkeep:keep (Nat.add f.sh k) with
   | true=>
    show (aO.den ρ ⟨f.i,f.lo,f.hi,f.fr+k,1,f.sh+k⟩|||aN ρ (pieces keep f k) 0).testBit b=_;rw [yaU,ih,aO.kE];simp only;by_cases hs:f.sh+k≤b
    ·have: ¬b-(f.sh+k)<1:=by omega
     simp [hs,this]
    ·simp [hs]
   | false=>exact ih
theorem Nw (keep:Nat→Bool) (c d:Nat) (hd: ∀b,d.testBit b=(keep b&&c.testBit b)): ∀(l:List aO) (b:Nat),(aN ρ (wz keep l) d).testBit b=(keep b&&(aN ρ l c).testBit b)
 | [], b=>hd b
 | f::l,b=>by
  unfold wz;have e:=Di (ρ:=ρ) (pieces keep f f.n) (wz keep l) d 0;rw [ydg] at e;rw [e,yaU,Nw keep c d hd l b,YH keep f f.n (yab _) b];show _=(keep b&&(f.den ρ|||aN ρ l c).testBit b);rw [yaU,aO.kE];cases keep b<;>simp [Bool.or_comm]
theorem zye {W:Nat}: ∀ {l:List aO} {c:Nat},fits W l=true→c<2^W→aN ρ l c<2^W
 | [], c,_,hc=>hc
 | f::l,c,h,hc=>by
  unfold fits at h;split at h
  ·rename_i hb;have hb:f.sh+f.n≤W:=yal hb;refine yc0 ?_ (zye h hc);refine Nat.lt_pow_two_of_testBit _ fun i hi=> ?_;rw [aO.kE];have: ¬i-f.sh<f.n:=by omega
   simp [this]
  ·cases h
theorem pU {W:Nat} {l:List aO} {c:Nat} (h:oK W l c=true):aN ρ l c<2^W:=by
 unfold oK at h;split at h
 ·rename_i hc;rw [yaF] at hc;exact zye h hc
 ·cases h
theorem zvz {a:SE} {l:List aO} {c:Nat} (h:FP a=some (l,c)):a.den ρ=Int.ofNat (aN ρ l c):=by
 unfold FP at h;split at h
 ·cases h;rfl
 ·cases h;rfl
 ·cases h
theorem rV (l:List aO) (c:Nat):(pK l c).den ρ=Int.ofNat (aN ρ l c):=by
 unfold pK;split
 ·rw [tZ];rfl
 ·rw [tZ];rfl
theorem OT (k:IntKind):ku k=2^dw k:=by cases k<;>rfl
theorem wrap_small {k:IntKind} {n:Nat} (h:n<2^dw k):k.wrap (Int.ofNat n)=Int.ofNat n:=by
 rw [←Iw];have:Nat.blt n (ku k)=true:=by rw [yaF,OT];exact h
 simp only [qQ,this]
theorem VW {k:IntKind} (h:xS k=false) (n:Nat):k.wrap (Int.ofNat n)=Int.ofNat (n%2^dw k):=by
 cases k<;>first|(cases h;done)|skip
 all_goals
  simp [IntKind.wrap,IntKind.signed,IntKind.bits,dw]
theorem ztJ {k:IntKind} (h:xS k=false) (n:Int): ∃x:Nat,k.wrap n=Int.ofNat x∧0≤x∧x≤2^dw k-1:=by
 refine ⟨(k.wrap n).toNat,?_,yaE _,?_⟩
 all_goals
  cases k<;>first|(cases h;done)|skip
  all_goals
   simp [IntKind.wrap,IntKind.signed,IntKind.bits,dw];omega
theorem yo {k:IntKind} {p q:Nat} (h:tL k=some (p,q)) (n:Int): ∃x:Nat,k.wrap n=Int.ofNat x∧p≤x∧x≤q:=by
 unfold tL at h;split at h
 ·cases h
 ·rename_i hk;cases h;exact ztJ hk n
theorem zyV {k:IntKind} (h:xS k=false) {x y:Nat} (hlt:x<y) (hy:y≤2^dw k):k.wrap (Int.ofNat x-Int.ofNat y)=Int.ofNat (2^dw k+x-y):=by
 have hx:2^dw k+x-y<2^dw k:=by omega
 have e:Int.ofNat x-Int.ofNat y=Int.ofNat (2^dw k+x-y)-(2:Int)^dw k:=by
  have:((2^dw k:Nat):Int)=(2:Int)^dw k:=by simp
  simp only [ybM];omega
 rw [e,←wrap_small hx];cases k<;>first|(cases h;done)|skip
 all_goals
  simp [IntKind.wrap,IntKind.signed,IntKind.bits,dw]
theorem wh: ∀ {a:SE} {p q:Nat},bnd a=some (p,q)→ ∃x:Nat,a.den ρ=Int.ofNat x∧p≤x∧x≤q:=by
 intro a
 induction a with
 | bin o k x y Fv ihy=>
  intro p q h;cases o
  case add=>
   unfold bnd at h;split at h
   ·rename_i p1 q1 r1 s1 hx hy;obtain ⟨u,eu,u1,u2⟩:=Fv hx;obtain ⟨v,ev,v1,v2⟩:=ihy hy;split at h
    ·rename_i hlt;rw [yaF] at hlt;have hlt:q1+s1<2^dw k:=hlt;cases h;refine ⟨u+v,?_,by show p1+r1≤u+v;omega,by show u+v≤q1+s1;omega⟩;show k.wrap (SE.den ρ x+SE.den ρ y)=_;rw [eu,ev];exact wrap_small (n:=u+v) (by omega)
    ·exact yo h _
   ·exact yo h _
  case sub=>
   unfold bnd at h;split at h
   ·rename_i p1 q1 r1 s1 hx hy;obtain ⟨u,eu,u1,u2⟩:=Fv hx;obtain ⟨v,ev,v1,v2⟩:=ihy hy;split at h
    ·rename_i hle hlt;rw [yaF] at hlt;have hlt:q1<2^dw k:=hlt;have hle:=yal hle;cases h;refine ⟨u-v,?_,by show p1-s1≤u-v;omega,by show u-v≤q1-r1;omega⟩;show k.wrap (SE.den ρ x-SE.den ρ y)=_;rw [eu,ev];have e:Int.ofNat u-Int.ofNat v=Int.ofNat (u-v):=by simp only [ybM];omega
     rw [e];exact wrap_small (by omega)
    ·split at h
     ·rename_i hlt hle hk;rw [yaF] at hlt;have hle:=yal hle;have hle:s1≤2^dw k:=hle;cases h;refine ⟨2^dw k+u-v,?_,by show 2^dw k+p1-s1≤_;omega,by show _≤2^dw k+q1-r1;omega⟩;show k.wrap (SE.den ρ x-SE.den ρ y)=_;rw [eu,ev];exact zyV hk (by omega) (by omega)
     ·exact yo h _
   ·exact yo h _
  case mul=>
   unfold bnd at h;split at h
   ·rename_i p1 q1 r1 s1 hx hy;obtain ⟨u,eu,u1,u2⟩:=Fv hx;obtain ⟨v,ev,v1,v2⟩:=ihy hy;split at h
    ·rename_i hlt;rw [yaF] at hlt;have hlt:q1*s1<2^dw k:=hlt;have h1:u*v≤q1*s1:=Nat.mul_le_mul u2 v2;have h2:p1*r1≤u*v:=Nat.mul_le_mul u1 v1;cases h;refine ⟨u*v,?_,h2,h1⟩;show k.wrap (SE.den ρ x*SE.den ρ y)=_;rw [eu,ev];exact wrap_small (n:=u*v) (by omega)
    ·exact yo h _
   ·exact yo h _
  case rem=>
   unfold bnd at h;split at h
   case h_2=>cases h
   rename_i p1 q1 r1 s1 hx hy;obtain ⟨u,eu,u1,u2⟩:=Fv hx;obtain ⟨v,ev,v1,v2⟩:=ihy hy;split at h
   case h_2=>cases h
   rename_i hlt;rw [yaF] at hlt;cases h;refine ⟨u%v,?_,yaE _,?_⟩
   ·show (SE.den ρ x).tmod (SE.den ρ y)=_;rw [eu,ev];rfl
   ·have h1:=Nat.mod_lt u (show v>0 by omega);have h2:=Nat.mod_le u v;show u%v≤min q1 (s1-1);omega
  all_goals (unfold bnd at h;cases h)
 | var i=>intro p q h;unfold bnd at h;cases h
 | wrap k x ih=>intro p q h;unfold bnd at h;exact yo h _
 | lit n=>
  intro p q h;cases n with
  | ofNat n=>unfold bnd at h;cases h;exact ⟨_,rfl,yab _,yab _⟩
  | negSucc n=>unfold bnd at h;cases h
 | aQ l c=>
  intro p q h;unfold bnd at h;split at h<;>first|(rename_i heq;cases heq;done)|skip
  ·rename_i f heq;cases heq;split at h
   ·rename_i h1 h2 h3;cases h;have h1:=bC h1;have h2:=bC h2;rw [yaF] at h3;refine ⟨_,rfl,?_⟩;have e:aN ρ [f] 0=max f.lo (min (ρ.i f.i).toNat f.hi):=by
     show f.den ρ|||0=_;rw [ydg];unfold aO.den;rw [h1,h2];simp only [ycr,ycS];refine ybd (ycT ?_ h3);show max f.lo (min (ρ.i f.i).toNat f.hi)≤max f.lo f.hi;omega
    rw [e];have e2:Nat.max f.lo f.hi=max f.lo f.hi:=rfl;rw [e2];omega
   ·split at h
    ·rename_i hf;cases h;have:=pU (ρ:=ρ) hf;exact ⟨_,rfl,yaE _,by omega⟩
    ·cases h
  ·cases h
theorem ztX (k:IntKind) (a:SE):(Pw k a).den ρ=k.wrap (a.den ρ):=by
 unfold Pw;split
 ·rename_i p q hb;split
  ·rename_i hq;rw [yaF] at hq;obtain ⟨x,e,_,h2⟩:=wh (ρ:=ρ) hb;rw [e,wrap_small (ycT h2 hq)]
  ·rfl
 ·rfl
theorem zvN (k:IntKind) (a:SE):(Mi k a).den ρ=k.wrap (a.den ρ):=by
 unfold Mi;split
 ·rename_i l c;split
  ·split
   ·rename_i h;exact (wrap_small (pU h)).symm
   ·rfl
  ·rename_i h;rw [rV];show Int.ofNat (aN ρ (oI (dw k) l) (c%2^dw k))=k.wrap (Int.ofNat (aN ρ l c));rw [GX,VW h]
 ·exact ztX k _
theorem Od {o:BinOp} (ho:o= .and∨o= .or∨o= .xor∨o= .andNot) {k:IntKind} {x y:Nat} (hx:x<2^dw k) (hy:y<2^dw k):mZ o k (Int.ofNat x) (Int.ofNat y)=nu.nat o x y:=by
 rw [←Dz o ho];have e1:Nat.blt x (ku k)=true:=by rw [yaF,OT];exact hx
 have e2:Nat.blt y (ku k)=true:=by rw [yaF,OT];exact hy
 simp only [nu,e1,e2]
theorem zCq (k:IntKind) {a b:SE} {l l':List aO} {c c':Nat} (ha:a.den ρ=Int.ofNat (aN ρ l c)) (hb:b.den ρ=Int.ofNat (aN ρ l' c')):(L8 k a b l c l' c').den ρ=jE .or k (a.den ρ) (b.den ρ):=by
 unfold L8;split
 ·rename_i h1 h2;rw [rV,ha,hb];show Int.ofNat (aN ρ (qO l l') (c|||c'))=mZ .or k _ _;rw [Od (by simp) (pU h1) (pU h2),Di];rfl
 ·rfl
theorem zry (k:IntKind) {a b:SE} {l:List aO} {c m:Nat} (ha:a.den ρ=Int.ofNat (aN ρ l c)) (hb:b.den ρ=Int.ofNat m):(FK k a b l c m).den ρ=jE .and k (a.den ρ) (b.den ρ):=by
 unfold FK;split
 ·rename_i h1 h2;rw [yaF] at h2;rw [rV,ha,hb];show Int.ofNat (aN ρ (wz (Nat.testBit m) l) (c&&&m))=mZ .and k _ _;rw [Od (by simp) (pU h1) h2];show Int.ofNat _=Int.ofNat (aN ρ l c&&&m);congr 1;apply ybh;intro b;rw [Nw (Nat.testBit m) c (c&&&m) (fun b=>by rw [yca,Bool.and_comm]) l b,yca,Bool.and_comm]
 ·rfl
theorem zpQ (k:IntKind) {a b:SE} {l:List aO} {c m:Nat} (ha:a.den ρ=Int.ofNat (aN ρ l c)) (hb:b.den ρ=Int.ofNat m):(OZ k a b l c m).den ρ=jE .andNot k (a.den ρ) (b.den ρ):=by
 unfold OZ;split
 ·rename_i h1 h2;rw [yaF] at h2;rw [rV,ha,hb];show Int.ofNat (aN ρ (wz _ l) (c^^^(c&&&m)))=mZ .andNot k _ _;rw [Od (by simp) (pU h1) h2];show Int.ofNat _=Int.ofNat (aN ρ l c^^^(aN ρ l c&&&m));congr 1;apply ybh;intro b;rw [Nw _ c (c^^^(c&&&m)) (fun b=>by rw [ydF,yca];cases m.testBit b<;>cases c.testBit b<;>rfl) l b,ydF,yca];cases m.testBit b<;>cases (aN ρ l c).testBit b<;>rfl
 ·rfl
theorem zy7 (k:IntKind) {a b:SE} {l:List aO} {c n:Nat} (ha:a.den ρ=Int.ofNat (aN ρ l c)) (hb:b.den ρ=Int.ofNat n):(Mc k a b l c n).den ρ=jE .shl k (a.den ρ) (b.den ρ):=by
 unfold Mc;split
 ·rename_i h1 h2;have h1:n≤k.bits:=yal h1;rw [rV,ha,hb];show Int.ofNat (aN ρ (oI (dw k) (Et n l)) (c*2^n%2^dw k))=k.wrap (Int.ofNat (aN ρ l c)*2^(min (Int.ofNat n).toNat k.bits));have e:(Int.ofNat (aN ρ l c)*2^(min (Int.ofNat n).toNat k.bits):Int)=Int.ofNat (aN ρ l c*2^n):=by
   have:min (Int.ofNat n).toNat k.bits=n:=by simp;omega
   rw [this];simp
  rw [e,VW h2,GX,Z5]
 ·rfl
theorem zy6 (k:IntKind) {a b:SE} {l:List aO} {c n:Nat} (ha:a.den ρ=Int.ofNat (aN ρ l c)) (hb:b.den ρ=Int.ofNat n):(Md k a b l c n).den ρ=jE .shr k (a.den ρ) (b.den ρ):=by
 unfold Md;split
 ·rename_i h1;have h1:n≤k.bits:=yal h1;rw [rV,ha,hb];show Int.ofNat (aN ρ (qf n l) (c/2^n))=(Int.ofNat (aN ρ l c)).fdiv (2^(min (Int.ofNat n).toNat k.bits));have e1:min (Int.ofNat n).toNat k.bits=n:=by simp;omega
  rw [e1,NS,ydL _ (by exact_mod_cast yaE _)];simp
 ·rfl
theorem zCr {o:BinOp} (ho:o= .add∨o= .sub) (k:IntKind) {a b:SE} {l l':List aO} {c c':Nat} (ha:a.den ρ=Int.ofNat (aN ρ l c)) (hb:b.den ρ=Int.ofNat (aN ρ l' c')):(L6 o k a b l c l' c').den ρ=jE o k (a.den ρ) (b.den ρ):=by
 unfold L6;split
 ·split
  ·rename_i h1 h2;have h1:=bC h1;subst h1;have hb:b.den ρ=0:=hb;rw [rV,ha,hb];rcases ho with rfl|rfl
   ·show _=k.wrap (Int.ofNat (aN ρ l c)+0);rw [yds,wrap_small (pU h2)]
   ·show _=k.wrap (Int.ofNat (aN ρ l c)-0);rw [Int.sub_zero,wrap_small (pU h2)]
  ·rfl
 ·rfl
theorem zpv {m:Nat}: ∀ {l:List aO} {c:Nat},FY m l=true→c%2^m=0→aN ρ l c%2^m=0
 | [], c,_,h=>h
 | f::l,c,ha,hc=>by
  unfold FY at ha;split at ha
  ·rename_i hb;have hb:=yal hb;have ih:=zpv ha hc;apply ybh;intro b;have ihb:=yaI (fun x=>x.testBit b) ih;simp only [ybZ,Nat.zero_testBit] at ihb;rw [ybZ,Nat.zero_testBit];show (decide (b<m)&&(f.den ρ|||aN ρ l c).testBit b)=false;rw [yaU,aO.kE];by_cases hlt:b<m
   ·have: ¬f.sh≤b:=by omega
    simp only [hlt,ydD,Bool.true_and] at ihb;simp [this,ihb]
   ·simp [hlt]
  ·cases ha
theorem zzc (k:IntKind) {a b:SE} {l l':List aO} {c c':Nat} (ha:a.den ρ=Int.ofNat (aN ρ l c)) (hb:b.den ρ=Int.ofNat (aN ρ l' c')):(LY k a b l c l' c').den ρ=jE .add k (a.den ρ) (b.den ρ):=by
 unfold LY;split
 case h_2=>rfl
 rename_i g1 g2;split
 case h_2=>rfl
 rename_i h1 h2 h3;rw [rV,ha,hb];have h3:=bC h3;have hlt:=pU (ρ:=ρ) h1;have hmod:=zpv (ρ:=ρ) h2 h3;have hsum:aN ρ (qO l l') (Nat.lor c c')=aN ρ l c+aN ρ l' c':=by
  show aN ρ (qO l l') (c|||c')=_;rw [Di];have e:aN ρ l' c'=(aN ρ l' c'/2^width l c)<<<width l c:=by
   rw [yb1];have:=Nat.div_add_mod (aN ρ l' c') (2^width l c);rw [hmod] at this;rw [ybE];omega
  rw [e,ycI,←ycF hlt,yc8]
 have hw:aN ρ (qO l l') (Nat.lor c c')<2^dw k:=by
  show aN ρ (qO l l') (c|||c')<_;rw [Di];exact yc0 (pU g1) (pU g2)
 show _=k.wrap (Int.ofNat (aN ρ l c)+Int.ofNat (aN ρ l' c'));rw [show (Int.ofNat (aN ρ l c)+Int.ofNat (aN ρ l' c'):Int)=Int.ofNat (aN ρ l c+aN ρ l' c') from rfl,←hsum,wrap_small hw]
theorem zy9 (k:IntKind) {a b:SE} {l:List aO} {c n:Nat} (ha:a.den ρ=Int.ofNat (aN ρ l c)) (hb:b.den ρ=Int.ofNat n):(L9 k a b l c n).den ρ=jE .quo k (a.den ρ) (b.den ρ):=by
 unfold L9;split
 case h_2=>rfl
 rename_i h1 h2;have h2:n=2^Nat.log2 n:=bC h2;rw [rV,ha,hb];show Int.ofNat (aN ρ (qf (Nat.log2 n) l) (c/2^Nat.log2 n))=k.wrap ((Int.ofNat (aN ρ l c)).tdiv (Int.ofNat n));rw [NS,←h2];show _=k.wrap (Int.ofNat (aN ρ l c/n));rw [wrap_small (ycT (Nat.div_le_self _ _) (pU h1))]
theorem zy8 (k:IntKind) {a b:SE} {l:List aO} {c n:Nat} (ha:a.den ρ=Int.ofNat (aN ρ l c)) (hb:b.den ρ=Int.ofNat n):(Ma k a b l c n).den ρ=jE .rem k (a.den ρ) (b.den ρ):=by
 unfold Ma;split
 case h_2=>rfl
 rename_i h2;have h2:n=2^Nat.log2 n:=bC h2;rw [rV,ha,hb];show Int.ofNat (aN ρ (oI (Nat.log2 n) l) (c%2^Nat.log2 n))=(Int.ofNat (aN ρ l c)).tmod (Int.ofNat n);rw [GX,←h2];rfl
theorem vV (o:BinOp) (k:IntKind) (a b:SE):(jJ o k a b).den ρ=jE o k (a.den ρ) (b.den ρ):=by
 unfold jJ;split
 case h_2=>rfl
 rename_i l c l' c' ha hb;have ha:=zvz (ρ:=ρ) ha;have hb:=zvz (ρ:=ρ) hb;split
 ·exact zCq k ha hb
 ·split
  ·exact zry k ha hb
  ·split
   ·have ha:a.den ρ=Int.ofNat c:=ha;rw [zry k hb ha];rw [ha,hb];show mZ .and k _ _=mZ .and k _ _;simp only [mZ,BitVec.and_comm]
   ·rfl
 ·split
  ·exact zpQ k ha hb
  ·rfl
 ·split
  ·exact zy7 k ha hb
  ·rfl
 ·split
  ·exact zy6 k ha hb
  ·rfl
 ·exact zzc k ha hb
 ·split
  ·exact zy9 k ha hb
  ·rfl
 ·split
  ·exact zy8 k ha hb
  ·rfl
 ·exact zCr (.inr rfl) k ha hb
 ·rfl
theorem zvP (o:BinOp) (a b:SE):(Mj o a b).den ρ=mG o (a.den ρ) (b.den ρ):=by
  unfold Mj;split
  case h_2=>rfl
  rename_i p q r s ha hb;obtain ⟨x,ex,h1,h2⟩:=wh (ρ:=ρ) ha;obtain ⟨y,ey,h3,h4⟩:=wh (ρ:=ρ) hb;have blt: ∀ {u v:Nat},Nat.blt u v=true→u<v:=fun h=>by rw [yaF] at h;exact h
  split
  · split
    · rfl
    · rename_i hne;have hxy:x≠y:=fun e=>by
        subst e;refine hne ?_ ?_
        · cases h:Nat.blt q r with
          | false=>rfl
          | true=>have:=blt h;omega
        · cases h:Nat.blt s p with
          | false=>rfl
          | true=>have:=blt h;omega
      simp [SB.den,mG,ex,ey];omega
  · split
    · rfl
    · rename_i hne;have hxy:x≠y:=fun e=>by
        subst e;refine hne ?_ ?_
        · cases h:Nat.blt q r with
          | false=>rfl
          | true=>have:=blt h;omega
        · cases h:Nat.blt s p with
          | false=>rfl
          | true=>have:=blt h;omega
      simp [SB.den,mG,ex,ey];omega
  all_goals
    first
      | rfl
      | (split
         · rename_i h
           first|have:=blt h|have:=yal h
           simp [SB.den,mG,ex,ey];omega
         · rename_i h _
           first|have:=blt h|have:=yal h
           simp [SB.den,mG,ex,ey];omega
         · rfl)
theorem zzb (o:BinOp) (a b:SE):(LZ o a b).den ρ=mG o (a.den ρ) (b.den ρ):=by
 unfold LZ;split
 ·rename_i h;rw [SE.beq_eq h];cases o<;>simp [SB.den,zvJ,mG]
 ·exact zvP o a b
theorem zpN {x y:SE} {b:Bool} (h:OX x y=some b):(x.den ρ==y.den ρ)=b:=by
 unfold OX at h;split at h
 ·cases h;rw [Uy];rfl
 ·split at h
  ·rename_i hb;cases h;rw [SE.beq_eq hb];simp
  ·split at h
   case h_2=>cases h
   rename_i p q r s hx hy;obtain ⟨u,eu,h1,h2⟩:=wh (ρ:=ρ) hx;obtain ⟨v,ev,h3,h4⟩:=wh (ρ:=ρ) hy;split at h
   ·cases h
   ·rename_i hne;cases h;rw [eu,ev];have:u≠v:=fun e=>by
     subst e;refine hne ?_ ?_
     ·cases e:Nat.blt q r with
      | false=>rfl
      | true=>rw [yaF] at e;omega
     ·cases e:Nat.blt s p with
      | false=>rfl
      | true=>rw [yaF] at e;omega
    simp;omega
end
end Go.Dw
end
