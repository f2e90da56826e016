/-
  Proved: laws on the way to 'SserveScriptProof' (texts Laid SvA SvB SvC SvD SvE SvF SvG SvH SvI DwBase DwEv DwRun DwLaw DwRel DwMem DwMap DwSym); no condition.
-/
import Derived.Test.YtpogddachhjgaaaGreatRows
import Derived.KernelRfl
import Derived.ProofKit
import Derived.Test.YtpogddachhjgaaaGreatProg
import Derived.Sort.OwnSortedInts
import Derived.Sort.AtCall
import Derived.Maps.AppendAt
import Derived.Maps.RangeWalk
import Derived.Deep.MidRow
import Derived.Deep.WholeRow
import Derived.StillTailTactics
import Derived.Deep.QuietTactic
import Derived.BigQuiet
import Derived.WalkKit
import Derived.Laws.Cover3
import Derived.Laws.CopyOwn
import Derived.Laws.CopyRow
import Derived.Laws.IdiomCopy
import Derived.Deep.RegionWith
import Derived.Deep.CutRange
import Derived.Calls
import Derived.Orders
import Derived.Laws.Cells
import Derived.Laws.AppendOwn
import Derived.LoopN
import Derived.RowKit3
import Derived.Below
set_option linter.unusedSimpArgs false
set_option linter.unusedVariables false
set_option maxHeartbeats 4000000
noncomputable section
namespace Go
abbrev yaa:=@Go.Result.andThen_ok
abbrev yab:=@Nat.le_refl
abbrev yac:=@List.mem_cons
abbrev yad:=@Nat.lt_of_lt_of_le
abbrev yae:=@List.not_mem_nil
abbrev yaf:=@Go.Sem.run_bind
abbrev yag:=@Go.RowKit.Below.refl
abbrev yah:=@Go.RowKit.Below.heap_setCell
abbrev yai:=@if_neg
abbrev yaj:=@Go.Sem.run_pure
abbrev yak:=@if_pos
abbrev yal:=@Nat.le_of_ble_eq_true
abbrev yam:=@List.getElem?_eq_getElem
abbrev yan:=@Go.World.block_lt_of_cell?
abbrev yao:=@Go.World.cell?_of_block
abbrev yap:=@decide_eq_true_eq
abbrev yaq:=@Nat.zero_add
abbrev yar:=@Array.getElem?_eq_some_iff
abbrev yas:=@Go.Calls.mono
abbrev yat:=@decide_eq_false_iff_not
abbrev yau:=@Nat.le_trans
abbrev yav:=@or_false
abbrev yaw:=@List.getElem?_cons_zero
abbrev yax:=@Nat.zero_le
abbrev yay:=@List.getElem?_eq_some_iff
abbrev yaz:=@List.getElem?_toArray
abbrev yaA:=@Array.getD_eq_getD_getElem?
abbrev yaB:=@List.mem_cons_of_mem
abbrev yaC:=@Option.some.inj
abbrev yaD:=@List.getD_eq_getElem?_getD
abbrev yaE:=@Nat.blt_eq
abbrev yaF:=@List.mem_singleton
abbrev yaG:=@List.mem_cons_self
abbrev yaH:=@congrArg
abbrev yaI:=@Go.bodyPost_ret
abbrev yaJ:=@Option.map_some
abbrev yaK:=@List.map_cons
abbrev yaL:=@List.getElem_mem
abbrev yaM:=@Array.getElem?_eq_getElem
abbrev yaN:=@List.getElem?_cons_succ
abbrev yaO:=@Int.eq_ofNat_of_zero_le
abbrev yaP:=@Bool.false_eq_true
abbrev yaQ:=@List.length_append
abbrev yaR:=@List.cons.injEq
abbrev yaS:=@Nat.testBit_or
abbrev yaT:=@List.mem_append
abbrev yaU:=@and_true
abbrev yaV:=@Int.toNat_natCast
abbrev yaW:=@List.length_cons
abbrev yaX:=@List.getElem?_append_left
abbrev yaY:=@List.getElem?_append_right
abbrev yaZ:=@List.getElem?_eq_none
abbrev ya0:=@List.map_nil
abbrev ya1:=@decide_eq_true
abbrev ya2:=@List.mem_of_mem_drop
abbrev ya3:=@Go.wp_mono
abbrev ya4:=@Go.wpList_append_own_at
abbrev ya5:=@List.getElem?_map
abbrev ya6:=@List.mem_map
abbrev ya7:=@Nat.add_zero
abbrev ya8:=@Array.getElem?_eq_none
abbrev ya9:=@List.mem_of_getElem?
abbrev yba:=@Bool.and_eq_true
abbrev ybb:=@List.pairwise_cons
abbrev ybc:=@Array.length_toList
abbrev ybd:=@decide_eq_false
abbrev ybe:=@Nat.mod_eq_of_lt
abbrev ybf:=@Nat.mul_le_mul_right
abbrev ybg:=@Int.emod_lt_of_pos
abbrev ybh:=@Nat.add_assoc
abbrev ybi:=@Array.toList_push
abbrev ybj:=@Nat.eq_of_testBit_eq
abbrev ybk:=@Nat.eq_zero_or_pos
abbrev ybl:=@Go.info_parts
abbrev ybm:=@if_false
abbrev ybn:=@Option.map_none
abbrev ybo:=@Int.emod_nonneg
abbrev ybp:=@Nat.pow_le_pow_right
abbrev ybq:=@Go.heap_alloc_last
abbrev ybr:=@List.take_succ_eq_append_getElem
abbrev ybs:=@Int.tmod_eq_emod_of_nonneg
abbrev ybt:=@List.length_pos_iff
abbrev ybu:=@Classical.byContradiction
abbrev ybv:=@List.length_nil
abbrev ybw:=@List.length_map
abbrev ybx:=@Array.getElem?_toList
abbrev yby:=@List.getElem?_take_of_lt
abbrev ybz:=@List.length_take
abbrev ybA:=@List.mem_of_mem_take
abbrev ybB:=@of_decide_eq_true
abbrev ybC:=@Int.le_refl
abbrev ybD:=@beq_eq_false_iff_ne
abbrev ybE:=@Array.toList_modify
abbrev ybF:=@Option.bind_some
abbrev ybG:=@List.all_eq_true
abbrev ybH:=@Nat.mul_comm
abbrev ybI:=@List.take_append_drop
abbrev ybJ:=@Nat.add_mul
abbrev ybK:=@List.pairwise_iff_getElem
abbrev ybL:=@List.getElem_append_right
abbrev ybM:=@Go.DataW.trod_int
abbrev ybN:=@Int.ofNat_eq_natCast
abbrev ybO:=@Go.World.cell?_setCell_same'
abbrev ybP:=@Option.some.injEq
abbrev ybQ:=@List.append_assoc
abbrev ybR:=@List.getElem_append_left
abbrev ybS:=@Array.getElem?_setIfInBounds_ne
abbrev ybT:=@Nat.lt_or_ge
abbrev ybU:=@if_true
abbrev ybV:=@congrFun
abbrev ybW:=@Nat.lt_irrefl
abbrev ybX:=@Nat.shiftRight_zero
abbrev ybY:=@List.getElem?_range
abbrev ybZ:=@Nat.testBit_mod_two_pow
abbrev yb0:=@List.length_eq_zero_iff
abbrev yb1:=@Option.getD_some
abbrev yb2:=@Nat.shiftLeft_eq
abbrev yb3:=@List.cons_append
abbrev yb4:=@Option.map_eq_some_iff
abbrev yb5:=@List.take_of_length_le
abbrev yb6:=@List.getElem_cons_succ
abbrev yb7:=@List.getElem?_drop
abbrev yb8:=@BitVec.toNat_ofNat
abbrev yb9:=@Iff.rfl
abbrev yca:=@Nat.beq_refl
abbrev ycb:=@Nat.testBit_and
abbrev ycc:=@List.nodup_cons
abbrev ycd:=@List.nil_append
abbrev yce:=@Go.MapKept.heap_alloc
abbrev ycf:=@Nat.ble_eq_true_of_le
abbrev ycg:=@List.mem_append_right
abbrev ych:=@Prod.mk.injEq
abbrev yci:=@List.size_toArray
abbrev ycj:=@List.pairwise_map
abbrev yck:=@Go.Addr.add_mid
abbrev ycl:=@Array.getElem?_append_left
abbrev ycm:=@Go.RowKit.Below.heap_alloc
abbrev ycn:=@List.mem_iff_getElem
abbrev yco:=@List.mem_append_left
abbrev ycp:=@Array.toArray_toList
abbrev ycq:=@List.Perm.refl
abbrev ycr:=@List.drop_eq_getElem_cons
abbrev ycs:=@List.length_drop
abbrev yct:=@Nat.testBit_two_pow
abbrev ycu:=@Go.World.cell?_setCell_other
abbrev ycv:=@Option.isSome_none
abbrev ycw:=@Nat.shiftLeft_zero
abbrev ycx:=@Array.ext_getElem?
abbrev ycy:=@Array.getElem?_setIfInBounds_self
abbrev ycz:=@beq_iff_eq
abbrev ycA:=@Nat.le_succ_of_le
abbrev ycB:=@List.nodup_nil
abbrev ycC:=@Go.World.frozen?_of_block
abbrev ycD:=@Go.cell_of_row
abbrev ycE:=@Go.wpList_append_own
abbrev ycF:=@Nat.lt_succ_self
abbrev ycG:=@List.take_length
abbrev ycH:=@Nat.shiftLeft_add_eq_or_of_lt
abbrev ycI:=@BitVec.ofInt_natCast
abbrev ycJ:=@Nat.or_zero
abbrev ycK:=@Nat.or_comm
abbrev ycL:=@Nat.min_eq_left
abbrev ycM:=@Bool.eq_iff_iff
abbrev ycN:=@List.mem_map_of_mem
abbrev ycO:=@List.map_congr_left
abbrev ycP:=@Nat.sub_zero
abbrev ycQ:=@Nat.or_assoc
abbrev ycR:=@Nat.add_comm
abbrev ycS:=@List.map_map
abbrev ycT:=@Int.pow_succ
abbrev ycU:=@Nat.lt_of_le_of_lt
abbrev ycV:=@Int.tmod_lt_of_pos
abbrev ycW:=@Int.natCast_nonneg
abbrev ycX:=@List.extract_eq_take_drop
abbrev ycY:=@Array.ext'
abbrev ycZ:=@Go.results_none
abbrev yc0:=@not_false_eq_true
abbrev yc1:=@Nat.or_lt_two_pow
abbrev yc2:=@Array.size_append
abbrev yc3:=@Go.heap_alloc_old
abbrev yc4:=@Option.bind_eq_some_iff
abbrev yc5:=@Go.World.cells?_some
abbrev yc6:=@List.modify_cons
abbrev yc7:=@List.getElem_cons_zero
abbrev yc8:=@Int.tmod_nonneg
abbrev yc9:=@Nat.eq_of_beq_eq_true
abbrev yda:=@List.mem_iff_getElem?
abbrev ydb:=@Array.getElem?_modify
abbrev ydc:=@List.drop_eq_nil_iff
abbrev ydd:=@Go.World.frozen?_setCell
abbrev yde:=@Nat.pow_add
abbrev ydf:=@bne_eq_false_iff_eq
abbrev ydg:=@List.getElem_of_mem
abbrev ydh:=@Go.heap_alloc_new
abbrev ydi:=@Bool.not_true
abbrev ydj:=@Go.run_program
abbrev ydk:=@Ne.symm
abbrev ydl:=@Nat.lt_succ_of_lt
abbrev ydm:=@List.nodup_append
abbrev ydn:=@List.flatMap_cons
abbrev ydo:=@List.ext_getElem?
abbrev ydp:=@Nat.succ_pos
abbrev ydq:=@Nat.sub_self
abbrev ydr:=@Int.mul_comm
abbrev yds:=@Int.add_zero
abbrev ydt:=@Go.World.ownsRow_made
abbrev ydu:=@List.any_eq_true
abbrev ydv:=@BitVec.toNat_and
abbrev ydw:=@Array.toList_map
abbrev ydx:=@Eq.trans
abbrev ydy:=@Go.run_storeCells_at
abbrev ydz:=@Go.run_append_own_at
abbrev ydA:=@Go.DataW.trod_struct
abbrev ydB:=@Array.getElem?_setIfInBounds
abbrev ydC:=@dif_pos
abbrev ydD:=@dif_neg
abbrev ydE:=@decide_true
abbrev ydF:=@Go.callsIn_wide
abbrev ydG:=@Nat.testBit_xor
abbrev ydH:=@List.range_succ
abbrev ydI:=@List.map_append
abbrev ydJ:=@Bool.or_eq_true
abbrev ydK:=@Array.getElem?_append_right
abbrev ydL:=@Go.World.size_alloc
abbrev ydM:=@List.eraseIdx_of_length_le
abbrev ydN:=@Int.tdiv_eq_ediv_of_nonneg
abbrev ydO:=@Int.fdiv_eq_ediv_of_nonneg
abbrev ydP:=@Go.RowKit.Below.alloc
abbrev ydQ:=@List.take_left
abbrev ydR:=@List.mapM_cons
abbrev ydS:=@Bool.not_false
abbrev ydT:=@Nat.shiftRight_eq_div_pow
abbrev ydU:=@Decidable.byContradiction
abbrev ydV:=@Array.mapM_eq_mapM_toList
abbrev ydW:=@Go.wpList_step
abbrev ydX:=@Go.getD_set_ne
abbrev ydY:=@bne_iff_ne
abbrev ydZ:=@Array.getElem?_replicate
abbrev yd0:=@Array.getElem?_push_size
end Go
namespace Go.Proofs.YtpogddachhjgaaaGreat
theorem abe:laidOutB Tryz.prog=true:=by kernel_rfl
end Go.Proofs.YtpogddachhjgaaaGreat
namespace Go.Proofs
open Go.RowKit Go.Maps Go.Sort
structure Tryz.GM (w:World) (P L Bs B N:Nat) (g:Nat→Int):Prop where
 p0: ∃c,w.cell? ⟨P,0,none⟩=some (.slice (some ⟨L,0,none⟩) 1 c)
 p1:w.cell? ⟨P,1,none⟩=some (.slice (some ⟨Bs,0,none⟩) 1 2)
 l0:w.cell? ⟨L,0,none⟩=some (.int .u64 0)
 l1:w.cell? ⟨L,1,none⟩=some (.int .u64 N)
 b0:w.cell? ⟨Bs,0,none⟩=some (.slice (some ⟨B,0,none⟩) N N)
 full: ∀j,j<N→w.cell? ⟨B,j,none⟩=some (.int .u8 (g j))
 free: ∀j,j<N→w.frozen? ⟨B,j,none⟩=false
 byte: ∀j,0≤g j∧g j<256
 pb:P≠B
 lb:L≠B
 sb:Bs≠B
 bl:B<w.heap.size
theorem Tryz.GM.pl {w:World} {P L Bs B N:Nat} {g:Nat→Int} (h:GM w P L Bs B N g):P<w.heap.size:=yan w _ h.p1
theorem Tryz.GM.ll {w:World} {P L Bs B N:Nat} {g:Nat→Int} (h:GM w P L Bs B N g):L<w.heap.size:=yan w _ h.l0
theorem Tryz.GM.sl {w:World} {P L Bs B N:Nat} {g:Nat→Int} (h:GM w P L Bs B N g):Bs<w.heap.size:=yan w _ h.b0
theorem Tryz.GM.kept {w w':World} {P L Bs B N:Nat} {g:Nat→Int} (h:GM w P L Bs B N g) (hg: ∀k,k<w.heap.size→(k=P∨k=L∨k=Bs∨k=B)→w'.heap[k]? =w.heap[k]?) (hs:w.heap.size≤w'.heap.size):GM w' P L Bs B N g:=by
 have eP:=hg P h.pl (Or.inl rfl);have eL:=hg L h.ll (Or.inr (Or.inl rfl));have eS:=hg Bs h.sl (Or.inr (Or.inr (Or.inl rfl)));have eB:=hg B h.bl (Or.inr (Or.inr (Or.inr rfl)));refine ⟨?_,?_,?_,?_,?_,fun j hj=> ?_,fun j hj=> ?_,h.byte,h.pb,h.lb,h.sb,yad h.bl hs⟩
 ·obtain ⟨c,h0⟩:=h.p0;exact ⟨c,by rw [yao (a:=⟨P,0,none⟩) eP];exact h0⟩
 ·rw [yao (a:=⟨P,1,none⟩) eP];exact h.p1
 ·rw [yao (a:=⟨L,0,none⟩) eL];exact h.l0
 ·rw [yao (a:=⟨L,1,none⟩) eL];exact h.l1
 ·rw [yao (a:=⟨Bs,0,none⟩) eS];exact h.b0
 ·rw [yao (a:=⟨B,j,none⟩) eB];exact h.full j hj
 ·rw [ycC (a:=⟨B,j,none⟩) eB];exact h.free j hj
theorem Tryz.GM.below {w w':World} {P L Bs B N:Nat} {g:Nat→Int} (h:GM w P L Bs B N g) (hb:Below w.heap.size w w'):GM w' P L Bs B N g:=h.kept (fun k hk _=>hb.block k hk) hb.size
theorem Tryz.wrap_u64 (k:Int) (h:0≤k) (h':k<18446744073709551616):IntKind.wrap .u64 k=k:=by unfold IntKind.wrap;simp [IntKind.signed,IntKind.bits];omega
set_option maxRecDepth 100000 in
theorem Tryz.ztW (P L Bs B N X Y:Nat) (di:Int) (g:Nat→Int) (w:World) (st:GM w P L Bs B N g) (hN:N≤1048576) (h1:1≤N) (hX:w.cell? ⟨X,0,none⟩=some (.pointer (some ⟨P,0,none⟩))) (hY:w.cell? ⟨Y,0,none⟩=some (.int .u64 di)):
  Calls prog 94 #[.int .i64 0,.pointer (some ⟨X,0,none⟩),.pointer (some ⟨Y,0,none⟩)] w fun e w'=>e= .returned (.bool (decide (di≤N-1)))∧ ∃q,w'=w.drewN q:=by
 obtain ⟨lc,c0⟩:=st.p0;have c2:=st.l0;have c3:=st.l1;have hs:IntKind.wrap .u64 ((N:Int)-1)=N-1:=wrap_u64 _ (by omega) (by omega);go_enter func94,ntmps94;go_wp2_with fail;go_quiet (fail);go_wp2;go_ret;exact ⟨rfl,nq,rfl⟩
theorem Tryz.below_drewN {B:Nat} {a w:World} (h:Below B a w) (q:Nat):Below B a (w.drewN q):=⟨h.os,h.tape,h.output,h.size,h.block⟩
set_option maxRecDepth 100000 in
theorem Tryz.zn3 (P L Bs B N X Y:Nat) (di:Int) (g:Nat→Int) (w:World) (st:GM w P L Bs B N g) (hN:N≤1048576) (h1:1≤N) (hX:w.cell? ⟨X,0,none⟩=some (.pointer (some ⟨P,0,none⟩))) (hY:w.cell? ⟨Y,0,none⟩=some (.int .u64 di)) (ha:di≤N-1):
    Calls prog 93 #[.int .i64 1,.func (.func 94) #[] #[.pointer (some ⟨X,0,none⟩),.pointer (some ⟨Y,0,none⟩)]] w fun e w'=>e= .returned (.int .i64 0)∧ ∃q,w'=w.drewN q:=by
  have he:=ztW P L Bs B N X Y di g w st hN h1 hX hY;rw [ya1 ha] at he;go_enter func93,ntmps93;go_wp2_with fail;go_loopw [5,6] (fun i j wr=>(i= .int .i64 0∧j= .int .i64 1∧wr=w)∨(i= .int .i64 0∧j= .int .i64 0∧ ∃q,wr=w.drewN q)) (fun _ j _=>(RowKit.intOf j).toNat)
  case atStart=>exact Or.inl ⟨rfl,rfl,rfl⟩
  case round=>
    rcases hrel with ⟨rfl,rfl,rfl⟩|⟨rfl,rfl,q,rfl⟩
    · go_wp2_with (first
        | (go_at_call 94;refine he.mono ?_;rintro e w' ⟨rfl,q,rfl⟩)
        | go_in)
      exact ⟨Or.inr ⟨rfl,rfl,q,rfl⟩,by simp [RowKit.intOf]⟩
    · go_wp2;go_ret;exact ⟨rfl,q,rfl⟩
set_option maxRecDepth 100000 in
theorem Tryz.zuT (P L Bs B N X Y:Nat) (di:Int) (g:Nat→Int) (w:World) (st:GM w P L Bs B N g) (hN:N≤1048576) (h1:1≤N) (hX:w.cell? ⟨X,0,none⟩=some (.pointer (some ⟨P,0,none⟩))) (hY:w.cell? ⟨Y,0,none⟩=some (.int .u64 di)) (ha: ¬di≤N-1):
    Calls prog 93 #[.int .i64 1,.func (.func 94) #[] #[.pointer (some ⟨X,0,none⟩),.pointer (some ⟨Y,0,none⟩)]] w fun e w'=>e= .returned (.int .i64 1)∧ ∃q,w'=w.drewN q:=by
  have he:=ztW P L Bs B N X Y di g w st hN h1 hX hY;rw [ybd ha] at he;go_enter func93,ntmps93;go_wp2_with fail;go_loopw [5,6] (fun i j wr=>(i= .int .i64 0∧j= .int .i64 1∧wr=w)∨(i= .int .i64 1∧j= .int .i64 1∧ ∃q,wr=w.drewN q)) (fun i j _=>(RowKit.intOf j-RowKit.intOf i).toNat)
  case atStart=>exact Or.inl ⟨rfl,rfl,rfl⟩
  case round=>
    rcases hrel with ⟨rfl,rfl,rfl⟩|⟨rfl,rfl,q,rfl⟩
    · go_wp2_with (first
        | (go_at_call 94;refine he.mono ?_;rintro e w' ⟨rfl,q,rfl⟩)
        | go_in)
      exact ⟨Or.inr ⟨rfl,rfl,q,rfl⟩,by simp [RowKit.intOf]⟩
    · go_wp2;go_ret;exact ⟨rfl,q,rfl⟩
set_option maxRecDepth 100000 in
theorem Tryz.Fq (P L Bs B N a k:Nat) (g:Nat→Int) (w:World) (st:GM w P L Bs B N g) (hN:N≤1048576) (hk:1≤k) (hin:a+k≤N):
    Calls prog 65 #[.pointer (some ⟨P,0,none⟩),.int .u64 a,.int .u64 k] w fun e w'=>e= .returned (.slice (some ⟨B,a,none⟩) k (N-a))∧Below w.heap.size w w':=by
  have hb2:=((yag _ w).alloc (yab _) (.cells #[.pointer (some ⟨P,0,none⟩)] 28)).alloc (by simp) (.cells #[.int .u64 a] 30);have st2:=st.below hb2;have hX:((w.alloc (.cells #[.pointer (some ⟨P,0,none⟩)] 28)).alloc (.cells #[.int .u64 a] 30)).cell? ⟨w.heap.size,0,none⟩=some (.pointer (some ⟨P,0,none⟩)):=by simp
  have hY:((w.alloc (.cells #[.pointer (some ⟨P,0,none⟩)] 28)).alloc (.cells #[.int .u64 a] 30)).cell? ⟨w.heap.size+1,0,none⟩=some (.int .u64 a):=by simp
  have hse:=zn3 P L Bs B N w.heap.size (w.heap.size+1) a g _ st2 hN (by omega) hX hY (by omega);go_enter func65,ntmps65;generalize hw2:(w.alloc (.cells #[.pointer (some ⟨P,0,none⟩)] 28)).alloc (.cells #[.int .u64 a] 30)=w2 at*;obtain ⟨lc,c0⟩:=st2.p0;have c1:=st2.p1;have c2:=st2.l0;have c3:=st2.l1;have c4:=st2.b0;have ha:IntKind.wrap .u64 ((N:Int)-a)=N-a:=wrap_u64 _ (by omega) (by omega);have hak:IntKind.wrap .u64 ((a:Int)+k)=a+k:=wrap_u64 _ (by omega) (by omega);have hkk:a+k-a=k:=by omega
  go_wp2_with (first
    | (go_at_call 93;refine hse.mono ?_;rintro e w' ⟨rfl,q,rfl⟩)
    | go_in)
  go_quiet (fail);go_wp2;go_quiet (fail);go_wp2;go_ret;exact ⟨(by show Ending.returned (.slice (some ⟨B,a,none⟩) (a+k-a) (N-a))=_;rw [hkk]),below_drewN hb2 _⟩
set_option maxRecDepth 100000 in
theorem Tryz.zqg (P L Bs B N:Nat) (a k:Int) (g:Nat→Int) (w:World) (st:GM w P L Bs B N g) (hN:N≤1048576) (h1:1≤N) (ha0:0≤a) (ha1:a<18446744073709551616) (hk0:0≤k) (hout: ¬(1≤k∧a+k≤N)):
    Calls prog 65 #[.pointer (some ⟨P,0,none⟩),.int .u64 a,.int .u64 k] w fun e w'=>e= .returned (.slice none 0 0)∧Below w.heap.size w w':=by
  have hb2:=((yag _ w).alloc (yab _) (.cells #[.pointer (some ⟨P,0,none⟩)] 28)).alloc (by simp) (.cells #[.int .u64 a] 30);have st2:=st.below hb2;have hX:((w.alloc (.cells #[.pointer (some ⟨P,0,none⟩)] 28)).alloc (.cells #[.int .u64 a] 30)).cell? ⟨w.heap.size,0,none⟩=some (.pointer (some ⟨P,0,none⟩)):=by simp
  have hY:((w.alloc (.cells #[.pointer (some ⟨P,0,none⟩)] 28)).alloc (.cells #[.int .u64 a] 30)).cell? ⟨w.heap.size+1,0,none⟩=some (.int .u64 a):=by simp
  have hsi:=zn3 P L Bs B N w.heap.size (w.heap.size+1) a g _ st2 hN h1 hX hY;have hso:=zuT P L Bs B N w.heap.size (w.heap.size+1) a g _ st2 hN h1 hX hY;go_enter func65,ntmps65;generalize hw2:(w.alloc (.cells #[.pointer (some ⟨P,0,none⟩)] 28)).alloc (.cells #[.int .u64 a] 30)=w2 at*;obtain ⟨lc,c0⟩:=st2.p0;have c1:=st2.p1;have c2:=st2.l0;have c3:=st2.l1;have c4:=st2.b0;by_cases hk1:1≤k
  · by_cases ha:a≤N-1
    · have hsi:=hsi ha;have rG:IntKind.wrap .u64 ((N:Int)-a)=N-a:=wrap_u64 _ (by omega) (by omega);have hkn: ¬k≤N-a:=by omega
      go_wp2_with (first
        | (go_at_call 93;refine hsi.mono ?_;rintro e w' ⟨rfl,q,rfl⟩)
        | go_in)
      go_quiet (fail);go_wp2;go_quiet (fail);go_wp2;go_ret;exact ⟨rfl,below_drewN hb2 _⟩
    · have hso:=hso ha;go_wp2_with (first
        | (go_at_call 93;refine hso.mono ?_;rintro e w' ⟨rfl,q,rfl⟩)
        | go_in)
      go_quiet (fail);go_wp2;go_ret;exact ⟨rfl,below_drewN (below_drewN hb2 _) _⟩
  · go_wp2;go_ret;exact ⟨rfl,hb2⟩
theorem Tryz.Cg (a:Option Addr) (n c:Nat) (w:World):(binOp .eql 77 (.slice a n c) (.slice none 0 0)).run prog w= .ok (.bool a.isNone) w:=by
 simp only [binOp];simp [run_equal_slice_nil w 77 5 _ _ _ underlying77]
set_option maxRecDepth 100000 in
theorem Tryz.xU (P L Bs B N:Nat) (g:Nat→Int) (w:World) (st:GM w P L Bs B N g):
  Calls prog 63 #[.pointer (some ⟨P,0,none⟩)] w fun e w'=>e= .returned (.bool true)∧w'=w:=by
 have c1:=st.p1;go_enter func63,ntmps63;go_wp2;go_ret;exact ⟨rfl,rfl⟩
theorem Tryz.ZU (k:Nat) (hk:k=1∨k=2∨k=4∨k=8) (w:World):Calls prog 64 #[.int .i64 k] w fun e w'=>e= .returned (.bool true)∧w'=w:=by
 go_enter func64,ntmps64;rcases hk with rfl|rfl|rfl|rfl<;>(go_wp2;go_ret;exact ⟨rfl,rfl⟩)
def Tryz.aC (g:Nat→Int) (a:Nat):Nat→Int
 | 0=>0
 | k+1=>aC g a k+g (a+k)*256^k
theorem Tryz.kE (g:Nat→Int) (hg: ∀j,0≤g j∧g j<256) (a:Nat): ∀k,0≤aC g a k∧aC g a k<256^k
 | 0=>by simp [aC]
 | k+1=>by
  have h:=kE g hg a k;have h2:=hg (a+k);have h3:(0:Int)<256^k:=Int.pow_pos (by omega);have h4:0≤g (a+k)*256^k:=Int.mul_nonneg h2.1 (by omega);have h5:g (a+k)*256^k≤255*256^k:=Int.mul_le_mul_of_nonneg_right (by omega) (by omega);simp only [aC,ycT];omega
theorem Tryz.zFR (x y s:Nat) (hx:x<2^s) (hy:y*2^s<2^64) (hs:s≤64):bits .or .u64 (x:Int) ((y*2^s:Nat):Int)=((x+y*2^s:Nat):Int):=by
 have hx':x<2^64:=yad hx (ybp (by omega) hs);have e:x|||y*2^s=x+y*2^s:=by
  rw [ybH y,ycK,←Nat.two_pow_add_eq_or_of_lt hx,ycR]
 have hlt:x+y*2^s<2^64:=by rw [←e];exact yc1 hx' hy
 unfold bits;simp only [BitVec.toNat_or];have ex:(BitVec.ofInt IntKind.u64.bits (x:Int)).toNat=x:=by
  rw [ycI,yb8];exact ybe hx'
 have ey:(BitVec.ofInt IntKind.u64.bits ((y*2^s:Nat):Int)).toNat=y*2^s:=by
  rw [ycI,yb8];exact ybe hy
 rw [ex,ey,e];exact wrap_u64 _ (by omega) (by omega)
theorem Tryz.UM (i:Nat):(256:Int)^i=((2^(8*i):Nat):Int):=by
 rw [Nat.pow_mul,Int.natCast_pow];rfl
theorem Tryz.zD2 (g:Nat→Int) (hg: ∀j,0≤g j∧g j<256) (a i:Nat) (hi:i<8):bits .or .u64 (aC g a i) (IntKind.wrap .u64 (IntKind.wrap .u64 (g (a+i))*2^(8*i)))=aC g a (i+1):=by
 have hb:=kE g hg a i;have h2:=hg (a+i);obtain ⟨m,hm⟩:=yaO hb.1;obtain ⟨c,hc⟩:=yaO h2.1;have hlt:c*2^(8*i)<2^64:=by
  have h1:c*2^(8*i)<2^8*2^(8*i):=Nat.mul_lt_mul_of_pos_right (by omega) (Nat.pow_pos (by omega));rw [←yde] at h1;exact yad h1 (ybp (by omega) (by omega))
 have hml:m<2^(8*i):=by
  have:=hb.2;rw [hm,UM] at this;exact Int.ofNat_lt.1 this
 simp only [aC];rw [hm,hc,UM];have e1:IntKind.wrap .u64 (c:Int)=c:=wrap_u64 _ (by omega) (by omega);have e2:((c:Int)*2^(8*i))=((c*2^(8*i):Nat):Int):=by push_cast;rfl
 rw [e1,e2,wrap_u64 _ (by omega) (by omega),zFR m c (8*i) hml hlt (by omega)];push_cast;rfl
set_option maxRecDepth 100000 in
theorem Tryz.zEm (P L Bs B N a k:Nat) (g:Nat→Int) (w:World) (st:GM w P L Bs B N g) (hN:N≤1048576) (hk:k=1∨k=2∨k=4∨k=8) (hin:a+k≤N):
    Calls prog 21 #[.pointer (some ⟨P,0,none⟩),.int .u64 a,.int .i64 k] w fun e w'=>e= .returned (.tuple #[.int .u64 (aC g a k),.int .i64 0])∧Below w.heap.size w w':=by
  have hq:=Cg;have hm:=xU P L Bs B N g w st;have hby:=Fq P L Bs B N a k g w st hN (by omega) hin;have hwk:IntKind.wrap .u64 (k:Int)=k:=wrap_u64 _ (by omega) (by omega);have hiw:=ZU k hk w;go_enter func21,ntmps21;go_wp2_with (first
    | (go_at_call 63;refine hm.mono ?_;rintro e w' ⟨rfl,hw⟩;have hw:=hw.symm;subst hw)
    | (go_at_call 64;refine hiw.mono ?_;rintro e w' ⟨rfl,hw⟩;have hw:=hw.symm;subst hw)
    | (go_at_call 65;refine hby.mono ?_;rintro e w1 ⟨rfl,hb1⟩)
    | go_in)
  go_loopw [9,25] (fun v c wr=> ∃i:Nat,i≤k∧c= .int .i64 i∧v= .int .u64 (aC g a i)∧wr=w1) (fun _ c _=>k-(RowKit.intOf c).toNat)
  case atStart=>exact ⟨0,yax _,rfl,rfl,rfl⟩
  case round=>
    obtain ⟨i,hi,rfl,rfl,rfl⟩:=hrel;by_cases hik:i<k
    · have hc:=(st.below hb1).full (a+i) (by omega);have ho:=zD2 g st.byte a i (by omega);go_wp2;exact ⟨⟨i+1,by omega,by push_cast;rfl,rfl,trivial⟩,by simp only [RowKit.intOf];omega⟩
    · have hik':i=k:=by omega
      subst hik';go_wp2;go_ret2;exact ⟨rfl,hb1⟩
structure Tryz.Mv (S:Nat→Prop) (w w':World):Prop where
 os:w'.os=w.os
 tape:w'.tape=w.tape
 output:w'.output=w.output
 size:w.heap.size≤w'.heap.size
 block: ∀k,k<w.heap.size→ ¬S k→w'.heap[k]? =w.heap[k]?
theorem Tryz.Mv.refl (S:Nat→Prop) (w:World):Mv S w w:=⟨rfl,rfl,rfl,yab _,fun _ _ _=>rfl⟩
theorem Tryz.Mv.of_below {S:Nat→Prop} {w w':World} (h:Below w.heap.size w w'):Mv S w w':=⟨h.os,h.tape,h.output,h.size,fun k hk _=>h.block k hk⟩
theorem Tryz.Mv.setCell {S:Nat→Prop} {a w:World} (h:Mv S a w) (b o:Nat) (v:Value) (hb:S b∨a.heap.size≤b):Mv S a (w.setCell ⟨b,o,none⟩ v):=
 ⟨h.os,h.tape,h.output,yau h.size (by simp),fun k hk h1=>(yah w _ _ k (fun e=>by
  have e':k=b:=e;rcases hb with h2|h2
  ·exact h1 (e'▸h2)
  ·omega)).trans (h.block k hk h1)⟩
theorem Tryz.Mv.grown {S:Nat→Prop} {a w w':World} {r:Nat} (h:Mv S a w) (hg:w.grownBy w' (some r)) (hr:S r∨a.heap.size≤r):Mv S a w':=
  ⟨hg.os.trans h.os,hg.tape.trans h.tape,hg.output.trans h.output,yau h.size hg.size,fun k hk h1=>
    (hg.block k (yad hk h.size) (fun e=>by
      have e':=yaC e;rcases hr with h2|h2
      · exact h1 (e'▸h2)
      · omega)).trans (h.block k hk h1)⟩
theorem Tryz.Mv.below {S:Nat→Prop} {base:Nat} {w w':World} (h:Mv S w w') (hS: ∀k,S k→base≤k) (hw:base≤w.heap.size):Below base w w':=
 ⟨h.os,h.tape,h.output,h.size,fun k hk=>h.block k (by omega) (fun h1=>by have:=hS k h1;omega)⟩
theorem Tryz.GM.congr {w:World} {P L Bs B N:Nat} {g g':Nat→Int} (h:GM w P L Bs B N g) (hf: ∀j,g' j=g j):GM w P L Bs B N g':=by
 have:g'=g:=funext hf;rw [this];exact h
theorem Tryz.GM.Ew {w:World} {P L Bs B N:Nat} {g:Nat→Int} (h:GM w P L Bs B N g) (j:Nat) (hj:j<N) (x:Int) (hx0:0≤x) (hx1:x<256):GM (w.setCell ⟨B,j,none⟩ (.int .u8 x)) P L Bs B N (fun q=>if q=j then x else g q):=by
 have hk: ∀k,k≠B→(w.setCell ⟨B,j,none⟩ (.int .u8 x)).heap[k]? =w.heap[k]? :=fun k hk=>yah w _ _ k hk;have eP:=hk P h.pb;have eL:=hk L h.lb;have eS:=hk Bs h.sb;refine ⟨?_,?_,?_,?_,?_,fun q hq=> ?_,fun q hq=> ?_,fun q=> ?_,h.pb,h.lb,h.sb,yad h.bl (by simp)⟩
 ·obtain ⟨c,h0⟩:=h.p0;exact ⟨c,by rw [yao (a:=⟨P,0,none⟩) eP];exact h0⟩
 ·rw [yao (a:=⟨P,1,none⟩) eP];exact h.p1
 ·rw [yao (a:=⟨L,0,none⟩) eL];exact h.l0
 ·rw [yao (a:=⟨L,1,none⟩) eL];exact h.l1
 ·rw [yao (a:=⟨Bs,0,none⟩) eS];exact h.b0
 ·by_cases hqj:q=j
  ·subst hqj;rw [yak rfl];exact ybO _ _ _ (by rw [h.full q hq];rfl)
  ·rw [yai hqj,ycu w ⟨B,j,none⟩ ⟨B,q,none⟩ _ (fun e=>hqj (yaH Addr.off e).symm)];exact h.full q hq
 ·rw [ydd];exact h.free q hq
 ·by_cases hqj:q=j
  ·rw [yak hqj];exact ⟨hx0,hx1⟩
  ·rw [yai hqj];exact h.byte q
def Tryz.gF (g:Nat→Int) (a k:Nat) (v:Int) (j:Nat):Int:=if a≤j∧j<a+k then v/2^(8*(j-a))%256 else g j
theorem Tryz.zte (g:Nat→Int) (a:Nat) (v:Int) (j:Nat):gF g a 0 v j=g j:=by
 unfold gF;rw [yai (by omega)]
theorem Tryz.ztd (g:Nat→Int) (a i:Nat) (v:Int) (j:Nat):gF g a (i+1) v j=if j=a+i then v/2^(8*i)%256 else gF g a i v j:=by
 unfold gF;by_cases hj:j=a+i
 ·subst hj;rw [yak (by omega),yak rfl,show a+i-a=i by omega]
 ·rw [yai hj];by_cases h2:a≤j∧j<a+i
  ·rw [yak (by omega),yak h2]
  ·rw [yai (by omega),yai h2]
theorem Tryz.wrap_u8 (x:Int):IntKind.wrap .u8 x=x%256:=by unfold IntKind.wrap;simp [IntKind.signed,IntKind.bits]
set_option maxRecDepth 100000 in
theorem Tryz.zzP (P L Bs B N a k:Nat) (v:Int) (g:Nat→Int) (w:World) (st:GM w P L Bs B N g) (hN:N≤1048576) (hk:k=1∨k=2∨k=4∨k=8) (hin:a+k≤N):
    Calls prog 26 #[.pointer (some ⟨P,0,none⟩),.int .u64 a,.int .i64 k,.int .u64 v] w fun e w'=>e= .returned (.int .i64 0)∧GM w' P L Bs B N (gF g a k v)∧Mv (· =B) w w':=by
  have hq:=Cg;have hm:=xU P L Bs B N g w st;have hby:=Fq P L Bs B N a k g w st hN (by omega) hin;have hwk:IntKind.wrap .u64 (k:Int)=k:=wrap_u64 _ (by omega) (by omega);have hiw:=ZU k hk w;go_enter func26,ntmps26;go_wp2_with (first
    | (go_at_call 63;refine hm.mono ?_;rintro e w' ⟨rfl,hw⟩;have hw:=hw.symm;subst hw)
    | (go_at_call 64;refine hiw.mono ?_;rintro e w' ⟨rfl,hw⟩;have hw:=hw.symm;subst hw)
    | (go_at_call 65;refine hby.mono ?_;rintro e w1 ⟨rfl,hb1⟩)
    | go_in)
  go_loopw [25] (fun c wr=> ∃i:Nat,i≤k∧c= .int .i64 i∧GM wr P L Bs B N (gF g a i v)∧Mv (· =B) w wr) (fun c _=>k-(RowKit.intOf c).toNat)
  case atStart=>exact ⟨0,yax _,rfl,(st.below hb1).congr (fun j=>zte g a v j),Mv.of_below hb1⟩
  case round=>
    obtain ⟨i,hi,rfl,st',mv⟩:=hrel;by_cases hik:i<k
    · have hc:=st'.full (a+i) (by omega);have hf:=st'.free (a+i) (by omega);have hw8:=wrap_u8 (v/2^(8*i));go_wp2;exact ⟨⟨i+1,by omega,by push_cast;rfl,(st'.Ew (a+i) (by omega) _ (ybo _ (by omega)) (ybg _ (by omega))).congr (fun j=>ztd g a i v j),mv.setCell _ _ _ (Or.inl rfl)⟩,by simp only [RowKit.intOf];omega⟩
    · have hik':i=k:=by omega
      subst hik';go_wp2;go_ret;exact ⟨rfl,st',mv⟩
theorem Tryz.Ar:(prog.info? 5).map (fun i=>(i.zero,i.size,i.bytes))=some (some (.int .u8 0),1,1):=by kernel_rfl
theorem Tryz.gL {w w':World} {b o:Nat} {cs:List Value} (h:w.rangeAt b o cs) (e:w'.heap[b]? =w.heap[b]?):w'.rangeAt b o cs:=fun j v hv=>by
 rw [yao (a:=⟨b,o+j,none⟩) e];exact h j v hv
set_option maxRecDepth 100000 in
theorem Tryz.zrQ (B a n c:Nat) (us:List Value) (w:World) (hr:w.rangeAt B a us) (hl:us.length=n) (h1: ∀v∈us,v.oneCell'=true) (hn:n≤1048576) (hB:B<w.heap.size):
    Calls prog 97 #[.slice (some ⟨B,a,none⟩) n c] w fun e w'=> ∃v,e= .returned v∧w'.ownsRow w.heap.size 5 1 v n us∧Below w.heap.size w w':=by
  have hq:=Cg;obtain ⟨i0,hi0,hz0,hz1,hzb⟩:=ybl Ar;have wW:=ydt (base:=w.heap.size) (e:=5) (size:=1) w #[] 0 (yab _) (by unfold maxLen;omega) rfl;have hr':=gL (w':=w.alloc (.cells #[] 5)) hr (ycm w _ B hB);have hb0:=(yag w.heap.size w).alloc (yab _) (.cells #[] 5);go_enter func97,ntmps97;go_wp2_with (first
    | (at_builtin;go_loud (refine ycE _ rfl _ _ 77 rfl w.heap.size 5 i0 (.int .u8 0) 1 1 underlying77 hi0 hz0 hz1 hzb rfl (by decide) _ _ _ rfl wW ⟨B,a,none⟩ n c us rfl (by rw [hl];simp) (fun j v hv=>by rw [yck];exact hr' j v hv) h1 (by unfold maxLen;omega) (by omega) (by simp) ?_);intro v' w3 hown' hg3 hnil3;go_frame)
    | go_in)
  go_ret;have hown2:w3.ownsRow w.heap.size 5 1 v' n us:=by simpa using hown'
  refine ⟨_,rfl,hown2,hb0.grown hg3 (by simp) (fun j hj=> ?_)⟩;exact (wW.lt j hj).1
set_option maxRecDepth 100000 in
theorem Tryz.zBp (n:Nat) (w:World) (h1:1≤n) (hn:n≤1048576):
  Calls prog 96 #[.slice none 0 0,.int .i64 n] w fun e w'=> ∃cap,e= .returned (.slice (some ⟨w.heap.size,0,none⟩) 0 cap)∧w'.ownsRow w.heap.size 5 1 (.slice (some ⟨w.heap.size,0,none⟩) 0 cap) 0 []∧Below w.heap.size w w':=by
 obtain ⟨i0,hi0,hz0,hz1,hzb⟩:=ybl Ar;have hnc:Builtin.nextslicecap n 0=n:=nextslicecap_zero (by omega);have hb1:t5.bytes=1:=rfl;go_enter func96,ntmps96;go_wp2;refine yaI (results_tmp rfl _ _ _) rfl ?_;have hge:=grownCap_ge w n 0 5;have hle:=grownCap_le_maxLen w n 0 5 (by unfold maxLen;omega);refine ⟨_,rfl,⟨by simp,Or.inr ⟨w.heap.size,grownCap w n 0 5,_,rfl,yab _,ybq w _,yax _,hle,?_,by simp⟩⟩,((yag _ w).alloc (yab _) _).drew⟩;simp only [yc2,size_zeroCells];show n*1+(grownCap w n 0 5-n)*1=_;omega
def Tryz.row (g:Nat→Int) (a n:Nat):List Value:=(List.range n).map fun j=> .int .u8 (g (a+j))
theorem Tryz.BM (g:Nat→Int) (a n:Nat):(row g a n).length=n:=by simp [row]
theorem Tryz.row_one (g:Nat→Int) (a n:Nat): ∀v∈row g a n,v.oneCell'=true:=fun v hv=>by
 obtain ⟨j,_,rfl⟩:=ya6.1 hv;rfl
theorem Tryz.GM.range {w:World} {P L Bs B N:Nat} {g:Nat→Int} (h:GM w P L Bs B N g) (a n:Nat) (hn:a+n≤N):w.rangeAt B a (row g a n):=by
 intro j v hv;simp only [row,ya5,yb4] at hv;obtain ⟨k,hk,rfl⟩:=hv;rw [yay] at hk;obtain ⟨h1,h2⟩:=hk;simp at h1 h2;subst h2;exact h.full (a+j) (by omega)
set_option maxRecDepth 100000 in
theorem Tryz.zvL (P L Bs B N:Nat) (g:Nat→Int) (w:World) (st:GM w P L Bs B N g) (h1:1≤N) (hN:N≤1048576):
    Calls prog 67 #[.slice (some ⟨Bs,0,none⟩) 1 2] w fun e w'=> ∃v,e= .returned v∧w'.ownsRow w.heap.size 5 1 v N (row g 0 N)∧Below w.heap.size w w':=by
  obtain ⟨i0,hi0,hz0,hz1,hzb⟩:=ybl Ar;have hgr:=fun w=>zBp N w h1 hN;have c0:=st.b0;go_enter func67,ntmps67;go_wp2;go_loopw [3,11] (fun s i wr=>wr=w∧((i= .int .i64 0∧s= .int .i64 0)∨(i= .int .i64 1∧s= .int .i64 N))) (fun _ i _=>1-(RowKit.intOf i).toNat)
  case atStart=>exact ⟨rfl,Or.inl ⟨rfl,rfl⟩⟩
  case round=>
    obtain ⟨hw,hrel⟩:=hrel;have hw:=hw.symm;subst hw;rcases hrel with ⟨rfl,rfl⟩|⟨rfl,rfl⟩
    · go_wp2;exact ⟨⟨trivial,Or.inr ⟨rfl,rfl⟩⟩,by simp [RowKit.intOf]⟩
    · go_wp2_with (first
        | (go_at_call 96;refine (hgr _).mono ?_;rintro e w1 ⟨aaf,rfl,Ib,hb1⟩)
        | go_in)
      go_loopw [6,27] (fun v i w2=>(i= .int .i64 0∧v= .slice (some ⟨w.heap.size,0,none⟩) 0 aaf∧w2=w1)∨(i= .int .i64 1∧w2.ownsRow w.heap.size 5 1 v N (row g 0 N)∧Below w.heap.size w w2)) (fun _ i _=>1-(RowKit.intOf i).toNat)
      case atStart=>exact Or.inl ⟨rfl,rfl,rfl⟩
      case round=>
        have c1:=(st.below hb1).b0;have hr1:=(st.below hb1).range 0 N (by omega);have hbl:=st.bl;rcases hrel with ⟨rfl,rfl,rfl⟩|⟨rfl,hrow2,hb2⟩
        · go_wp2_with (first
            | (at_builtin;go_loud (refine ycE _ rfl _ _ 77 rfl w.heap.size 5 i0 (.int .u8 0) 1 1 underlying77 hi0 hz0 hz1 hzb rfl (by decide) _ _ _ rfl Ib ⟨B,0,none⟩ N N (row g 0 N) rfl (by rw [BM];simp) (fun j v hv=>by rw [yck];exact hr1 j v hv) (row_one g 0 N) (by unfold maxLen;omega) (by omega) hb1.size ?_);intro v' w3 hown' hg3 hnil3;go_frame)
            | go_in)
          exact ⟨Or.inr ⟨rfl,by simpa using hown',hb1.grown hg3 hb1.size (fun j hj=>(Ib.lt j hj).1)⟩,by simp [RowKit.intOf]⟩
        · go_wp2;go_ret;exact ⟨_,rfl,hrow2,hb2⟩
set_option maxRecDepth 100000 in
theorem Tryz.zyp (P L Bs B N:Nat) (g:Nat→Int) (w:World) (st:GM w P L Bs B N g) (h1:1≤N) (hN:N≤1048576):
    Calls prog 25 #[.pointer (some ⟨P,0,none⟩)] w fun e w'=> ∃v,e= .returned v∧w'.ownsRow w.heap.size 5 1 v N (row g 0 N)∧Below w.heap.size w w':=by
  have hm:=xU P L Bs B N g w st;have hc:=zvL P L Bs B N g w st h1 hN;have c1:=st.p1;go_enter func25,ntmps25;go_wp2_with (first
    | (go_at_call 63;refine hm.mono ?_;rintro e w' ⟨rfl,hw⟩;have hw:=hw.symm;subst hw)
    | (go_at_call 67;refine hc.mono ?_;rintro e w1 ⟨v1,rfl,Ib,hb1⟩)
    | go_in)
  go_ret;exact ⟨_,rfl,Ib,hb1⟩
set_option maxRecDepth 100000 in
theorem Tryz.zDL (P L Bs B N a n:Nat) (g:Nat→Int) (w:World) (st:GM w P L Bs B N g) (hN:N≤1048576) (hn:1≤n) (hin:a+n≤N):
    Calls prog 71 #[.pointer (some ⟨P,0,none⟩),.int .u64 a,.int .i64 n] w fun e w'=> ∃v,e= .returned (.tuple #[v,.int .i64 0])∧w'.ownsRow w.heap.size 5 1 v n (row g a n)∧Below w.heap.size w w':=by
  have hq:=Cg;have hm:=xU P L Bs B N g w st;have hby:=Fq P L Bs B N a n g w st hN (by omega) hin;have hcl:=fun w1 (h:Below w.heap.size w w1)=>zrQ B a n (N-a) (row g a n) w1 ((st.below h).range a n hin) (BM g a n) (row_one g a n) (by omega) (st.below h).bl;have hwk:IntKind.wrap .u64 (n:Int)=n:=wrap_u64 _ (by omega) (by omega);go_enter func71,ntmps71;go_wp2_with (first
    | (go_at_call 63;refine hm.mono ?_;rintro e w' ⟨rfl,hw⟩;have hw:=hw.symm;subst hw)
    | (go_at_call 65;refine hby.mono ?_;rintro e w1 ⟨rfl,hb1⟩)
    | (go_at_call 97;refine (hcl _ hb1).mono ?_;rintro e w2 ⟨v2,rfl,hrow2,hb2⟩)
    | go_in)
  go_ret2;refine ⟨_,rfl,⟨hrow2.1,?_⟩,hb1.trans (hb2.mono hb1.size)⟩;rcases hrow2.2 with h|⟨g0,cap,cur,h0,h2,h3⟩
  · exact Or.inl h
  · exact Or.inr ⟨g0,cap,cur,h0,yau hb1.size h2,h3⟩
set_option maxRecDepth 100000 in
theorem Tryz.zAG (P L Bs B N:Nat) (a n:Int) (g:Nat→Int) (w:World) (st:GM w P L Bs B N g) (hN:N≤1048576) (h1:1≤N) (hn:1≤n) (hn2:n≤4294967296) (ha0:0≤a) (ha1:a<18446744073709551616) (hout: ¬a+n≤N):
    Calls prog 71 #[.pointer (some ⟨P,0,none⟩),.int .u64 a,.int .i64 n] w fun e w'=>e= .returned (.tuple #[.slice none 0 0,.int .i64 5])∧Below w.heap.size w w':=by
  have hq:=Cg;have hm:=xU P L Bs B N g w st;have hby:=zqg P L Bs B N a n g w st hN h1 ha0 ha1 (by omega) (by omega);have hwk:IntKind.wrap .u64 n=n:=wrap_u64 _ (by omega) (by omega);go_enter func71,ntmps71;go_wp2_with (first
    | (go_at_call 63;refine hm.mono ?_;rintro e w' ⟨rfl,hw⟩;have hw:=hw.symm;subst hw)
    | (go_at_call 65;refine hby.mono ?_;rintro e w1 ⟨rfl,hb1⟩)
    | go_in)
  go_ret2;exact ⟨rfl,hb1⟩
set_option maxRecDepth 100000 in
theorem Tryz.EY (P L Bs B N:Nat) (a:Int) (g:Nat→Int) (w:World) (st:GM w P L Bs B N g):
    Calls prog 71 #[.pointer (some ⟨P,0,none⟩),.int .u64 a,.int .i64 0] w fun e w'=>e= .returned (.tuple #[.slice none 0 0,.int .i64 0])∧w'=w:=by
  have hm:=xU P L Bs B N g w st;go_enter func71,ntmps71;go_wp2_with (first
    | (go_at_call 63;refine hm.mono ?_;rintro e w' ⟨rfl,hw⟩;have hw:=hw.symm;subst hw)
    | go_in)
  go_ret2;exact ⟨rfl,rfl⟩
set_option maxRecDepth 100000 in
theorem Tryz.zyx (P L Bs B N:Nat) (a n:Int) (g:Nat→Int) (w:World) (st:GM w P L Bs B N g) (hN:N≤1048576) (h1:1≤N) (ha0:0≤a) (ha1:a<18446744073709551616) (hn:0≤n):
    Calls prog 167 #[.pointer (some ⟨P,0,none⟩),.int .u64 a,.int .u64 n] w fun e w'=>e= .returned (.bool (decide (1≤n∧a+n≤N)))∧Below w.heap.size w w':=by
  have hm:=xU P L Bs B N g w st;by_cases hin:1≤n∧a+n≤N
  · rw [ya1 hin];obtain ⟨a',rfl⟩:=yaO ha0;obtain ⟨n',rfl⟩:=yaO hn;have hby:=Fq P L Bs B N a' n' g w st hN (by omega) (by omega);go_enter func167,ntmps167;go_wp2_with (first
      | (go_at_call 63;refine hm.mono ?_;rintro e w' ⟨rfl,hw⟩;have hw:=hw.symm;subst hw)
      | (go_at_call 65;refine hby.mono ?_;rintro e w1 ⟨rfl,hb1⟩)
      | go_in)
    go_ret;exact ⟨rfl,hb1⟩
  · rw [ybd hin];have hby:=zqg P L Bs B N a n g w st hN h1 ha0 ha1 hn hin;go_enter func167,ntmps167;go_wp2_with (first
      | (go_at_call 63;refine hm.mono ?_;rintro e w' ⟨rfl,hw⟩;have hw:=hw.symm;subst hw)
      | (go_at_call 65;refine hby.mono ?_;rintro e w1 ⟨rfl,hb1⟩)
      | go_in)
    go_ret;exact ⟨rfl,hb1⟩
def Tryz.ic (g:Nat→Int) (a:Nat):List Int→Nat→Int
 | [] => g
 | x::r=>ic (fun q=>if q=a then x else g q) (a+1) r
theorem Tryz.GM.tX {P L Bs B N:Nat}: ∀(xs:List Int) (a:Nat) (g:Nat→Int) (w:World),GM w P L Bs B N g→a+xs.length≤N→(∀x∈xs,0≤x∧x<256)→GM (w.setCells B a (xs.map (Value.int .u8))) P L Bs B N (ic g a xs)
 | [], _,_,_,h,_,_=>h
 | x::r,a,g,w,h,hl,hb=>by
  rw [yaK,World.setCells,ic];rw [yaW] at hl;have hx:=hb x (by simp);exact GM.tX r (a+1) _ _ (h.Ew a (by omega) x hx.1 hx.2) (by omega) (fun y hy=>hb y (by simp [hy]))
theorem Tryz.Pf (b:Nat): ∀(vs:List Value) (o:Nat) (w:World),w.grownBy (w.setCells b o vs) (some b)
 | [], _,w=>⟨rfl,rfl,rfl,yab _,fun _ _ _=>rfl⟩
 | v::r,o,w=>by
  rw [World.setCells];have h2:=Pf b r (o+1) (w.setCell ⟨b,o,none⟩ v);exact ⟨h2.os,h2.tape,h2.output,yau (by simp) h2.size,fun k hk hne=>(h2.block k (by simpa using hk) hne).trans (yah w _ _ k (fun e=>hne (by rw [e])))⟩
set_option maxRecDepth 100000 in
theorem Tryz.zzF (P L Bs B N a R o c:Nat) (xs:List Int) (g:Nat→Int) (w:World) (st:GM w P L Bs B N g) (hN:N≤1048576) (hn:1≤xs.length) (hin:a+xs.length≤N) (hb: ∀x∈xs,0≤x∧x<256)
    (hr:w.rangeAt R o (xs.map (Value.int .u8))) (hR:R<w.heap.size):
    Calls prog 52 #[.pointer (some ⟨P,0,none⟩),.int .u64 a,.slice (some ⟨R,o,none⟩) xs.length c] w fun e w'=>e= .returned (.int .i64 0)∧GM w' P L Bs B N (ic g a xs)∧Mv (· =B) w w':=by
  have hq:=Cg;have hm:=xU P L Bs B N g w st;have hby:=Fq P L Bs B N a xs.length g w st hN (by omega) hin;have hwk:IntKind.wrap .u64 (xs.length:Int)=xs.length:=wrap_u64 _ (by omega) (by omega);have hcp:=fun w1 (h:Below w.heap.size w w1)=>run_copy_cells (P:=prog) w1 77 77 3 5 B a xs.length (N-a) ⟨R,o,none⟩ xs.length c (xs.map (Value.int .u8)) underlying77 (by kernel_rfl) (by simp) (fun j v hv=>by rw [yck];exact (gL hr (h.block R hR)) j v hv)
    (fun j hj=>by rw [(st.below h).full (a+j) (by simp at hj;omega)];rfl) (fun j hj=>(st.below h).free (a+j) (by simp at hj;omega)) (fun v hv=>by obtain ⟨x,_,rfl⟩:=ya6.1 hv;rfl)
  rw [ybw] at hcp;go_enter func52,ntmps52;go_wp2_with (first
    | (go_at_call 63;refine hm.mono ?_;rintro e w' ⟨rfl,hw⟩;have hw:=hw.symm;subst hw)
    | (go_at_call 65;refine hby.mono ?_;rintro e w1 ⟨rfl,hb1⟩;have hcp1:=hcp _ hb1)
    | go_in)
  go_ret;exact ⟨rfl,(st.below hb1).tX xs a g _ hin hb,(Mv.of_below hb1).grown (Pf B _ _ _) (Or.inl rfl)⟩
set_option maxRecDepth 100000 in
theorem Tryz.zzm (R N c:Nat) (w:World) (c0:w.cell? ⟨R,0,none⟩=some (.int .u64 0)) (c1:w.cell? ⟨R,1,none⟩=some (.int .u64 N)) (h1:1≤N) (hN:N≤1048576):
  Calls prog 69 #[.slice (some ⟨R,0,none⟩) 1 c] w fun e w'=>e= .returned (.int .i64 0)∧Below w.heap.size w w':=by
 have hR:=yan w _ c0;have e1:IntKind.wrap .u64 ((N:Int)-1)=N-1:=wrap_u64 _ (by omega) (by omega);have e2:IntKind.wrap .u64 (1048576-(N:Int))=1048576-N:=wrap_u64 _ (by omega) (by omega);go_enter func69,ntmps69;go_wp2;go_loopw [3,12] (fun r i w2=>(i= .int .i64 0∧r= .int .u64 1048576∧w2=w)∨(i= .int .i64 1∧Below w.heap.size w w2)) (fun _ i _=>1-(RowKit.intOf i).toNat)
 case atStart=>exact Or.inl ⟨rfl,rfl,rfl⟩
 case round=>
  rcases hrel with ⟨rfl,rfl,hw⟩|⟨rfl,hb⟩
  ·have hw:=hw.symm;subst hw;go_wp2;exact ⟨Or.inr ⟨rfl,(yag _ w).alloc (yab _) _⟩,by simp [RowKit.intOf]⟩
  ·go_wp2;go_ret;exact ⟨rfl,hb⟩
theorem Tryz.zEr:(prog.info? 42).map (fun i=>(i.zero,i.size,i.bytes))=some (some (.agg #[.int .u64 0,.int .u64 0]),2,16):=by kernel_rfl
theorem Tryz.zEq:(prog.info? 77).map (fun i=>(i.zero,i.size,i.bytes))=some (some (.slice none 0 0),1,24):=by kernel_rfl
theorem Tryz.zAF (a:Option Addr) (n c:Nat) (w:World):(binOp .eql 43 (.slice a n c) (.slice none 0 0)).run prog w= .ok (.bool a.isNone) w:=by
 simp only [binOp];simp [run_equal_slice_nil w 43 42 _ _ _ underlying43]
theorem Tryz.ZC (w:World) (cs:Array Value) (t:TypeId) (o:Nat):(w.alloc (.cells cs t)).frozen? ⟨w.heap.size,o,none⟩=false:=by
 have e:=ybq w (.cells cs t);simp only [World.frozen?,e];simp
set_option maxRecDepth 100000 in
theorem Tryz.zml (R N c:Nat) (w:World) (c0:w.cell? ⟨R,0,none⟩=some (.int .u64 0)) (c1:w.cell? ⟨R,1,none⟩=some (.int .u64 N)):
    Calls prog 70 #[.slice (some ⟨R,0,none⟩) 1 c] w fun e w'=> ∃L cap,e= .returned (.slice (some ⟨L,0,none⟩) 1 cap)∧w.heap.size≤L∧w'.cell? ⟨L,0,none⟩=some (.int .u64 0)∧w'.cell? ⟨L,1,none⟩=some (.int .u64 N)∧Below w.heap.size w w':=by
  have hq:=zAF;have hR:=yan w _ c0;obtain ⟨i0,hi0,hz0,hz1,hzb⟩:=ybl zEr;have wW:=ydt (base:=w.heap.size) (e:=42) (size:=2) w #[] 0 (yab _) (by unfold maxLen;omega) rfl;have hb0:=(yag w.heap.size w).alloc (yab _) (.cells #[] 42);have hr:(w.alloc (.cells #[] 42)).rangeAt R 0 [.int .u64 0,.int .u64 N]:=by
    refine gL (w:=w) ?_ (ycm w _ R hR);intro j v hv
    match j with
    | 0=>cases hv;exact c0
    | 1=>cases hv;exact c1
    | j+2=>cases hv
  go_enter func70,ntmps70;go_wp2_with (first
    | (at_builtin;go_loud (refine ycE _ rfl _ _ 43 rfl w.heap.size 42 i0 (.agg #[.int .u64 0,.int .u64 0]) 2 16 underlying43 hi0 hz0 hz1 hzb rfl (by decide) _ _ _ rfl wW ⟨R,0,none⟩ 1 c [.int .u64 0,.int .u64 N] rfl rfl (fun j v hv=>by rw [yck];exact hr j v hv) (by simp [Value.oneCell']) (by unfold maxLen;omega) (by omega) (by simp) ?_);intro v' w3 hown' hg3 hnil3;go_frame)
    | go_in)
  go_ret;rcases hown'.2 with ⟨_,h⟩|⟨L,cap,cur,rfl,hL,hblk,h1,h2,h3,h4⟩
  · omega
  · have e0:cur[0]? =some (.int .u64 0):=by
      have:=yaH (fun l:List Value=>l[0]?) h4;simpa using this
    have e1:cur[1]? =some (.int .u64 N):=by
      have:=yaH (fun l:List Value=>l[1]?) h4;simpa using this
    refine ⟨L,⟨cap,rfl⟩,hL,?_,?_,hb0.grown hg3 (by simp) (fun j hj=>(wW.lt j hj).1)⟩
    · rw [ycD _ L 0 cur _ (0,0) hblk];exact e0
    · rw [ycD _ L 1 cur _ (0,0) hblk];exact e1
set_option maxRecDepth 100000 in
theorem Tryz.zD9 (R N c:Nat) (w:World) (c0:w.cell? ⟨R,0,none⟩=some (.int .u64 0)) (c1:w.cell? ⟨R,1,none⟩=some (.int .u64 N)) (h1:1≤N) (hN:N≤1048576):
    Calls prog 31 #[.slice (some ⟨R,0,none⟩) 1 c] w fun e w'=> ∃P L Bs B,e= .returned (.tuple #[.pointer (some ⟨P,0,none⟩),.int .i64 0])∧GM w' P L Bs B N (fun _=>0)∧Below w.heap.size w w'∧w.heap.size≤P∧w.heap.size≤L∧w.heap.size≤Bs∧w.heap.size≤B:=by
  obtain ⟨i0,hi0,hz0,hz1,hzb⟩:=ybl zEq;obtain ⟨i1,hi1,hy0,hy1,hyb⟩:=ybl Ar;have hch:=zzm R N c w c0 c1 h1 hN;have hcl:=fun w1 (h:Below w.heap.size w w1)=>zml R N c w1 ((h.cell (yan w _ c0)).trans c0) ((h.cell (yan w _ c1)).trans c1);have hmk:=fun w=>run_makeSlice (P:=prog) w 114 77 i0 (.slice none 0 0) underlying114 hi0 hz0 .i64 .i64 1 2 (by omega) (by omega) (by rw [hz1];decide) (by rw [hzb];decide) (by decide);have hmc:madeCells (Value.slice none 0 0).cells (2*1)= #[.slice none 0 0,.slice none 0 0]:=by kernel_rfl
  simp only [hz1,show (Int.toNat 1)=1 from rfl,show (Int.toNat 2)=2 from rfl,hmc] at hmk;have hw2:IntKind.wrap .i64 2=2:=by decide
  go_enter func31,ntmps31;go_wp2_with (first
    | (go_at_call 69;refine hch.mono ?_;rintro e w1 ⟨rfl,hb1⟩)
    | go_in)
  have d0:=(hb1.cell (yan w _ c0)).trans c0;have d1:=(hb1.cell (yan w _ c1)).trans c1;have Hg:R<w1.heap.size:=yan w1 _ d0;go_cut [5] from 13 to 22 (fun p wx=> ∃P L Bs lc,p= .pointer (some ⟨P,0,none⟩)∧wx.cell? ⟨P,0,none⟩=some (.slice (some ⟨L,0,none⟩) 1 lc)∧wx.cell? ⟨P,1,none⟩=some (.slice (some ⟨Bs,0,none⟩) 1 2)∧
    wx.cell? ⟨L,0,none⟩=some (.int .u64 0)∧wx.cell? ⟨L,1,none⟩=some (.int .u64 N)∧wx.cell? ⟨Bs,0,none⟩=some (.slice none 0 0)∧wx.frozen? ⟨Bs,0,none⟩=false∧w.heap.size≤P∧w.heap.size≤L∧w.heap.size≤Bs∧P≠Bs∧L≠Bs∧Below w.heap.size w wx)
  case first=>
    go_region_with (first
      | (go_at_call 70;refine (zml R N c _ ?_ ?_).mono ?_;exact (by first|exact d0|exact ((yao (a:=⟨R,0,none⟩) (ycm w1.drew _ R Hg)).trans d0));exact (by first|exact d1|exact ((yao (a:=⟨R,1,none⟩) (ycm w1.drew _ R Hg)).trans d1));rintro e w2 ⟨L,lc,rfl,hL,hl0,hl1,hb2⟩))
    all_goals (go_wp2_with fail;go_meet)
    · have Dp:L<w2.heap.size:=yan _ _ hl0;have hbx:=((yag w2.heap.size w2).alloc (yab _) (.cells #[.slice none 0 0,.slice none 0 0] 77)).alloc (by simp) (.cells #[.slice (some ⟨L,0,none⟩) 1 lc,.slice (some ⟨w2.heap.size,0,none⟩) 1 2] 140);have z:=hb2.size;have z1:=hb1.size;have z2:w1.drew.heap.size=w1.heap.size:=rfl;exact ⟨w2.heap.size+1,L,w2.heap.size,lc,rfl,by simp,by simp,(hbx.cell (p:=⟨L,0,none⟩) Dp).trans hl0,(hbx.cell (p:=⟨L,1,none⟩) Dp).trans hl1,by simp,((ycC (a:=⟨w2.heap.size,0,none⟩) (ycm _ _ _ (by simp))).trans (ZC w2 _ _ 0)),by omega,by omega,by omega,by omega,by omega,
        (hb1.trans (((yag _ w1).drew.trans hb2).mono hb1.size)).trans (hbx.mono (by omega))⟩
    · have Dp:L<w2.heap.size:=yan _ _ hl0;have hbx:=(yag w2.heap.size w2).alloc (yab _) (.cells #[.slice (some ⟨L,0,none⟩) 1 lc,.slice (some ⟨w1.heap.size,0,none⟩) 1 2] 140);have z:=hb2.size;have z1:=hb1.size;have z2:w1.drew.heap.size=w1.heap.size:=rfl;have z3:(w1.alloc (.cells #[.slice none 0 0,.slice none 0 0] 77)).drew.heap.size=w1.heap.size+1:=by simp
      rw [z3] at z hL hb2;have q0:(w1.alloc (.cells #[.slice none 0 0,.slice none 0 0] 77)).drew.cell? ⟨w1.heap.size,0,none⟩=some (.slice none 0 0):=by simp
      have q1:(w1.alloc (.cells #[.slice none 0 0,.slice none 0 0] 77)).drew.frozen? ⟨w1.heap.size,0,none⟩=false:=ZC w1 _ _ 0;exact ⟨w2.heap.size,L,w1.heap.size,lc,rfl,by simp,by simp,(hbx.cell (p:=⟨L,0,none⟩) Dp).trans hl0,(hbx.cell (p:=⟨L,1,none⟩) Dp).trans hl1,
        (hbx.cell (p:=⟨w1.heap.size,0,none⟩) (by show w1.heap.size<_;omega)).trans ((hb2.cell (p:=⟨w1.heap.size,0,none⟩) (by show w1.heap.size<_;omega)).trans q0),
        (hbx.frozen (p:=⟨w1.heap.size,0,none⟩) (by show w1.heap.size<_;omega)).trans ((hb2.frozen (p:=⟨w1.heap.size,0,none⟩) (by show w1.heap.size<_;omega)).trans q1),by omega,by omega,by omega,by omega,by omega,
        (hb1.trans ((((yag _ w1).alloc (yab _) _).drew).mono hb1.size)).trans ((hb2.mono (by omega)).trans (hbx.mono (by omega)))⟩
  case rest=>
    obtain ⟨P,L,Bs,lc,rfl,d0,d1,d2,d3,d4,d5,d6,d7,d8,d9,d10,hbx⟩:=hcut;have aaQ:=fun w=>run_makeSlice (P:=prog) w 77 5 i1 (.int .u8 0) underlying77 hi1 hy0 .u64 .u64 N N (by omega) (ybC _) (by rw [hy1];omega) (by rw [hyb];omega) (by omega);simp only [hy1,yaV] at aaQ;have hR2:R<w.heap.size:=yan w _ c0;have r0:=(hbx.cell (p:=⟨R,0,none⟩) hR2).trans c0;have r1:=(hbx.cell (p:=⟨R,1,none⟩) hR2).trans c1;have lP:P<wc.heap.size:=yan wc _ d0;have lL:L<wc.heap.size:=yan wc _ d2;have lB:Bs<wc.heap.size:=yan wc _ d4;have hb3:=(yag wc.heap.size wc).alloc (yab _) (.cells #[.int .u64 0,.int .u64 N] 42);have f1:=(hb3.cell (p:=⟨P,1,none⟩) lP).trans d1;have f4:=(hb3.cell (p:=⟨Bs,0,none⟩) lB).trans d4;have f5:=(hb3.frozen (p:=⟨Bs,0,none⟩) lB).trans d5;go_wp2;go_loopw [25] (fun i wr=>(i= .int .i64 0∧wr=wc)∨(i= .int .i64 1∧ ∃B,GM wr P L Bs B N (fun _=>0)∧Below w.heap.size w wr∧w.heap.size≤B)) (fun i _=>1-(RowKit.intOf i).toNat)
    case atStart=>exact Or.inl ⟨rfl,rfl⟩
    case round=>
      rcases hrel with ⟨rfl,hw⟩|⟨rfl,B,st,hb,hB⟩
      · have hw:=hw.symm;subst hw;go_wp2;go_region;go_wp2_with fail;obtain ⟨C,hC⟩: ∃C,madeCells #[Value.int .u8 0] N=C:=⟨_,rfl⟩;have h1C: ∀j,j<N→C[j]? =some (.int .u8 0):=by
          intro j hj;rw [←hC];simp [madeCells,hj,Nat.mod_one]
        rw [hC];obtain ⟨w4,h4⟩: ∃w4,wc.setCell ⟨Bs,0,none⟩ (.slice (some ⟨wc.heap.size+1,0,none⟩) N N)=w4:=⟨_,rfl⟩;have z4:w4.heap.size=wc.heap.size:=by rw [←h4];simp
        have k4: ∀(a:Addr),a.block≠Bs→w4.cell? a=wc.cell? a:=fun a ha=>by rw [←h4];exact ycu wc ⟨Bs,0,none⟩ a _ (fun e=>ha (yaH Addr.block e).symm)
        have b4:w4.cell? ⟨Bs,0,none⟩=some (.slice (some ⟨wc.heap.size+1,0,none⟩) N N):=by rw [←h4];exact ybO _ _ _ (by rw [d4];rfl)
        have v4:Mv (· =Bs) wc w4:=by rw [←h4];exact (Mv.refl _ wc).setCell _ _ _ (Or.inl rfl)
        rw [h4];clear h4;have hb6:=((yag w4.heap.size w4).alloc (yab _) (.cells #[.int .u64 0,.int .u64 N] 42)).alloc (by simp) (.cells C 5);have q6:(((w4.alloc (.cells #[.int .u64 0,.int .u64 N] 42)).alloc (.cells C 5)).drew).heap[wc.heap.size+1]? =some (.cells C 5 (0,0)):=by
          have:=ybq (w4.alloc (.cells #[.int .u64 0,.int .u64 N] 42)) (.cells C 5);rw [show (w4.alloc (.cells #[.int .u64 0,.int .u64 N] 42)).heap.size=wc.heap.size+1 by simp [z4]] at this;exact this
        have hcell: ∀(a:Addr) v,a.block≠Bs→wc.cell? a=some v→(((w4.alloc (.cells #[.int .u64 0,.int .u64 N] 42)).alloc (.cells C 5)).drew).cell? a=some v:=fun a v ha hv=>
          (hb6.cell (p:=a) (by rw [z4];exact yan wc _ hv)).trans ((k4 a ha).trans hv)
        refine ⟨Or.inr ⟨rfl,wc.heap.size+1,⟨⟨lc,hcell _ _ d9 d0⟩,hcell _ _ d9 d1,hcell _ _ d10 d2,hcell _ _ d10 d3,(hb6.cell (p:=⟨Bs,0,none⟩) (by rw [z4];exact lB)).trans b4,fun j hj=> ?_,fun j hj=> ?_,fun j=>⟨ybC _,by omega⟩,by omega,by omega,by omega,?_⟩,?_,?_⟩,by simp [RowKit.intOf]⟩
        · rw [ycD _ _ j C _ (0,0) q6];exact h1C j hj
        · simp [World.frozen?,q6]
        · simp [z4]
        · exact hbx.trans ((v4.below (fun k hk=>by rw [hk];exact d8) (hbx.size)).trans ((hb6.mono (by rw [z4];exact hbx.size)).drew))
        · have:=hbx.size;omega
      · go_wp2;go_ret2;exact ⟨P,L,Bs,B,rfl,st,hb,d6,d7,d8,hB⟩
end Go.Proofs
namespace Go.Dw
inductive T (α:Type) where
 | leaf
 | node (l:T α) (v:Option α) (r:T α)
namespace T
variable {α:Type}
noncomputable def get (t:T α):Nat→Option α:=
 T.rec (motive:=fun _=>Nat→Option α) (fun _=>none)
  (fun _ v _ il ir n=>Nat.casesOn n v (fun m=>Nat.casesOn (Nat.mod m 2) (il (Nat.div m 2)) (fun _=>ir (Nat.div m 2)))) t
noncomputable def En (v:Option α) (r l:T α):T α:=T.casesOn l (.node .leaf v r) (fun a b c=> .node (.node a b c) v r)
noncomputable def Eo (v:Option α) (l r:T α):T α:=T.casesOn r (.node l v .leaf) (fun a b c=> .node l v (.node a b c))
noncomputable def zDj (ih:T α→Nat→α→T α) (n:Nat) (x:α):T α:=
 Nat.casesOn n (.node .leaf (some x) .leaf)
  (fun m=>Nat.casesOn (Nat.mod m 2) (En none .leaf (ih .leaf (Nat.div m 2) x)) (fun _=>Eo none .leaf (ih .leaf (Nat.div m 2) x)))
noncomputable def setNode (ih:T α→Nat→α→T α) (n:Nat) (x:α) (l:T α) (v:Option α) (r:T α):T α:=
 Nat.casesOn n (.node l (some x) r)
  (fun m=>Nat.casesOn (Nat.mod m 2) (En v r (ih l (Nat.div m 2) x)) (fun _=>Eo v l (ih r (Nat.div m 2) x)))
noncomputable def nY (f:Nat):T α→Nat→α→T α:=
 Nat.rec (motive:=fun _=>T α→Nat→α→T α) (fun t _ _=>t)
  (fun _ ih t n x=>T.casesOn t (zDj ih n x) (fun l v r=>setNode ih n x l v r)) f
noncomputable def set (t:T α) (n:Nat) (x:α):T α:=nY (Nat.succ n) t n x
end T
structure aO where
 i:Nat
 lo:Nat
 hi:Nat
 fr:Nat
 n:Nat
 sh:Nat
inductive SE where
 | lit (n:Int)
 | var (i:Nat)
 | bin (o:BinOp) (k:IntKind) (a b:SE)
 | wrap (k:IntKind) (a:SE)
 | dG (l:List aO) (c:Nat)
inductive SB where
 | lit (b:Bool)
 | var (i:Nat)
 | cmp (o:BinOp) (a b:SE)
 | not (a:SB)
 | beq (a b:SB)
 | and (a b:SB)
structure Val where
 i:Nat→Int
 b:Nat→Bool
 v:Nat→Value
def Val.zero:Val:=⟨fun _=>0,fun _=>false,fun _=> .bool false⟩
def nI (o:BinOp) (k:IntKind) (x y:Int):Int:=
 let a:=BitVec.ofInt k.bits x
 let b:=BitVec.ofInt k.bits y
 match o with
 | .and=>k.wrap (a&&&b).toNat
 | .or=>k.wrap (a|||b).toNat
 | .xor=>k.wrap (a^^^b).toNat
 | _=>k.wrap (a&&& ~~~b).toNat
def jG (o:BinOp) (k:IntKind) (x y:Int):Int:=
 match o with
 | .add=>k.wrap (x+y)
 | .sub=>k.wrap (x-y)
 | .mul=>k.wrap (x*y)
 | .quo=>k.wrap (x.tdiv y)
 | .rem=>x.tmod y
 | .shl=>k.wrap (x*2^(min y.toNat k.bits))
 | .shr=>x.fdiv (2^(min y.toNat k.bits))
 | o=>nI o k x y
def mX (o:BinOp) (x y:Int):Bool:=
 match o with
 | .eql=>x==y
 | .neq=>x !=y
 | .lss=>x<y
 | .leq=>x≤y
 | .gtr=>x>y
 | _=>x≥y
def aO.den (ρ:Val) (f:aO):Nat:=(((max f.lo (min (ρ.i f.i).toNat f.hi))>>>f.fr)%2^f.n)<<<f.sh
def aN (ρ:Val):List aO→Nat→Nat
 | [], c=>c
 | f::l,c=>f.den ρ|||aN ρ l c
def SE.den (ρ:Val):SE→Int
 | .lit n=>n
 | .var i=>ρ.i i
 | .bin o k a b=>jG o k (a.den ρ) (b.den ρ)
 | .wrap k a=>k.wrap (a.den ρ)
 | .dG l c=>Int.ofNat (aN ρ l c)
def SB.den (ρ:Val):SB→Bool
 | .lit b=>b
 | .var i=>ρ.b i
 | .cmp o a b=>mX o (a.den ρ) (b.den ρ)
 | .not a=> !(a.den ρ)
 | .beq a b=>a.den ρ==b.den ρ
 | .and a b=>a.den ρ&&b.den ρ
def aO.beq (f g:aO):Bool:=
 match Nat.beq f.i g.i,Nat.beq f.lo g.lo,Nat.beq f.hi g.hi,Nat.beq f.fr g.fr,Nat.beq f.n g.n,Nat.beq f.sh g.sh with
 | true,true,true,true,true,true=>true
 | _,_,_,_,_,_=>false
def KO:List aO→List aO→Bool
 | [], [] => true
 | f::l,g::m=>match f.beq g with|true=>KO l m|false=>false
 | _,_=>false
def SE.beq:SE→SE→Bool
 | .lit a,.lit b=>match a,b with
  | .ofNat x,.ofNat y=>Nat.beq x y
  | .negSucc x,.negSucc y=>Nat.beq x y
  | _,_=>false
 | .var i,.var j=>Nat.beq i j
 | .bin o k a b,.bin o' k' a' b'=>if o=o' then (if k=k' then (match SE.beq a a' with|true=>SE.beq b b'|false=>false) else false) else false
 | .wrap k a,.wrap k' a'=>if k=k' then SE.beq a a' else false
 | .dG l c,.dG l' c'=>match KO l l' with|true=>Nat.beq c c'|false=>false
 | _,_=>false
def SB.eqv:SB→SB→Bool
 | .lit a,.lit b=>a==b
 | .var i,.var j=>Nat.beq i j
 | .cmp o a b,.cmp o' a' b'=>if o=o' then (match SE.beq a a' with|true=>SE.beq b b'|false=>false) else false
 | .not a,.not b=>SB.eqv a b
 | .beq a b,.beq a' b'=>match SB.eqv a a' with|true=>SB.eqv b b'|false=>false
 | .and a b,.and a' b'=>match SB.eqv a a' with|true=>SB.eqv b b'|false=>false
 | _,_=>false
def zdt:IntKind→Nat
 | .i8=>128| .i16=>32768| .i32=>2147483648| .i64=>9223372036854775808
 | .u8=>256| .u16=>65536| .u32=>4294967296| .u64=>18446744073709551616
def sG (k:IntKind) (n:Int):Int:=
 match n with
 | .ofNat m=>match Nat.blt m (zdt k) with
  | true=> .ofNat m
  | false=>k.wrap n
 | .negSucc m=>match k.signed with
  | true=>match Nat.blt m (zdt k) with
   | true=> .negSucc m
   | false=>k.wrap n
  | false=>k.wrap n
def BB:Int→Int→Bool
 | .ofNat a,.ofNat b=>Nat.blt a b
 | .negSucc _,.ofNat _=>true
 | .ofNat _,.negSucc _=>false
 | .negSucc a,.negSucc b=>Nat.blt b a
def oK:Int→Int→Bool
 | .ofNat a,.ofNat b=>Nat.beq a b
 | .negSucc a,.negSucc b=>Nat.beq a b
 | _,_=>false
def Mh (o:BinOp) (x y:Int):Bool:=
 match o with
 | .eql=>oK x y
 | .neq=>match oK x y with|true=>false|false=>true
 | .lss=>BB x y
 | .leq=>match BB y x with|true=>false|false=>true
 | .gtr=>BB y x
 | _=>match BB x y with|true=>false|false=>true
def nP.nat (o:BinOp) (a b:Nat):Int:=
 match o with
 | .and=> .ofNat (Nat.land a b)
 | .or=> .ofNat (Nat.lor a b)
 | .xor=> .ofNat (Nat.xor a b)
 | _=> .ofNat (Nat.xor a (Nat.land a b))
def nP (o:BinOp) (k:IntKind) (x y:Int):Int:=
 match x,y with
 | .ofNat a,.ofNat b=>
  match Nat.blt a (zdt k),Nat.blt b (zdt k) with
  | true,true=>nP.nat o a b
  | _,_=>nI o k x y
 | _,_=>nI o k x y
def U2 (k:IntKind) (x:Int) (y:Nat):Int:=
 match x with
 | .ofNat a=> .ofNat (Nat.div a (Nat.pow 2 (match Nat.blt y k.bits with|true=>y|false=>k.bits)))
 | .negSucc _=>x.fdiv (2^(min y k.bits))
def U1 (k:IntKind) (x:Int) (y:Nat):Int:=
 match x with
 | .ofNat a=>sG k (.ofNat (Nat.mul a (Nat.pow 2 (match Nat.blt y k.bits with|true=>y|false=>k.bits))))
 | .negSucc _=>k.wrap (x*2^(min y k.bits))
def Si:Int→Int→Int
 | .ofNat a,.ofNat b=> .ofNat (Nat.add a b)
 | x,y=>x+y
def OE:Int→Int→Int
 | .ofNat a,.ofNat b=>match Nat.ble b a with|true=> .ofNat (Nat.sub a b)|false=> .negSucc (Nat.sub (Nat.sub b a) 1)
 | x,y=>x-y
def Uz:Int→Int→Int
 | .ofNat a,.ofNat b=> .ofNat (Nat.mul a b)
 | x,y=>x*y
def SF:Int→Int→Int
 | .ofNat a,.ofNat b=> .ofNat (Nat.div a b)
 | x,y=>x.tdiv y
def Uy:Int→Int→Int
 | .ofNat a,.ofNat b=> .ofNat (Nat.mod a b)
 | x,y=>x.tmod y
def Ed (o:BinOp) (k:IntKind) (x y:Int):Option Int:=
 match o with
 | .add=>some (sG k (Si x y))
 | .sub=>some (sG k (OE x y))
 | .mul=>some (sG k (Uz x y))
 | .quo=>match oK y 0 with|true=>none|false=>some (sG k (SF x y))
 | .rem=>match oK y 0 with|true=>none|false=>some (Uy x y)
 | .shl=>match y with| .ofNat n=>some (U1 k x n)|_=>none
 | .shr=>match y with| .ofNat n=>some (U2 k x n)|_=>none
 | .and=>some (nP .and k x y)
 | .or=>some (nP .or k x y)
 | .xor=>some (nP .xor k x y)
 | .andNot=>some (nP .andNot k x y)
 | _=>none
def qJ {β:Type} (n:Nat) (k:Nat→β):β:=Nat.casesOn n (k 0) (fun m=>k (Nat.succ m))
def kn:IntKind→Nat
 | .i8=>0| .i16=>1| .i32=>2| .i64=>3| .u8=>4| .u16=>5| .u32=>6| .u64=>7
def dD:IntKind→Nat
 | .i8=>7| .i16=>15| .i32=>31| .i64=>63| .u8=>8| .u16=>16| .u32=>32| .u64=>64
def zG:IntKind→Bool
 | .i8| .i16| .i32| .i64=>true
 | _=>false
def pG (W:Nat):List aO→List aO
 | [] => []
 | f::l=>match Nat.blt f.sh W with
  | false=>pG W l
  | true=>match Nat.ble (Nat.add f.sh f.n) W with
   | true=>f::pG W l
   | false=>⟨f.i,f.lo,f.hi,f.fr,Nat.sub W f.sh,f.sh⟩::pG W l
def qN (m:Nat):List aO→List aO
 | [] => []
 | f::l=>match Nat.ble m f.sh with
  | true=>⟨f.i,f.lo,f.hi,f.fr,f.n,Nat.sub f.sh m⟩::qN m l
  | false=>match Nat.blt m (Nat.add f.sh f.n) with
   | true=>⟨f.i,f.lo,f.hi,Nat.add f.fr (Nat.sub m f.sh),Nat.sub f.n (Nat.sub m f.sh),0⟩::qN m l
   | false=>qN m l
def Gl (m:Nat):List aO→List aO
 | [] => []
 | f::l=>⟨f.i,f.lo,f.hi,f.fr,f.n,Nat.add f.sh m⟩::Gl m l
def G5 (g f:aO):Option aO:=
 match Nat.beq g.i f.i,Nat.beq g.lo f.lo,Nat.beq g.hi f.hi,Nat.beq (Nat.add g.fr g.n) f.fr,Nat.beq (Nat.add g.sh g.n) f.sh with
 | true,true,true,true,true=>some ⟨g.i,g.lo,g.hi,g.fr,Nat.add g.n f.n,g.sh⟩
 | _,_,_,_,_=>none
def yI:List aO→aO→List aO
 | [], f=> [f]
 | g::l,f=>match G5 g f with
  | some h=>yI l h
  | none=>match G5 f g with
   | some h=>yI l h
   | none=>g::yI l f
def sF (l:List aO):List aO→List aO
 | [] => l
 | f::m=>sF (yI l f) m
def pieces (keep:Nat→Bool) (f:aO):Nat→List aO
 | 0=> []
 | b+1=>match keep (Nat.add f.sh b) with
  | true=>⟨f.i,f.lo,f.hi,Nat.add f.fr b,1,Nat.add f.sh b⟩::pieces keep f b
  | false=>pieces keep f b
def yo (keep:Nat→Bool):List aO→List aO
 | [] => []
 | f::l=>sF (yo keep l) (pieces keep f f.n)
def fits (W:Nat):List aO→Bool
 | [] => true
 | f::l=>match Nat.ble (Nat.add f.sh f.n) W with|true=>fits W l|false=>false
def pO (W:Nat) (l:List aO) (c:Nat):Bool:=match Nat.blt c (Nat.pow 2 W) with|true=>fits W l|false=>false
def IK:SE→Option (List aO×Nat)
 | .lit (.ofNat n)=>some ([],n)
 | .dG l c=>some (l,c)
 | _=>none
def qw (l:List aO) (c:Nat):SE:=
 match l with
 | [] => qJ c fun c=> .lit (.ofNat c)
 | f::l=>qJ c fun c=> .dG (f::l) c
def u7 (k:IntKind):Option (Nat×Nat):=match zG k with|true=>none|false=>some (0,Nat.sub (Nat.pow 2 (dD k)) 1)
def bnd (a:SE):Option (Nat×Nat):=
 match a with
 | .lit (.ofNat n)=>some (n,n)
 | .dG [f] 0=>(match Nat.beq f.fr 0,Nat.beq f.sh 0,Nat.blt (Nat.max f.lo f.hi) (Nat.pow 2 f.n) with
  | true,true,true=>some (f.lo,Nat.max f.lo f.hi)
  | _,_,_=>match pO 64 [f] 0 with|true=>some (0,18446744073709551615)|false=>none)
 | .bin .add k x y=>(match bnd x,bnd y with
  | some (p,q),some (r,s)=>(match Nat.blt (Nat.add q s) (Nat.pow 2 (dD k)) with
   | true=>some (Nat.add p r,Nat.add q s)
   | false=>u7 k)
  | _,_=>u7 k)
 | .bin .sub k x y=>(match bnd x,bnd y with
  | some (p,q),some (r,s)=>(match Nat.ble s p,Nat.blt q (Nat.pow 2 (dD k)) with
   | true,true=>some (Nat.sub p s,Nat.sub q r)
   | _,_=>(match Nat.blt q r,Nat.ble s (Nat.pow 2 (dD k)),zG k with
    | true,true,false=>some (Nat.sub (Nat.add (Nat.pow 2 (dD k)) p) s,Nat.sub (Nat.add (Nat.pow 2 (dD k)) q) r)
    | _,_,_=>u7 k))
  | _,_=>u7 k)
 | .bin .mul k x y=>(match bnd x,bnd y with
  | some (p,q),some (r,s)=>(match Nat.blt (Nat.mul q s) (Nat.pow 2 (dD k)) with
   | true=>some (Nat.mul p r,Nat.mul q s)
   | false=>u7 k)
  | _,_=>u7 k)
 | .bin .rem _ x y=>(match bnd x,bnd y with
  | some (_,q),some (r,s)=>(match Nat.blt 0 r with
   | true=>some (0,Nat.min q (Nat.sub s 1))
   | false=>none)
  | _,_=>none)
 | .wrap k _=>u7 k
 | _=>none
def RG (k:IntKind) (a:SE):SE:=
 match bnd a with
 | some (_,q)=>(match Nat.blt q (Nat.pow 2 (dD k)) with|true=>a|false=> .wrap k a)
 | none=> .wrap k a
def OO (k:IntKind) (a:SE):SE:=
 match a with
 | .dG l c=>(match zG k with
  | true=>(match pO (dD k) l c with|true=> .dG l c|false=> .wrap k (.dG l c))
  | false=>qw (pG (dD k) l) (Nat.mod c (Nat.pow 2 (dD k))))
 | a=>RG k a
def Ox (k:IntKind) (a b:SE) (l:List aO) (c:Nat) (l':List aO) (c':Nat):SE:=
 match pO (dD k) l c,pO (dD k) l' c' with
 | true,true=>qw (sF l l') (Nat.lor c c')
 | _,_=> .bin .or k a b
def IE (k:IntKind) (a b:SE) (l:List aO) (c m:Nat):SE:=
 match pO (dD k) l c,Nat.blt m (Nat.pow 2 (dD k)) with
 | true,true=>qw (yo (Nat.testBit m) l) (Nat.land c m)
 | _,_=> .bin .and k a b
def Q7 (k:IntKind) (a b:SE) (l:List aO) (c m:Nat):SE:=
 match pO (dD k) l c,Nat.blt m (Nat.pow 2 (dD k)) with
 | true,true=>qw (yo (fun i=>match Nat.testBit m i with|true=>false|false=>true) l) (Nat.xor c (Nat.land c m))
 | _,_=> .bin .andNot k a b
def OA (k:IntKind) (a b:SE) (l:List aO) (c n:Nat):SE:=
 match Nat.ble n k.bits,zG k with
 | true,false=>qw (pG (dD k) (Gl n l)) (Nat.mod (Nat.mul c (Nat.pow 2 n)) (Nat.pow 2 (dD k)))
 | _,_=> .bin .shl k a b
def OB (k:IntKind) (a b:SE) (l:List aO) (c n:Nat):SE:=
 match Nat.ble n k.bits with
 | true=>qw (qN n l) (Nat.div c (Nat.pow 2 n))
 | false=> .bin .shr k a b
def IZ (m:Nat):List aO→Bool
 | [] => true
 | f::l=>match Nat.ble m f.sh with|true=>IZ m l|false=>false
def width (l:List aO) (c:Nat):Nat:=
 match l with
 | [] => (match c with|0=>0|c+1=>Nat.succ (Nat.log2 (Nat.succ c)))
 | f::l=>Nat.max (Nat.add f.sh f.n) (width l c)
def Ou (k:IntKind) (a b:SE) (l:List aO) (c:Nat) (l':List aO) (c':Nat):SE:=
 match pO (dD k) l c,pO (dD k) l' c' with
 | true,true=>(match pO (width l c) l c,IZ (width l c) l',Nat.beq (Nat.mod c' (Nat.pow 2 (width l c))) 0 with
  | true,true,true=>qw (sF l l') (Nat.lor c c')
  | _,_,_=> .bin .add k a b)
 | _,_=> .bin .add k a b
def Oy (k:IntKind) (a b:SE) (l:List aO) (c n:Nat):SE:=
 match pO (dD k) l c,Nat.beq n (Nat.pow 2 (Nat.log2 n)) with
 | true,true=>qw (qN (Nat.log2 n) l) (Nat.div c (Nat.pow 2 (Nat.log2 n)))
 | _,_=> .bin .quo k a b
def Oz (k:IntKind) (a b:SE) (l:List aO) (c n:Nat):SE:=
 match Nat.beq n (Nat.pow 2 (Nat.log2 n)) with
 | true=>qw (pG (Nat.log2 n) l) (Nat.mod c (Nat.pow 2 (Nat.log2 n)))
 | false=> .bin .rem k a b
def Ow (o:BinOp) (k:IntKind) (a b:SE) (l:List aO) (c:Nat) (l':List aO) (c':Nat):SE:=
 match l' with
 | [] => (match Nat.beq c' 0,pO (dD k) l c with
  | true,true=>qw l c
  | _,_=> .bin o k a b)
 | _=> .bin o k a b
def jM (o:BinOp) (k:IntKind) (a b:SE):SE:=
 match IK a,IK b with
 | some (l,c),some (l',c')=>(match o with
  | .or=>Ox k a b l c l' c'
  | .and=>(match l' with
   | [] => IE k a b l c c'
   | _=>(match l with
    | [] => IE k b a l' c' c
    | _=> .bin .and k a b))
  | .andNot=>(match l' with| []=>Q7 k a b l c c'|_=> .bin .andNot k a b)
  | .shl=>(match l' with| []=>OA k a b l c c'|_=> .bin .shl k a b)
  | .shr=>(match l' with| []=>OB k a b l c c'|_=> .bin .shr k a b)
  | .add=>Ou k a b l c l' c'
  | .quo=>(match l' with| []=>Oy k a b l c c'|_=> .bin .quo k a b)
  | .rem=>(match l' with| []=>Oz k a b l c c'|_=> .bin .rem k a b)
  | .sub=>Ow .sub k a b l c l' c'
  | o=> .bin o k a b)
 | _,_=> .bin o k a b
def zwH (o:BinOp):Bool:=
 match o with
 | .neq| .lss| .gtr=>false
 | _=>true
def OP (o:BinOp) (a b:SE):SB:=
 match bnd a,bnd b with
 | some (p,q),some (r,s)=>(match o with
  | .eql=>(match Nat.blt q r,Nat.blt s p with|false,false=> .cmp .eql a b|_,_=> .lit false)
  | .neq=>(match Nat.blt q r,Nat.blt s p with|false,false=> .cmp .neq a b|_,_=> .lit true)
  | .lss=>(match Nat.blt q r,Nat.ble s p with|true,_=> .lit true|_,true=> .lit false|_,_=> .cmp .lss a b)
  | .gtr=>(match Nat.blt s p,Nat.ble q r with|true,_=> .lit true|_,true=> .lit false|_,_=> .cmp .gtr a b)
  | .leq=>(match Nat.ble q r,Nat.blt s p with|true,_=> .lit true|_,true=> .lit false|_,_=> .cmp .leq a b)
  | .geq=>(match Nat.ble s p,Nat.blt q r with|true,_=> .lit true|_,true=> .lit false|_,_=> .cmp .geq a b)
  | o=> .cmp o a b)
 | _,_=> .cmp o a b
def Ov (o:BinOp) (a b:SE):SB:=
 match SE.beq a b with
 | true=> .lit (zwH o)
 | false=>OP o a b
inductive kJ where
 | known (c:Nat)
 | upto (skip:Nat)
inductive AV where
 | bool (b:SB)
 | int (k:IntKind) (n:SE)
 | str (s:List Nat)
 | jr
 | ptr (n off:Nat)
 | bZ
 | sl (n off len:Nat) (cap:kJ)
 | emp
 | oW (n:SE)
 | nG
 | kT
 | map (n:Nat)
 | func (f:FuncId) (first cap:List AV)
 | fT
 | nD
 | iface (t:TypeId) (v:AV)
 | agg (l:List AV)
 | aH (l:List AV)
 | cst (i:Nat) (len:Option SE)
 | opq (n:Nat) (len:Option SE)
 | iR (c:SB) (w:Bool)
 | junk
 | sx (i:Nat) (n:SE) (sz:Nat) (l:List (SE×Nat))
def LW:List (SE×Nat)→List (SE×Nat)→Bool
 | [], [] => true
 | a::l,b::m=>match SE.beq a.1 b.1,Nat.beq a.2 b.2 with|true,true=>LW l m|_,_=>false
 | _,_=>false
def Lv:Option SE→Option SE→Bool
 | none,none=>true
 | some a,some b=>SE.beq a b
 | _,_=>false
def kJ.beq:kJ→kJ→Bool
 | .known a,.known b=>Nat.beq a b
 | .upto a,.upto b=>Nat.beq a b
 | _,_=>false
def uo:List Nat→List Nat→Bool
 | [], [] => true
 | a::l,b::m=>match Nat.beq a b with|true=>uo l m|false=>false
 | _,_=>false
mutual
def AV.beq:AV→AV→Bool
 | .bool a,.bool b=>SB.eqv a b
 | .int k n,.int k' n'=>match SE.beq n n' with|true=>(if k=k' then true else false)|false=>false
 | .str a,.str b=>uo a b
 | .jr,.jr=>true
 | .ptr a b,.ptr c d=>match Nat.beq a c with|true=>Nat.beq b d|false=>false
 | .bZ,.bZ=>true
 | .sl a b c d,.sl a' b' c' d'=>match Nat.beq a a',Nat.beq b b',Nat.beq c c' with|true,true,true=>kJ.beq d d'|_,_,_=>false
 | .emp,.emp=>true
 | .oW a,.oW b=>SE.beq a b
 | .nG,.nG=>true
 | .kT,.kT=>true
 | .map a,.map b=>Nat.beq a b
 | .func f l l',.func g m m'=>match Nat.beq f g,AV.pV l m with|true,true=>AV.pV l' m'|_,_=>false
 | .fT,.fT=>true
 | .nD,.nD=>true
 | .iface t v,.iface u w=>match Nat.beq t u with|true=>AV.beq v w|false=>false
 | .agg l,.agg m=>AV.pV l m
 | .aH l,.aH m=>AV.pV l m
 | .cst i l,.cst i' l'=>match Nat.beq i i' with|true=>Lv l l'|false=>false
 | .opq i l,.opq i' l'=>match Nat.beq i i' with|true=>Lv l l'|false=>false
 | .junk,.junk=>true
 | .sx i n s l,.sx i' n' s' l'=>match Nat.beq i i',SE.beq n n',Nat.beq s s' with|true,true,true=>LW l l'|_,_,_=>false
 | .iR c w,.iR c' w'=>match SB.eqv c c' with|true=>(match w,w' with|true,true=>true|false,false=>true|_,_=>false)|false=>false
 | _,_=>false
def AV.pV:List AV→List AV→Bool
 | [], [] => true
 | a::l,b::m=>match AV.beq a b with|true=>AV.pV l m|false=>false
 | _,_=>false
end
def jN:AV:= .aH []
def Lu:Value→Option AV
 | .bool b=>some (.bool (.lit b))
 | .int k n=>some (.int k (.lit n))
 | .string s=>some (.str (s.data.toList.map (·.toNat)))
 | .pointer none=>some .jr
 | .slice none 0 0=>some .bZ
 | .map none=>some .kT
 | .nilFunc=>some .fT
 | .nilIface=>some .nD
 | _=>none
def Co:List Value→Option (List AV)
 | [] => some []
 | v::l=>match Lu v with
  | none=>none
  | some a=>match Co l with
   | none=>none
   | some m=>some (a::m)
def ofValue (v:Value):Option AV:=
 match v with
 | .agg cs=>match Co cs.toList with|some l=>some (.agg l)|none=>none
 | .tuple vs=>match Co vs.toList with|some l=>some (.aH l)|none=>none
 | v=>Lu v
def AV.cells:AV→List AV
 | .agg l=>l
 | v=> [v]
structure Vec where
 t:T AV
 n:Nat
 d:AV
def Vec.get (v:Vec) (i:Nat):AV:=match v.t.get i with|some x=>x|none=>v.d
def Vec.set (v:Vec) (i:Nat) (x:AV):Vec:=match v with|⟨t,n,d⟩=>match t.set i x with| .leaf=>⟨.leaf,n,d⟩| .node a b c=>⟨.node a b c,n,d⟩
def Vec.list (v:Vec) (i:Nat):Nat→List AV
 | 0=> []
 | n+1=>v.get i::Vec.list v (Nat.succ i) n
def Vec.put (v:Vec) (i:Nat):List AV→Vec
 | [] => v
 | x::l=>Vec.put (v.set i x) (Nat.succ i) l
def Vec.ofList (l:List AV):Vec:=Vec.put ⟨.leaf,l.length,jN⟩ 0 l
structure ME where
 key:AV
 val:AV
 born:Nat
inductive Obj where
 | cells (v:Vec) (bH kC:Nat) (closed:Option Nat) (shared own:Bool)
 | map (es:List ME) (clock:Nat)
 | iter (m:Option Nat) (since:Nat) (seen:List Nat) (stepped:Nat)
 | rQ (es:List ME)
 | dm (kn:List (AV×Option AV)) (log:List (AV×Option AV))
 | opq
 | gs (k:Nat)
structure Heap where
 m:T Obj
 nx:Nat
 gw:T Nat
def Heap.alloc (H:Heap) (o:Obj):Heap:=
 match H with
 | ⟨m,nx,gw⟩=>match m.set nx o with
  | .leaf=>⟨.leaf,nx+1,gw⟩
  | .node a b c=>qJ (nx+1) fun x=>⟨.node a b c,x,gw⟩
def Heap.upd (H:Heap) (n:Nat) (o:Obj):Heap:=
 match H with
 | ⟨m,nx,gw⟩=>match m.set n o with
  | .leaf=>⟨.leaf,nx,gw⟩
  | .node a b c=>⟨.node a b c,nx,gw⟩
def Heap.wrote (H:Heap) (g:Nat):Heap:=match H with|⟨m,nx,gw⟩=>⟨m,nx,gw.set g nx⟩
def alive (gw:T Nat) (g:Nat) (closed:Option Nat):Bool:=
 match closed with
 | none=>true
 | some t=>match gw.get g with
  | none=>true
  | some w=>Nat.blt w t
def Heap.row (H:Heap) (n:Nat):Option Vec:=
 match H.m.get n with
 | some (.cells v _ g closed _ _)=>match alive H.gw g closed with
  | true=>some v
  | false=>none
 | _=>none
def R5:AV→Bool
 | .agg _=>false
 | .aH _=>false
 | .iR _ _=>false
 | .junk=>false
 | _=>true
def zX:List AV→Bool
 | [] => true
 | a::l=>match R5 a with|true=>zX l|false=>false
def Heap.store (H:Heap) (n off:Nat) (l:List AV):Option Heap:=
 match H.m.get n with
 | some (.cells v bH g none sh true)=>
  match Nat.ble (Nat.add off l.length) v.n,zX l with
  | true,true=>match sh with
   | false=>some (H.upd n (.cells (v.put off l) bH g none false true))
   | true=>some ((H.upd n (.cells (v.put off l) bH g none false true)).wrote g)
  | _,_=>none
 | _=>none
def Heap.iE (H:Heap) (n:Nat):Option (List ME×Nat):=
 match H.m.get n with
 | some (.map es c)=>some (es,c)
 | _=>none
def Heap.uV (H:Heap) (n:Nat):Option (List (AV×Option AV)×List (AV×Option AV)):=
 match H.m.get n with
 | some (.dm kn log)=>some (kn,log)
 | _=>none
def Heap.gs (H:Heap):Nat:=
 match H.m.get 0 with
 | some (.gs k)=>k
 | _=>0
end Go.Dw
namespace Go.Dw
inductive Ob where
 | ok
 | bad (n:Nat) (s:String)
 | all (l:List Ob)
 | ite (c:SB) (t e:Ob)
mutual
def Ob.den (ρ:Val):Ob→Prop
 | .ok=>True
 | .bad _ _=>False
 | .all l=>Ob.GN ρ l
 | .ite c t e=>(c.den ρ=true→t.den ρ)∧(c.den ρ=false→e.den ρ)
def Ob.GN (ρ:Val):List Ob→Prop
 | [] => True
 | o::l=>o.den ρ∧Ob.GN ρ l
end
mutual
def Ob.good:Ob→Bool
 | .ok=>true
 | .bad _ _=>false
 | .all l=>Ob.G8 l
 | .ite _ t e=>match t.good with|true=>e.good|false=>false
def Ob.G8:List Ob→Bool
 | [] => true
 | o::l=>match o.good with|true=>Ob.G8 l|false=>false
end
inductive Ex where
 | normal
 | exit (id:Nat)
 | ret
section
variable (P:Program)
def bS:Nat:=1000000
def bq (env:T AV):Operand→Option AV
 | .tmp t=>match Nat.blt t bS with
  | true=>(match env.get t with|some .junk=>none|some v=>some v|none=>some jN)
  | false=>none
 | .const v=>ofValue v
 | .func f=>some (.func f [] [])
 | .global _=>none
def lI (env:T AV):List Operand→Option (List AV)
 | [] => some []
 | x::l=>match bq env x with
  | none=>none
  | some a=>match lI env l with
   | none=>none
   | some m=>some (a::m)
def jd (t:TypeId):Option Nat:=match P.info? t with|some i=>some i.size|none=>none
def Lj (t:TypeId):Option Bool:=
 match P.underlying t with
 | some (.struct _)=>some true
 | some (.array _ _)=>some true
 | some _=>some false
 | none=>none
def sH (t:TypeId):Option AV:=
 match P.info? t with
 | some i=>(match i.zero with|some v=>ofValue v|none=>none)
 | none=>none
def Av:Nat→List AV→List AV
 | 0,l=>l
 | _+1,[]=> []
 | n+1,_::l=>Av n l
def takeN:Nat→List AV→Option (List AV)
 | 0,_=>some []
 | _+1,[]=>none
 | n+1,a::l=>match takeN n l with|some m=>some (a::m)|none=>none
def qP (t:TypeId) (cs:List AV) (off:Nat):Option AV:=
 match Lj P t,jd P t with
 | some true,some n=>match takeN n (Av off cs) with|some l=>some (.agg l)|none=>none
 | some false,_=>match Av off cs with|a::_=>some a| []=>none
 | _,_=>none
def Gm (o:BinOp) (a b:SE):SB:=
 match a,b with
 | .lit x,.lit y=> .lit (Mh o x y)
 | a,b=>Ov o a b
def mkNot:SB→SB
 | .lit true=> .lit false
 | .lit false=> .lit true
 | .not b=>b
 | b=> .not b
def OZ (a b:SB):SB:=
 match a,b with
 | .lit true,b=>b
 | .lit false,b=>mkNot b
 | a,.lit true=>a
 | a,.lit false=>mkNot a
 | a,b=> .beq a b
def mkInt (o:BinOp) (k:IntKind) (a b:SE):Option SE:=
 match a,b with
 | .lit x,.lit y=>match Ed o k x y with
  | some (.ofNat m)=>qJ m fun m=>some (.lit (.ofNat m))
  | some (.negSucc m)=>qJ m fun m=>some (.lit (.negSucc m))
  | none=>none
 | a,.lit y=>match o with
  | .add=>some (jM .add k a (.lit y))| .sub=>some (jM .sub k a (.lit y))| .mul=>some (jM .mul k a (.lit y))
  | .and=>some (jM .and k a (.lit y))| .or=>some (jM .or k a (.lit y))| .xor=>some (jM .xor k a (.lit y))| .andNot=>some (jM .andNot k a (.lit y))
  | .quo=>match oK y 0 with|true=>none|false=>some (jM .quo k a (.lit y))
  | .rem=>match oK y 0 with|true=>none|false=>some (jM .rem k a (.lit y))
  | .shl=>match y with| .ofNat _=>some (jM .shl k a (.lit y))|_=>none
  | .shr=>match y with| .ofNat _=>some (jM .shr k a (.lit y))|_=>none
  | _=>none
 | a,b=>match o with
  | .quo=>(match bnd b with|some (q,_)=>(match Nat.blt 0 q with|true=>some (jM .quo k a b)|false=>none)|none=>none)
  | .rem=>(match bnd b with|some (q,_)=>(match Nat.blt 0 q with|true=>some (jM .rem k a b)|false=>none)|none=>none)
  | .add=>some (jM .add k a b)| .sub=>some (jM .sub k a b)| .mul=>some (jM .mul k a b)
  | .and=>some (jM .and k a b)| .or=>some (jM .or k a b)| .xor=>some (jM .xor k a b)| .andNot=>some (jM .andNot k a b)
  | _=>none
def mkWrap (k:IntKind) (a:SE):SE:=
 match a with
 | .lit x=>match sG k x with
  | .ofNat m=>qJ m fun m=> .lit (.ofNat m)
  | .negSucc m=>qJ m fun m=> .lit (.negSucc m)
 | a=>OO k a
def Aq:BinOp→Bool
 | .eql| .neq| .lss| .leq| .gtr| .geq=>true
 | _=>false
def FO:BinOp→Bool
 | .shl| .shr=>true
 | _=>false
def wE (H:Heap) (n m:Nat):Bool:=
 match H.m.get n,H.m.get m with
 | some (.cells _ _ g _ _ true),some (.cells _ _ g' _ _ true)=>
  match Nat.beq g g' with
  | true=>false
  | false=>match H.row n,H.row m with
   | some _,some _=>true
   | _,_=>false
 | _,_=>false
def mkAnd (a b:SB):SB:=
 match a,b with
 | .lit true,b=>b
 | .lit false,_=> .lit false
 | a,.lit true=>a
 | _,.lit false=> .lit false
 | a,b=> .and a b
def eqFields (eq:TypeId→AV→AV→Option SB):List Field→List AV→List AV→Option SB
  | [], _,_=>some (.lit true)
  | fd::l,xs,ys=>
    if fd.name = "_" then eqFields eq l xs ys else
    match qP P fd.type xs fd.offset,qP P fd.type ys fd.offset with
    | some a,some b=>match eq fd.type a b with
      | none=>none
      | some c=>match eqFields eq l xs ys with
        | some d=>some (mkAnd c d)
        | none=>none
    | _,_=>none
def vQ (eq:AV→AV→Option SB) (e:TypeId) (s:Nat):Nat→Nat→List AV→List AV→Option SB
 | 0,_,_,_=>some (.lit true)
 | n+1,i,xs,ys=>
  match qP P e xs (i*s),qP P e ys (i*s) with
  | some a,some b=>match eq a b with
   | none=>none
   | some c=>match vQ eq e s n (i+1) xs ys with
    | some d=>some (mkAnd c d)
    | none=>none
  | _,_=>none
def jk (H:Heap):Nat→TypeId→AV→AV→Option SB
 | 0,_,_,_=>none
 | f+1,t,x,y=>
  match P.underlying t with
  | some .bool=>match x,y with
   | .bool a,.bool b=>some (OZ a b)
   | _,_=>none
  | some (.int _)=>match x,y with
   | .int k a,.int k' b=>match Nat.beq (kn k) (kn k') with|true=>some (Gm .eql a b)|false=>none
   | _,_=>none
  | some (.pointer e)=>match x,y with
   | .jr,.jr=>some (.lit true)
   | .jr,.ptr _ _=>some (.lit false)
   | .ptr _ _,.jr=>some (.lit false)
   | .ptr n o,.ptr m p=>match jd P e with
    | some (_+1)=>match Nat.beq n m with
     | true=>some (.lit (Nat.beq o p))
     | false=>match wE H n m with
      | true=>some (.lit false)
      | false=>none
    | _=>none
   | _,_=>none
  | some (.slice _)=>match x,y with
   | .bZ,.bZ=>some (.lit true)
   | .bZ,.sl _ _ _ _=>some (.lit false)
   | .bZ,.emp=>some (.lit false)
   | .sl _ _ _ _,.bZ=>some (.lit false)
   | .emp,.bZ=>some (.lit false)
   | .bZ,.nG=>some (.lit false)
   | .nG,.bZ=>some (.lit false)
   | _,_=>none
  | some (.map _ _)=>match x,y with
   | .kT,.kT=>some (.lit true)
   | .kT,.map _=>some (.lit false)
   | .map _,.kT=>some (.lit false)
   | _,_=>none
  | some (.func _ _ _)=>match x,y with
   | .fT,.fT=>some (.lit true)
   | .fT,.func _ _ _=>some (.lit false)
   | .func _ _ _,.fT=>some (.lit false)
   | _,_=>none
  | some (.struct fs)=>match x,y with
   | .agg xs,.agg ys=>match P.stoodInHeld t with
    | true=>none
    | false=>eqFields P (jk H f) fs.toList xs ys
   | _,_=>none
  | some (.array len e)=>match x,y with
   | .agg xs,.agg ys=>match jd P e with
    | some s=>vQ P (jk H f e) e s len 0 xs ys
    | none=>none
   | _,_=>none
  | _=>none
def R9 (o:BinOp) (k k':IntKind) (a b:SE):Option AV:=
 match FO o with
 | true=>(match mkInt o k a b with|some c=>some (.int k c)|none=>none)
 | false=>match Nat.beq (kn k) (kn k') with
  | true=>(match Aq o with
   | true=>some (.bool (Gm o a b))
   | false=>match mkInt o k a b with|some c=>some (.int k c)|none=>none)
  | false=>none
def VB (_:BinOp) (_ _:List Nat):Option AV:=none
def kz (H:Heap) (o:BinOp) (t:TypeId) (x y:AV):Option AV:=
 match o with
 | .eql=>(match jk P H 8 t x y with|some b=>some (.bool b)|none=>none)
 | .neq=>(match jk P H 8 t x y with|some b=>some (.bool (mkNot b))|none=>none)
 | _=>none
def wG (H:Heap) (c:Bool) (o:BinOp) (t:TypeId) (x y:AV):Option AV:=
 match x with
 | .int k a=>(match y with| .int k' b=>R9 o k k' a b|_=>none)
 | .str a=>(match y with| .str b=>VB o a b|_=>none)
 | .nD=>(match c with|true=>kz P H o t .nD y|false=>none)
 | .agg l=>(match P.eqGuardType P.depth t with|true=>none|false=>kz P H o t (.agg l) y)
 | x=>kz P H o t x y
def Ve (o:UnOp) (x:AV):Option AV:=
 match o,x with
 | .not,.bool b=>some (.bool (mkNot b))
 | .neg,.int k n=>match mkInt .sub k (.lit 0) n with|some c=>some (.int k c)|none=>none
 | .xor,.int k n=>match mkInt .xor k n (.lit (if k.signed then-1 else k.max)) with|some c=>some (.int k c)|none=>none
 | _,_=>none
def Rq:List Nat→List AV
 | [] => []
 | b::l=> .int .u8 (.lit (.ofNat b))::Rq l
def Aj (H:Heap) (sz n:Nat) (x:AV):Option (List AV):=
 match x with
 | .bZ=>(match n with|0=>some []|_+1=>none)
 | .emp=>(match n with|0=>some []|_+1=>none)
 | .sl b off len _=>(match Nat.ble n len with
  | false=>none
  | true=>match H.row b with
   | none=>none
   | some v=>match Nat.ble (Nat.add off (Nat.mul n sz)) v.n with
    | true=>some (v.list off (Nat.mul n sz))
    | false=>none)
 | .str s=>(match Nat.beq sz 1 with|true=>takeN n (Rq s)|false=>none)
 | _=>none
def BA (x:AV):Option Nat:=
 match x with
 | .bZ=>some 0
 | .emp=>some 0
 | .sl _ _ len _=>some len
 | .str s=>some s.length
 | _=>none
def zy8 (_:Heap) (_:TypeId) (_:AV):Option AV:=none
def Wt (H:Heap) (src dst:TypeId) (x:AV):Option AV:=
 match P.underlying src with
 | none=>none
 | some s=>match P.underlying dst with
  | some (.int k)=>(match x with| .int _ n=>some (.int k (mkWrap k n))|_=>none)
  | some .string=>(match s with
   | .slice e=>zy8 H e x
   | .string=>(match x with| .str s=>some (.str s)|_=>none)
   | _=>none)
  | _=>none
def nW (env:T AV) (x:Operand):Option Nat:=
 match bq env x with
 | some (.int _ (.lit (.ofNat n)))=>some n
 | _=>none
def oV (env:T AV) (x:Option Operand) (d:Nat):Option Nat:=
 match x with
 | none=>some d
 | some x=>nW env x
def yt (t:TypeId):Option Nat:=
 match P.underlying t with
 | some (.slice e)=>jd P e
 | _=>none
def CU (t:TypeId):Option (Nat×TypeId×Nat):=
 match P.underlying t with
 | some (.array len e)=>(match jd P e with|some s=>some (len,e,s)|none=>none)
 | _=>none
def RY (t:TypeId):Bool:=
 match P.underlying t with
 | some .string=>true
 | _=>false
def bounds (env:T AV) (len cap:Nat) (lo hi mx:Option Operand):Option (Nat×Nat×Nat):=
 match mx with
 | some m=>(match nW env m with
  | none=>none
  | some m=>(match Nat.ble m cap with
   | false=>none
   | true=>match hi with
    | none=>none
    | some h=>match nW env h with
     | none=>none
     | some h=>match Nat.ble h m with
      | false=>none
      | true=>match oV env lo 0 with
       | none=>none
       | some l=>match Nat.ble l h with
        | true=>some (l,h,m)
        | false=>none))
 | none=>(match oV env hi len with
  | none=>none
  | some h=>(match Nat.ble h cap with
   | false=>none
   | true=>match oV env lo 0 with
    | none=>none
    | some l=>match Nat.ble l h with
     | true=>some (l,h,cap)
     | false=>none))
def C9 (b off s l h m:Nat):AV:=
 match Nat.beq m l with
 | true=> .sl b off (Nat.sub h l) (.known 0)
 | false=> .sl b (Nat.add off (Nat.mul l s)) (Nat.sub h l) (.known (Nat.sub m l))
def Mj (b off s l h len k:Nat):AV:=
 match Nat.beq l 0 with
 | true=> .sl b off h (.upto k)
 | false=>match Nat.blt l len with
  | true=> .sl b (Nat.add off (Nat.mul l s)) (Nat.sub h l) (.upto (Nat.add k l))
  | false=> .emp
def Ct (env:T AV) (c:Nat) (lo hi:Option Operand):Bool:=
 match oV env lo 0,hi with
 | some l,some h=>(match bq env h with
  | some (.int _ e)=>(match bnd e with
   | some (p,q)=>(match Nat.ble l p,Nat.ble q c with|true,true=>true|_,_=>false)
   | none=>false)
  | _=>false)
 | _,_=>false
def FE (env:T AV) (s b off len:Nat) (cap:kJ) (lo hi mx:Option Operand):Option AV:=
 match cap with
 | .known c=>(match bounds env len c lo hi mx with
  | some (l,h,m)=>some (C9 b off s l h m)
  | none=>(match mx,Ct env c lo hi with
   | none,true=>some .nG
   | _,_=>none))
 | .upto k=>(match bounds env len len lo hi mx with
  | some (l,h,m)=>(match mx with
   | some _=>some (C9 b off s l h m)
   | none=>some (Mj b off s l h len k))
  | none=>none)
def Cv (env:T AV) (t:TypeId) (x:AV) (lo hi mx:Option Operand):Option AV:=
 match x with
 | .str s=>(match RY P t,mx with
  | true,none=>(match bounds env s.length s.length lo hi none with
   | some (l,h,_)=>some (.str ((s.drop l).take (Nat.sub h l)))
   | none=>none)
  | _,_=>none)
 | .bZ=>(match yt P t,bounds env 0 0 lo hi mx with
  | some _,some _=>some .bZ
  | _,_=>none)
 | .emp=>(match yt P t,mx with
  | some _,none=>(match bounds env 0 0 lo hi none with
   | some _=>some .emp
   | none=>none)
  | _,_=>none)
 | .sl b off len cap=>(match yt P t with
  | some s=>FE env s b off len cap lo hi mx
  | none=>none)
 | .ptr b off=>(match CU P t with
  | some (n,_,s)=>(match bounds env n n lo hi mx with
   | some (l,h,m)=>some (C9 b off s l h m)
   | none=>none)
  | none=>none)
 | _=>none
def FU (t:TypeId) (f:Nat):Option Field:=
 match P.underlying t with
 | some (.struct fs)=>fs[f]?
 | _=>none
def Rh (x y:SE):Option Bool:=
 match x,y with
 | .lit x,.lit y=>some (oK x y)
 | x,y=>match SE.beq x y with
  | true=>some true
  | false=>match bnd x,bnd y with
   | some (p,q),some (r,s)=>(match Nat.blt q r,Nat.blt s p with
    | false,false=>none
    | _,_=>some false)
   | _,_=>none
def I9 (kd:TypeDesc) (a b:AV):Option Bool:=
 match kd with
 | .int _=>(match a,b with
  | .int k x,.int k' y=>(match Nat.beq (kn k) (kn k') with|true=>Rh x y|false=>none)
  | _,_=>none)
 | .string=>(match a,b with
  | .str x,.str y=>some (uo x y)
  | _,_=>none)
 | _=>none
def yE (kd:TypeDesc) (k:AV):List ME→Nat→Option (Option (Nat×AV))
 | [], _=>some none
 | e::l,i=>match I9 kd k e.key with
  | some true=>some (some (i,e.val))
  | some false=>yE kd k l (Nat.succ i)
  | none=>none
def mapOf (t:TypeId):Option (TypeDesc×TypeId):=
 match P.underlying t with
 | some (.map kt et)=>(match P.underlying kt with
  | some (.int k)=>some (.int k,et)
  | some .string=>some (.string,et)
  | _=>none)
 | _=>none
def isKey (kd:TypeDesc) (k:AV):Bool:=
 match kd with
 | .int _=>(match k with| .int _ _=>true|_=>false)
 | .string=>(match k with| .str _=>true|_=>false)
 | _=>false
def sV (H:Heap) (m:AV):Option (List ME):=
 match m with
 | .kT=>some []
 | .map n=>(match H.iE n with|some (es,_)=>some es|none=>none)
 | _=>none
def O1:AV→Bool
 | .aH _=>true
 | _=>false
def uh:List (AV×Option AV)→List (AV×Option AV)
 | [] => []
 | e::l=>match O1 e.1 with|true=>uh l|false=>e::uh l
def CS (kd:TypeDesc) (k:AV):List (AV×Option AV)→Option (Option AV)
 | [] => none
 | e::l=>match I9 kd k e.1 with
  | some true=>some e.2
  | some false=>CS kd k l
  | none=>none
def xB (H:Heap) (kd:TypeDesc) (et:TypeId) (m k:AV) (ok:Bool):Option AV:=
 match m with
 | .map n=>(match H.uV n,isKey kd k with
  | some (kn,_),true=>(match CS kd k (uh kn) with
   | none=>none
   | some (some v)=>some (match ok with|true=> .aH [v,.bool (.lit true)]|false=>v)
   | some none=>match sH P et with
    | none=>none
    | some z=>some (match ok with|true=> .aH [z,.bool (.lit false)]|false=>z))
  | _,_=>none)
 | _=>none
def xA (H:Heap) (t:TypeId) (m k:AV) (ok:Bool):Option AV:=
 match mapOf P t with
 | none=>none
 | some (kd,et)=>match sV H m with
  | none=>xB P H kd et m k ok
  | some es=>match isKey kd k with
   | false=>none
   | true=>match yE kd k es 0 with
    | none=>none
    | some (some (_,v))=>some (match ok with|true=> .aH [v,.bool (.lit true)]|false=>v)
    | some none=>match sH P et with
     | none=>none
     | some z=>some (match ok with|true=> .aH [z,.bool (.lit false)]|false=>z)
def Er:List AV→Nat→Option AV
 | [], _=>none
 | a::l,n=>match n with|0=>some a|m+1=>Er l m
abbrev L:=T AV→Heap→Option AV
def iQ:L:=fun _ _=>none
def O0 (x:Operand):L:=fun env _=>bq env x
def given (s:SB) (w:Bool) (y:AV):AV:=
 match y with
 | .bool t=>(match SB.eqv t s with|true=> .bool (.lit w)|false=> .bool t)
 | y=>y
def OM (s x y:SB):SB:=
 match SB.eqv y s with
 | true=>mkAnd s x
 | false=>match SB.eqv x s with
  | true=>mkNot (mkAnd (mkNot s) (mkNot y))
  | false=>mkNot (mkAnd (mkNot (mkAnd s x)) (mkNot (mkAnd (mkNot s) y)))
def OI (s:SB) (x y:AV):Option AV:=
 match x with
 | .iR c w=>(match SB.eqv c s,w with|true,true=>some (given s false y)|_,_=>none)
 | x=>match y with
  | .iR c w=>(match SB.eqv c s,w with|true,false=>some (given s true x)|_,_=>none)
  | .bool q=>(match x with| .bool p=>some (.bool (OM s p q))|_=>none)
  | _=>none
def I8 (c a b:Operand):L:=fun env _=>
 match bq env c with
 | some (.bool (.lit true))=>bq env a
 | some (.bool (.lit false))=>bq env b
 | some (.bool s)=>(match bq env a,bq env b with
  | some x,some y=>OI s x y
  | _,_=>none)
 | _=>none
def KA (x:Operand) (i:Nat):L:=fun env _=>
 match bq env x with
 | some (.aH l)=>Er l i
 | _=>none
def Kk (x:Operand):L:=fun env _=>
 match bq env x with
 | some .jr=>none
 | some .nD=>none
 | some .fT=>none
 | some (.cst _ _)=>none
 | some (.opq _ _)=>none
 | some (.iR _ _)=>none
 | some (.sx _ _ _ _)=>none
 | x=>x
def ztT (t:TypeId) (f:Nat):Option Nat:=
 match FU P t f with
 | some fd=>match jd P fd.type with
  | some (_+1)=>some fd.offset
  | _=>none
 | none=>none
def JR (t:TypeId) (x:Operand) (f:Nat):L:=fun env _=>
 match ztT P t f,bq env x with
 | some o,some (.ptr n off)=>some (.ptr n (Nat.add off o))
 | _,_=>none
def QZ (t:TypeId):Option (Option Nat):=
 match Lj P t,jd P t with
 | some false,some _=>some none
 | some true,some s=>some (some s)
 | _,_=>none
def loadAt (k:Option (Option Nat)) (v:Vec) (off:Nat):Option AV:=
 match k with
 | some none=>match Nat.blt off v.n with|true=>some (v.get off)|false=>none
 | some (some s)=>match Nat.ble (Nat.add off s) v.n with|true=>some (.agg (v.list off s))|false=>none
 | none=>none
def Gs (t:TypeId) (x:Operand):L:=fun env H=>
 match bq env x with
 | some (.ptr n off)=>match H.row n with
  | some v=>loadAt (QZ P t) v off
  | none=>none
 | _=>none
def xq:Operand→Bool
 | .const _=>true
 | _=>false
def Gd (o:BinOp) (t:TypeId) (x y:Operand) (_:TypeId):L:=fun env H=>
 match bq env x,bq env y with
 | some a,some b=>wG P H (match xq x with|true=>true|false=>xq y) o t a b
 | _,_=>none
def I7 (o:UnOp) (_:TypeId) (x:Operand):L:=fun env _=>
 match bq env x with
 | some a=>Ve o a
 | none=>none
def KD (s d:TypeId) (x:Operand):L:=fun env H=>
 match bq env x with
 | some a=>Wt P H s d a
 | none=>none
def Gc (e:SE):List (SE×Nat)→Option Nat
 | [] => none
 | p::l=>match SE.beq p.1 e with|true=>some p.2|false=>Gc e l
def Kz (t:TypeId) (x i:Operand):L:=fun env _=>
 match bq env x,bq env i with
 | some (.sx _ _ sz l),some (.int _ e)=>(match yt P t with
  | some s=>(match Nat.beq s sz with
   | true=>(match Gc e l with
    | some n=>some (.ptr n 0)
    | none=>none)
   | false=>none)
  | none=>none)
 | _,_=>none
def JQ (t:TypeId) (x i:Operand):L:=fun env H=>
 match bq env x,nW env i with
 | some (.sl n off len _),some i=>(match yt P t with
  | some s=>(match Nat.blt i len with
   | true=>some (.ptr n (Nat.add off (Nat.mul i s)))
   | false=>none)
  | none=>none)
 | some (.ptr n off),some i=>(match CU P t with
  | some (len,_,s)=>(match Nat.blt i len with
   | true=>some (.ptr n (Nat.add off (Nat.mul i s)))
   | false=>none)
  | none=>none)
 | _,_=>Kz P t x i env H
def LD (t:TypeId) (x i:Operand):L:=fun env _=>
 match bq env x,nW env i with
 | some (.agg cs),some i=>(match CU P t with
  | some (len,e,s)=>(match Nat.blt i len with
   | true=>qP P e cs (Nat.mul i s)
   | false=>none)
  | none=>none)
 | _,_=>none
def LF (t:TypeId) (x:Operand) (f:Nat):L:=fun env _=>
 match FU P t f,bq env x with
 | some fd,some (.agg cs)=>qP P fd.type cs fd.offset
 | _,_=>none
def LC (t:TypeId) (x:Operand) (lo hi mx:Option Operand):L:=fun env _=>
 match bq env x with
 | some a=>Cv P env t a lo hi mx
 | none=>none
def KM (t:TypeId) (x:Operand):L:=fun env _=>
 match CU P t,bq env x with
 | some (n,_,_),some (.sl b off len _)=>(match Nat.ble n len with
  | true=>some (.ptr b off)
  | false=>none)
 | some (n,_,_),some (.sx _ (.lit (.ofNat len)) _ l)=>(match Nat.ble n len,Gc (.lit (.ofNat 0)) l with
  | true,some m=>some (.ptr m 0)
  | _,_=>none)
 | _,_=>none
def Kl (fn:Fn) (first cap:Array Operand):L:=fun env _=>
 match fn with
 | .func f=>match lI env first.toList,lI env cap.toList with
  | some l,some m=>some (.func f l m)
  | _,_=>none
 | _=>none
def FM (t:TypeId) (x i:Operand) (ok:Bool):L:=fun env H=>
 match bq env x,bq env i with
 | some m,some k=>xA P H t m k ok
 | _,_=>none
def uW (n:Nat):Option AV:=qJ n fun n=>some (.int .i64 (.lit (.ofNat n)))
def xw (d:Option TypeDesc) (H:Heap) (x:AV):Option AV:=
 match d with
 | some (.slice _)=>(match x with
  | .bZ=>uW 0
  | .emp=>uW 0
  | .sl _ _ n _=>uW n
  | .oW n=>some (.int .i64 n)
  | .cst _ (some n)=>some (.int .i64 n)
  | .opq _ (some n)=>some (.int .i64 n)
  | .sx _ n _ _=>some (.int .i64 n)
  | _=>none)
 | some .string=>(match x with
  | .str s=>uW s.length
  | _=>none)
 | some (.array n _)=>uW n
 | some (.map _ _)=>(match x with
  | .kT=>uW 0
  | .map m=>(match H.iE m with
   | some (es,_)=>uW es.length
   | none=>none)
  | _=>none)
 | _=>none
def zu (ts:List TypeId) (xs:List Operand):L:=fun env H=>
 match ts,xs with
 | t::_,[x]=>match bq env x with
  | some a=>xw (P.underlying t) H a
  | none=>none
 | _,_=>none
def vV (c:Call):L:=
 match c.callee with
 | .builtin .len=>zu P c.argTypes.toList c.args.toList
 | _=>iQ
def ic:List AV→Nat→List AV→List AV
 | [], _,_=> []
 | c::cs,off,vs=>match off with
  | 0=>(match vs with
   | [] => c::cs
   | v::vs=>v::ic cs 0 vs)
  | o+1=>c::ic cs o vs
def Au (place:Nat→Option (Nat×Nat)):List AV→List (Nat×AV)→Option (List AV)
 | cells,[]=>some cells
 | cells,p::rest=>match place p.1 with
  | none=>none
  | some (off,size)=>match Nat.beq p.2.cells.length size,Nat.ble (Nat.add off size) cells.length with
   | true,true=>Au place (ic cells off p.2.cells) rest
   | _,_=>none
def partsOf (env:T AV):List (Nat×Operand)→Option (List (Nat×AV))
 | [] => some []
 | p::l=>match bq env p.2 with
  | none=>none
  | some a=>match partsOf env l with
   | some m=>some ((p.1,a)::m)
   | none=>none
def tV:Nat→List AV→List AV
 | 0,_=> []
 | n+1,l=>l++tV n l
def uniform:List AV→Option AV
 | [] => none
 | a::l=>match go a l with|true=>some a|false=>none
where
 go (a:AV):List AV→Bool
  | [] => true
  | b::l=>match AV.beq b a with|true=>go a l|false=>false
def FH:List Field→Option (List (Nat×Nat))
 | [] => some []
 | f::l=>match jd P f.type with
  | none=>none
  | some s=>match FH l with
   | some m=>some ((f.offset,s)::m)
   | none=>none
def Es:List (Nat×Nat)→Nat→Option (Nat×Nat)
 | [], _=>none
 | a::l,n=>match n with|0=>some a|m+1=>Es l m
def LG (env:T AV) (t:TypeId) (parts:List (Nat×Operand)):Option AV:=
 match sH P t,partsOf env parts with
 | some z,some ps=>match P.underlying t with
  | some (.struct fs)=>(match FH P fs.toList with
   | some pl=>(match Au (Es pl) z.cells ps with|some l=>some (.agg l)|none=>none)
   | none=>none)
  | some (.array _ e)=>(match jd P e with
   | some s=>(match Au (fun i=>some (Nat.mul i s,s)) z.cells ps with|some l=>some (.agg l)|none=>none)
   | none=>none)
  | _=>none
 | _,_=>none
def RU (t:TypeId) (parts:Array (Nat×Operand)):L:=fun env _=>LG P env t parts.toList
def light (o:Op):L:=
 Op.casesOn (motive:=fun _=>L) o O0 O0 I8 (fun _=>iQ) (fun _ _=>iQ) (RU P) (fun _ _ _=>iQ) (fun _ _ _ _=>iQ) (Gs P)
  (fun _ _ _=>iQ) (fun _=>iQ) (fun _=>iQ) Kk (Gd P) (I7) (KD P) (KM P) (fun _ _=>iQ) Kl (fun _ _=>iQ) (fun _ _=>iQ)
  (fun _ _ _=>iQ) (LC P) (JR P) (LF P) (JQ P) (LD P) (FM P) (fun _ _ _ _=>iQ) (fun _ _ _=>iQ) (fun _ _ _ _=>iQ)
  (fun _ _=>iQ) (fun _ _=>iQ) (fun _=>iQ) (fun _ _ _ _=>iQ) KA (vV P) (fun _=>iQ) (fun _=>iQ) (fun _=>iQ) (fun _ _=>iQ) (fun _ _ _=>iQ) (fun _ _=>iQ)
def kZ (l:List AV) (s nx:Nat):Obj:= .cells (Vec.ofList l) s nx none false true
def Gg (t:TypeId) (nx:Nat):Option (AV×Obj):=
 match sH P t,jd P t with
 | some z,some _=>some (.ptr nx 0,kZ z.cells 0 nx)
 | _,_=>none
def AB (t:TypeId) (x:Operand) (env:T AV) (nx:Nat):Option (AV×Obj):=
 match bq env x,jd P t with
 | some v,some _=>some (.ptr nx 0,kZ v.cells 0 nx)
 | _,_=>none
def BS (t:TypeId) (len:Nat) (parts:Array (Nat×Operand)) (env:T AV) (nx:Nat):Option (AV×Obj):=
 match P.underlying t with
 | some (.slice e)=>(match jd P e,sH P e,partsOf env parts.toList with
  | some s,some z,some ps=>(match Nat.ble (Nat.mul len s) 16777216,Nat.beq z.cells.length s with
   | true,true=>(match Au (fun i=>some (Nat.mul i s,s)) (tV len z.cells) ps with
    | some l=>some (.sl nx 0 len (.known len),kZ l s nx)
    | none=>none)
   | _,_=>none)
  | _,_,_=>none)
 | _=>none
def Cm (t:TypeId) (r:Option Operand) (env:T AV) (nx:Nat):Option (AV×Obj):=
 match r with
 | none=>some (.map nx,.map [] 0)
 | some r=>(match P.underlying t,nW env r with
  | some (.map _ _),some _=>some (.map nx,.map [] 0)
  | _,_=>none)
def rowOf (z:List AV) (c s:Nat):Option Vec:=
 match uniform z with
 | some u=>some ⟨.leaf,Nat.mul c s,u⟩
 | none=>(match Nat.ble (Nat.mul c s) 100000 with
  | true=>some (Vec.ofList (tV c z))
  | false=>none)
def BN (t:TypeId) (l c:Operand) (env:T AV) (nx:Nat):Option (AV×Obj):=
 match P.underlying t,nW env l,nW env c with
 | some (.slice e),some l,some c=>(match P.info? e,sH P e with
  | some inf,some z=>(match Nat.ble l c,Nat.ble (Nat.mul inf.bytes c) 140737488355328,Nat.blt c 4611686018427387904,Nat.beq z.cells.length inf.size with
   | true,true,true,true=>(match rowOf z.cells c inf.size with
    | some r=>some (.sl nx 0 l (.known c),.cells r inf.size nx none false true)
    | none=>none)
   | _,_,_,_=>none)
  | _,_=>none)
 | _,_,_=>none
abbrev A:=T AV→Nat→Option (AV×Obj)
def L9:A:=fun _ _=>none
def nJ (o:Op):A:=
 match o with
 | .alloc t=>fun _ nx=>Gg P t nx
 | .box t x=>AB P t x
 | .buildSlice t len parts=>BS P t len parts
 | .makeMap t r=>Cm P t r
 | .makeSlice t l c=>BN P t l c
 | _=>L9
def VS (H:Heap) (t:TypeId) (n off:Nat) (v:AV):Option Heap:=
 match jd P t with
 | some s=>match Nat.beq v.cells.length s with
  | true=>H.store n off v.cells
  | false=>none
 | none=>none
def FZ (es:List ME) (i:Nat) (e:ME):List ME:=
 match es with
 | [] => []
 | x::l=>match i with|0=>e::l|j+1=>x::FZ l j e
def Cq (es:List ME) (i:Nat):List ME:=
 match es with
 | [] => []
 | x::l=>match i with|0=>l|j+1=>x::Cq l j
def BF:List ME→Nat→Option ME
 | [], _=>none
 | a::l,n=>match n with|0=>some a|m+1=>BF l m
def CR:AV→Bool
 | .int .i64 _=>true
 | _=>false
def RD (H:Heap) (kd:TypeDesc) (n:Nat) (k v:AV):Option Heap:=
 match kd with
 | .int _=>(match CR k,H.uV n with
  | true,some (_,log)=>some (H.upd n (.dm [(k,some v)] ((k,some v)::log)))
  | _,_=>none)
 | _=>none
def KU (H:Heap) (t:TypeId) (m k v:AV):Option Heap:=
 match mapOf P t with
 | none=>none
 | some (kd,_)=>match m with
  | .map n=>(match isKey kd k,H.iE n with
   | true,some (es,clock)=>(match yE kd k es 0 with
    | none=>none
    | some (some (i,_))=>(match BF es i with
     | none=>none
     | some e=>match AV.beq e.key k with
      | true=>some (H.upd n (.map (FZ es i ⟨k,v,e.born⟩) clock))
      | false=>none)
    | some none=>some (H.upd n (.map (es++ [⟨k,v,clock⟩]) (Nat.succ clock))))
   | _,_=>RD H kd n k v)
  | _=>none
def zxZ (H:Heap) (kd:TypeDesc) (n:Nat) (k:AV):Option Heap:=
 match kd with
 | .int _=>(match CR k,H.uV n with
  | true,some (_,log)=>some (H.upd n (.dm [(k,none)] ((k,none)::log)))
  | _,_=>none)
 | _=>none
def RF (H:Heap) (t:TypeId) (m k:AV):Option Heap:=
 match mapOf P t with
 | none=>none
 | some (kd,_)=>match isKey kd k with
  | false=>none
  | true=>match m with
   | .kT=>some H
   | .map n=>(match H.iE n with
    | none=>zxZ H kd n k
    | some (es,clock)=>match yE kd k es 0 with
     | none=>none
     | some (some (i,_))=>some (H.upd n (.map (Cq es i) clock))
     | some none=>some H)
   | _=>none
def Kg (H:Heap) (kd:TypeDesc) (et:TypeId) (n:Nat) (k:AV):Option (AV×Heap):=
 match kd with
 | .int _=>(match CR k,H.uV n with
  | true,some (kn,log)=>(match CS kd k (uh kn),sH P et with
   | some none,some z=>some (.aH [z,.opq H.nx none],(H.alloc .opq).upd n (.dm [(k,some z),(.aH [.opq H.nx none,k],none)] ((k,some z)::log)))
   | _,_=>none)
  | _,_=>none)
 | _=>none
def zpb (H:Heap) (t:TypeId) (m k:AV):Option (AV×Heap):=
 match mapOf P t with
 | none=>none
 | some (kd,et)=>match m with
  | .map n=>(match isKey kd k,H.iE n with
   | true,some (es,clock)=>(match yE kd k es 0 with
    | none=>none
    | some (some (i,v))=>(match BF es i with
     | none=>none
     | some e=>match AV.beq e.key k with
      | true=>some (.aH [v,.int .i64 (.lit (.ofNat e.born))],H)
      | false=>none)
    | some none=>match sH P et with
     | none=>none
     | some z=>some (.aH [z,.int .i64 (.lit (.ofNat clock))],H.upd n (.map (es++ [⟨k,z,clock⟩]) (Nat.succ clock))))
   | _,_=>Kg P H kd et n k)
  | _=>none
def KQ (b:Nat) (v:AV):List ME→Option (List ME)
 | [] => none
 | e::l=>match Nat.beq e.born b with
  | true=>some (⟨e.key,v,e.born⟩::l)
  | false=>match KQ b v l with|some m=>some (e::m)|none=>none
def F8 (s:AV):List (AV×Option AV)→Option AV
 | [] => none
 | e::l=>match e.1 with
  | .aH [s',k]=>(match AV.beq s' s with|true=>some k|false=>F8 s l)
  | _=>F8 s l
def JH (H:Heap) (n q:Nat) (v:AV):Option Heap:=
 match H.uV n with
 | some (kn,log)=>(match F8 (.opq q none) kn with
  | some k=>some (H.upd n (.dm [(k,some v)] ((k,some v)::log)))
  | none=>none)
 | none=>none
def Zo (H:Heap) (m s v:AV):Option Heap:=
 match m,s with
 | .map n,.int _ (.lit (.ofNat b))=>match H.iE n with
  | none=>none
  | some (es,clock)=>match KQ b v es with
   | some l=>some (H.upd n (.map l clock))
   | none=>none
 | .map n,.opq q none=>JH H n q v
 | _,_=>none
def zip (t:TypeId):Option (Nat×Nat):=
 match P.underlying t with
 | some (.slice e)=>(match P.info? e,sH P e with
  | some inf,some z=>(match Nat.beq z.cells.length inf.size,inf.size with
   | true,s+1=>some (inf.bytes,s+1)
   | _,_=>none)
  | _,_=>none)
 | _=>none
def Ap (t:TypeId):Bool:=
 match P.underlying t with
 | some (.slice _)=>true
 | some .string=>true
 | _=>false
def Ee:AV→Bool
 | .bZ=>true
 | .emp=>true
 | .sl _ _ _ _=>true
 | _=>false
def KI (H:Heap) (bytes sz need:Nat) (l:List AV):Option (AV×Heap):=
 match Nat.ble (Nat.mul need bytes) 35184372088832,Nat.ble (Nat.mul need sz) 35184372088832 with
 | true,true=>(match H with
  | ⟨m,nx,gw⟩=>some (.sl nx 0 need (.upto 0),Heap.alloc ⟨m,nx,gw⟩ (.cells (Vec.ofList l) sz nx none false true)))
 | _,_=>none
def extended (v:Vec) (off n:Nat) (new:List AV):Vec:=
 match Nat.beq off 0 with
 | true=>(match v with|⟨t,m,d⟩=>Vec.put ⟨t,Nat.add m new.length,d⟩ m new)
 | false=>Vec.ofList (v.list off n++new)
def Ru (H:Heap) (bytes sz n:Nat) (new:List AV) (b off len k:Nat):Option (AV×Heap):=
 match H.m.get b with
 | some (.cells v bH g none _ true)=>(match Nat.beq bH sz,Nat.beq off (Nat.mul k sz),zX new with
  | true,true,true=>(match Nat.beq (Nat.add off (Nat.mul len sz)) v.n with
   | true=>(match Nat.ble (Nat.mul (Nat.add len n) bytes) 35184372088832,Nat.ble (Nat.mul (Nat.add len n) sz) 35184372088832 with
    | true,true=>(match H with
     | ⟨m,nx,gw⟩=>some (.sl nx 0 (Nat.add len n) (.upto 0),Heap.alloc (Heap.upd ⟨m,nx,gw⟩ b (.cells v sz g (some (Nat.succ nx)) true true)) (.cells (extended v off (Nat.mul len sz) new) sz g none true true)))
    | _,_=>none)
   | false=>(match Nat.ble (Nat.add off (Nat.mul (Nat.add len n) sz)) v.n with
    | true=>(match H.store b (Nat.add off (Nat.mul len sz)) new with
     | some H'=>some (.sl b off (Nat.add len n) (.upto k),H')
     | none=>none)
    | false=>none))
  | _,_,_=>none)
 | _=>none
def Wv (H:Heap) (bytes sz n:Nat) (new:List AV) (s:AV):Option (AV×Heap):=
 match s with
 | .bZ=>KI H bytes sz n new
 | .sl b off len cap=>(match cap with
  | .known c=>(match Nat.ble (Nat.add len n) c with
   | true=>(match H.store b (Nat.add off (Nat.mul len sz)) new with
    | some H'=>some (.sl b off (Nat.add len n) (.known c),H')
    | none=>none)
   | false=>(match Aj H sz len (.sl b off len (.known c)) with
    | some old=>KI H bytes sz (Nat.add len n) (old++new)
    | none=>none))
  | .upto k=>Ru H bytes sz n new b off len k)
 | _=>none
def Rt (H:Heap) (ts tx:TypeId) (s x:AV):Option (AV×Heap):=
 match zip P ts,Ap P tx with
 | some (bytes,sz),true=>(match BA x with
  | none=>none
  | some n=>(match Aj H sz n x with
   | none=>none
   | some new=>(match n with
    | 0=>(match Ee s with|true=>some (s,H)|false=>none)
    | m+1=>Wv H bytes sz (Nat.succ m) new s)))
 | _,_=>none
def zt6 (H:Heap) (sz c:Nat) (d s:AV):Option (AV×Heap):=
 match c with
 | 0=>(match Ee d with|true=>some (.int .i64 (.lit 0),H)|false=>none)
 | c+1=>(match Aj H sz (Nat.succ c) s,d with
  | some l,.sl b off _ _=>(match H.store b off l with
   | some H'=>some (.int .i64 (.lit (.ofNat (Nat.succ c))),H')
   | none=>none)
  | _,_=>none)
def Oc (m n:Nat):Nat:=match Nat.ble m n with|true=>m|false=>n
def OY (H:Heap) (td:TypeId) (d s:AV):Option (AV×Heap):=
 match yt P td,BA d,BA s with
 | some sz,some n,some m=>zt6 H sz (Oc m n) d s
 | _,_,_=>none
end
end Go.Dw
namespace Go.Dw
inductive sJ where
 | run (o:Oper)
 | uH (l:List Oper)
inductive Task where
 | code (c:Code) (p:List Nat) (N:Nat) (env:T AV) (H:Heap) (k:Ex→T AV→Heap→Ob)
 | ops (all:Array Oper) (l:List Oper) (N:Nat) (env:T AV) (H:Heap) (k:T AV→Heap→Ob)
 | call (f:FuncId) (args:List AV) (H:Heap) (k:AV→Heap→Ob)
 | app (t:TypeId) (s:AV) (n:Nat) (xs:List AV) (H:Heap) (k:AV→Heap→Ob)
inductive Sb where
 | light|alloc|heavy|GL
def CB:List Nat→Bool
 | [] => true
 | n::l=>match l.any (Nat.beq n) with|true=>false|false=>CB l
def pQ (o:Op):Sb:=
 match o with
 | .alloc _| .box _ _| .buildSlice _ _ _| .makeMap _ _| .makeSlice _ _ _=> .alloc
 | .store _ _ _| .mapUpdate _ _ _ _| .insert _ _ _ _| .mapEntry _ _ _| .entryStore _ _ _ _| .range _ _| .next _ _=> .heavy
 | .call c=>match c.callee with
  | .builtin .len| .builtin .cap| .builtin .min| .builtin .max=> .light
  | _=> .heavy
 | .defer _=> .GL
 | _=> .light
def oh (ms:List Nat):List Edge→Nat
 | [] => 0
 | e::l=>match Region.binds .any e with
  | true=>Nat.lor (Nat.lor (2^e.on) (ms.getD e.on 0)) (oh ms l)
  | false=>oh ms l
def oz:List Oper→List Nat→List Nat
 | [], ms=>ms
 | o::l,ms=>oz l (ms++ [oh ms o.after.toList])
def lu (l:List Oper):List Nat:=oz l []
def jh (o:Oper):Bool:=match pQ o.op with| .heavy=>true| .GL=>true|_=>false
def FQ (o:Oper):Bool:=match pQ o.op with| .GL=>true|_=>false
def FP (o:Oper):Bool:=match pQ o.op with| .light=>true|_=>false
structure PO where
 o:Oper
 i:Nat
 m:Nat
 s:Nat
def lS (m:Nat):List Nat→Nat→Nat→Nat
 | [], _,acc=>acc
 | h::l,t,acc=>match m.testBit h with
  | true=>lS m l (Nat.succ t) (Nat.succ t)
  | false=>lS m l (Nat.succ t) acc
def qG:List Oper→Nat→List Nat
 | [], _=> []
 | o::l,i=>match jh o with
  | true=>i::qG l (Nat.succ i)
  | false=>qG l (Nat.succ i)
def posOf (hs:List Nat):List Oper→List Nat→Nat→List PO
 | o::l,m::ms,i=>⟨o,i,m,lS m hs 0 0⟩::posOf hs l ms (Nat.succ i)
 | _,_,_=> []
def chained (ms:List Nat):List Nat→Bool
 | [] => true
 | h::l=>match l with
  | [] => true
  | h'::_=>match (ms.getD h' 0).testBit h with|true=>chained ms l|false=>false
def FV:List PO→Bool
 | [] => true
 | p::l=>match p.o.after.toList.all (fun e=>match Region.binds .any e with|true=>Nat.blt e.on p.i|false=>true) with
  | true=>FV l
  | false=>false
def looks (ops:Array Oper) (o:Oper):List Tmp:=
 o.op.operands.toList.filterMap (fun x=>match x with| .tmp t=>some t|_=>none)++(match o.guard with
  | some (g,_)=>(match ops[g]? with|some q=>(match q.dst with|some t=> [t]|none=> [])|none=> [])
  | none=> [])
def zxh (ops:Array Oper) (all:List PO) (p:PO):Bool:=
 all.all fun q=>match q.o.dst with
  | none=>true
  | some t=>match (looks ops p.o).any (Nat.beq t),p.m.testBit q.i||q.m.testBit p.i with
   | true,false=>false
   | _,_=>match Nat.beq p.i q.i,p.o.dst with
    | false,some u=>(match Nat.beq t u with|true=>false|false=>true)
    | _,_=>true
def Ah (s:Nat):List PO→List sJ
 | [] => []
 | p::l=>match jh p.o,Nat.beq p.s s with
  | false,true=> .run p.o::Ah s l
  | _,_=>Ah s l
def xL (s hm:Nat):List PO→List PO
 | [] => []
 | p::l=>match FP p.o,Nat.ble p.s s,hm.testBit p.i with
  | true,true,false=>p::xL s hm l
  | _,_,_=>xL s hm l
def FJ:List PO→List Oper
 | [] => []
 | p::l=>p.o::FJ l
def xX (s hm:Nat) (l:List PO):List Oper:=FJ (xL s hm l)
def QU (ops:Array Oper) (all:List PO) (s:Nat) (p:PO):Bool:=
 all.all fun q=>match q.o.dst with
  | none=>true
  | some t=>match (looks ops p.o).any (Nat.beq t),p.m.testBit q.i||Nat.blt s q.s with
   | true,false=>false
   | _,_=>true
def EX (ops:Array Oper) (all:List PO):Nat→List PO→Bool
 | _,[]=>true
 | s,h::rest=>match (xL s h.m all).all (QU ops all s) with
  | true=>EX ops all (Nat.succ s) rest
  | false=>false
def xM (all:List PO):Nat→List PO→List sJ
 | s,[]=>Ah s all
 | s,h::rest=>Ah s all++ .run h.o:: .uH (xX s h.m all)::xM all (Nat.succ s) rest
def RQ (ops:Array Oper):Option (List sJ):=
 let ms:=lu ops.toList
 let hs:=qG ops.toList 0
 let all:=posOf hs ops.toList ms 0
 let hp:=all.filter fun p=>jh p.o
 match chained ms hs&&FV all&&all.all (zxh ops all)&& !(ops.toList.any FQ)&&EX ops all 0 hp with
 | true=>some (xM all 0 hp)
 | false=>none
section
variable (P:Program)
inductive G where
 | yes|no
 | test (t:Nat) (b:SB) (want:Bool)
 | none
def mD (all:Array Oper) (env:T AV) (o:Oper):G:=
 match o.guard with
 | none=> .yes
 | some (j,want)=>match all[j]? with
  | none=> .no
  | some oj=>match oj.dst with
   | none=> .no
   | some t=>match env.get t with
    | none=> .no
    | some (.bool (.lit true))=>(match want with|true=> .yes|false=> .no)
    | some (.bool (.lit false))=>(match want with|true=> .no|false=> .yes)
    | some (.bool b)=> .test t b want
    | some (.aH [])=> .no
    | some (.iR _ _)=> .no
    | _=> .none
def zT (H:Heap) (env:T AV):List ResultVar→Option (List AV)
 | [] => some []
 | .tmp t::l=>match bq env (.tmp t),zT H env l with
  | some v,some m=>some (v::m)
  | _,_=>none
 | .cell a t::l=>match light P (.load t (.tmp a)) env H,zT H env l with
  | some v,some m=>some (v::m)
  | _,_=>none
def Ry (fn:Func) (H:Heap) (env:T AV):Option AV:=
 match zT P H env fn.results.toList with
 | some [v]=>some v
 | some l=>some (.aH l)
 | none=>none
def yF:List AV→Nat→T AV→T AV
 | [], _,env=>env
 | a::l,i,env=>yF l (Nat.succ i) (env.set i a)
def zyO (k:AV→Heap→Ob):List (AV×Heap)→Ob
  | [] => .bad 90 "no way"
  | [(v,H)]=>k v H
  | l=> .all (l.map fun x=>k x.1 x.2)
abbrev K:=AV→Heap→Ob
abbrev D:=T AV→Heap→K→Ob
def fe : D := fun _ _ _ => .bad 29 ""
def Iq (k:K):Option Heap→Ob
  | some H=>k jN H
  | none => .bad 3 ""
def UG (k:K):Option (AV×Heap)→Ob
  | some (v,H)=>k v H
  | none => .bad 4 ""
def Lh (t:TypeId) (a v:Operand):D:=fun env H k=>
  match bq env a,bq env v with
  | some (.ptr n off),some x=>Iq k (VS P H t n off x)
  | _, _ => .bad 5 ""
def Cr (t:TypeId) (m kk v:Operand):D:=fun env H k=>
  match bq env m,bq env kk,bq env v with
  | some m,some kk,some v=>Iq k (KU P H t m kk v)
  | _, _, _ => .bad 6 ""
def J5 (t:TypeId) (m kk:Operand):D:=fun env H k=>
  match bq env m,bq env kk with
  | some m,some kk=>UG k (zpb P H t m kk)
  | _, _ => .bad 9 ""
def JI (_:TypeId) (m s v:Operand):D:=fun env H k=>
  match bq env m,bq env s,bq env v with
  | some m,some s,some v=>Iq k (Zo H m s v)
  | _, _, _ => .bad 11 ""
def Li (rec:Task→Ob) (f:Operand) (args:List Operand):D:=fun env H k=>
  match bq env f,lI env args with
  | some (.func g first cap),some args=>match first,cap with
    | [], [] => rec (.call g args H k)
    | _,_=>rec (.call g (first++(args++cap)) H k)
  | _, _ => .bad 17 ""
def Mc (rec:Task→Ob) (ts tx:TypeId) (rest:List TypeId) (s x:AV) (H:Heap) (k:K):Ob:=
  match rest,Nat.beq tx ts,zip P ts,x with
  | [], true,some (_,sz),.sl b off len _=>(match H.row b with
    | some v=>(match Nat.ble (Nat.add off (Nat.mul len sz)) v.n with
      | true=>rec (.app ts s len (v.list off (Nat.mul len sz)) H k)
      | false => .bad 4 "")
    | none => .bad 4 "")
  | _, _, _, _ => .bad 4 ""
def KY (rec:Task→Ob) (ts:List TypeId) (args:List Operand):D:=fun env H k=>
  match ts,lI env args with
  | ts::tx::rest,some [s,x]=>(match Rt P H ts tx s x with
    | some q=>k q.1 q.2
    | none=>Mc P rec ts tx rest s x H k)
  | _, _ => .bad 21 ""
def I6 (ts:List TypeId) (args:List Operand):D:=fun env H k=>
  match ts,lI env args with
  | td::_,some [d,s]=>UG k (OY P H td d s)
  | _, _ => .bad 23 ""
def KX (ts:List TypeId) (args:List Operand):D:=fun env H k=>
  match ts,lI env args with
  | t::_,some [m,kk]=>Iq k (RF P H t m kk)
  | _, _ => .bad 25 ""
def KG (rec:Task→Ob) (b:Builtin) (c:Call):D:=
 match b with
 | .append=>KY P rec c.argTypes.toList c.args.toList
 | .copy=>I6 P c.argTypes.toList c.args.toList
 | .delete=>KX P c.argTypes.toList c.args.toList
 | _=>fe
def OX (rec:Task→Ob) (c:Call):D:=
 match c.callee with
 | .value f=>Li rec f c.args.toList
 | .invoke _ _=>fe
 | .builtin b=>KG P rec b c
def heavy (rec:Task→Ob) (o:Op):D:=
 Op.casesOn (motive:=fun _=>D) o (fun _=>fe) (fun _=>fe) (fun _ _ _=>fe) (fun _=>fe) (fun _ _=>fe) (fun _ _=>fe) (fun _ _ _=>fe) (Cr P) (fun _ _=>fe)
  (Lh P) (fun _=>fe) (fun _=>fe) (fun _=>fe) (fun _ _ _ _ _=>fe) (fun _ _ _=>fe) (fun _ _ _=>fe) (fun _ _=>fe) (fun _ _=>fe) (fun _ _ _=>fe) (fun _ _=>fe) (fun _ _=>fe)
  (fun _ _ _=>fe) (fun _ _ _ _ _=>fe) (fun _ _ _=>fe) (fun _ _ _=>fe) (fun _ _ _=>fe) (fun _ _ _=>fe) (fun _ _ _ _=>fe) (Cr P) (J5 P) (JI)
  (fun _ _=>fe) (fun _ _=>fe) (fun _=>fe) (fun _ _ _ _=>fe) (fun _ _=>fe) (OX P rec) (fun _=>fe) (fun _=>fe) (fun _=>fe) (fun _ _=>fe) (fun _ _ _=>fe) (fun _ _=>fe)
def Oh (o:Oper) (H:Heap) (k:K):Option AV→Ob
 | some v=>k v H
 | none=> .bad 1 o.pos
def Og (o:Oper) (H:Heap) (k:K):Option (AV×Obj)→Ob
 | some (v,ob)=>k v (H.alloc ob)
 | none=> .bad 2 o.pos
abbrev K3:=T AV→AV→Heap→Ob
abbrev D3:=T AV→Heap→K3→Ob
def zEM (_:Task→Ob) (o:Oper):D3:=fun env H k=>Oh o H (k env) (light P o.op env H)
def zEO (_:Task→Ob) (o:Oper):D3:=fun env H k=>match H with|⟨m,nx,gw⟩=>Og o ⟨m,nx,gw⟩ (k env) (nJ P o.op env nx)
def zEN (rec:Task→Ob) (o:Oper):D3:=fun env H k=>heavy P rec o.op env H (k env)
def Ro (_:Task→Ob) (o:Oper):D3:=fun env H k=>
 match o.op with
 | .defer c=>match c.callee with
  | .value f=>match bq env f,lI env c.args.toList with
   | some (.func g first cap),some args=>k (env.set bS (.aH [.func g [] (first++(args++cap)),match env.get bS with|some v=>v|none=>jN])) jN H
   | _,_=> .bad 60 o.pos
  | _=> .bad 61 o.pos
 | _=> .bad 62 o.pos
def wM (rec:Task→Ob) (o:Oper):D3:=
 Sb.casesOn (motive:=fun _=>(Task→Ob)→Oper→D3) (pQ o.op) (zEM P) (zEO P) (zEN P) Ro rec o
def kD (dst:Option Tmp) (N:Nat) (env:T AV) (v:AV) (k:T AV→Ob):Ob:=
  match dst with
  | none=>k env
  | some d=>match Nat.blt d N with
    | true=>k (env.set d v)
    | false => .bad 30 ""
def vR (c:SB):List (SB×Bool)→Option Bool
 | [] => none
 | p::l=>match SB.eqv c p.1 with|true=>some p.2|false=>vR c l
def vT (fs:List (SB×Bool)) (all:Array Oper) (env:T AV) (o:Oper):G:=
 match mD all env o with
 | .test t b want=>(match vR b fs with
  | some true=>(match want with|true=> .yes|false=> .no)
  | some false=>(match want with|true=> .no|false=> .yes)
  | none=> .test t b want)
 | g=>g
def OJ (all:Array Oper) (env:T AV) (o:Oper):AV:=
 match mD all env o with
 | .test _ b want=> .iR b want
 | _=>jN
def wH (fs:List (SB×Bool)) (all:Array Oper) (env:T AV) (H:Heap):List Oper→Bool
 | [] => true
 | o::l=>match vT fs all env o with
  | .no=>wH fs all env H l
  | .yes=>match light P o.op env H,o.dst with
   | some v,some d=>match env.get d with
    | some u=>match AV.beq v u with|true=>wH fs all env H l|false=>false
    | none=>false
   | some _,none=>wH fs all env H l
   | none,_=>false
  | _=>false
def F9 (rec:Task→Ob) (o:Oper) (N:Nat) (kk:T AV→Heap→Ob) (env:T AV) (H:Heap) (b:Bool) (z:AV):Ob:=
 match b with
 | true=>wM P rec o env H fun env v H=>kD o.dst N env v fun env'=>kk env' H
 | false=>kD o.dst N env z fun env'=>kk env' H
def gU (rec:Task→Ob) (all:Array Oper) (N:Nat) (k:T AV→Heap→Ob):List sJ→List (SB×Bool)→T AV→Heap→Ob
  | [], _,env,H=>k env H
  | .run o::rest,fs,env,H=>(match vT fs all env o with
    | .yes=>F9 P rec o N (gU rec all N k rest fs) env H true jN
    | .no=>F9 P rec o N (gU rec all N k rest fs) env H false (OJ all env o)
    | .test _ b want=> .ite b (F9 P rec o N (gU rec all N k rest ((b,true)::fs)) env H want (.iR b want)) (F9 P rec o N (gU rec all N k rest ((b,false)::fs)) env H (match want with|true=>false|false=>true) (.iR b want))
    | .none=> .bad 47 o.pos)
  | .uH os::rest,fs,env,H=>(match wH P fs all env H os with
    | true=>gU rec all N k rest fs env H
    | false => .bad 48 (match os with | o :: _ => o.pos | [] => ""))
abbrev KC:=Ex→T AV→Heap→Ob
abbrev SC:=(Task→Ob)→List Nat→Nat→T AV→Heap→KC→Ob
def IG : SC := fun _ _ _ _ _ _ => .bad 43 "a statement"
def Wj:SC:=fun _ _ _ env H k=>k .normal env H
def Ri (_:Nat) (ops:Array Oper) (draw:Bool):SC:=fun rec _ N env H k=>
  match draw with
  | false=>rec (.ops ops ops.toList N env H (k .normal))
  | true=>match RQ ops with
    | some l=>gU P rec ops N (k .normal) l [] env H
    | none => .bad 40 "a region without a plan"
def LV (rec:Task→Ob) (b:Code) (p:List Nat) (N:Nat) (k:KC):KC:=fun e env H=>
 Ex.casesOn e (rec (.code b p N env H k)) (fun id=>k (.exit id) env H) (k .ret env H)
def UW (a b:Code):SC:=fun rec p N env H k=>rec (.code a (0::p) N env H (LV rec b (1::p) N k))
def Wm (c:Operand) (a b:Code):SC:=fun rec p N env H k=>
  match bq env c with
  | some (.bool s)=>match s with
    | .lit true=>rec (.code a (0::p) N env H k)
    | .lit false=>rec (.code b (1::p) N env H k)
    | s=>match c with
      | .tmp t=>match Nat.blt t N with
        | true=> .ite s (rec (.code a (0::p) N (env.set t (.bool (.lit true))) H k)) (rec (.code b (1::p) N (env.set t (.bool (.lit false))) H k))
        | false => .bad 41 ""
      | _ => .bad 41 ""
  | _ => .bad 42 "a test"
def VA (id:Nat) (k:KC):KC:=fun e env H=>
 match e with
 | .exit id'=>match Nat.beq id' id with
  | true=>k .normal env H
  | false=>k (.exit id') env H
 | e=>k e env H
def zFF (id:Nat) (c:Code):SC:=fun rec p N env H k=>rec (.code c (0::p) N env H (VA id k))
abbrev Gz:=List (SB×Ex×T AV×Heap)
abbrev pR:=List Nat→Nat→T AV→Heap→Option Gz
def UE:pR:=fun _ _ _ _=>none
abbrev vY:=TypeId→AV→Nat→List AV→Heap→Option (AV×Heap)
def UD:vY:=fun _ _ _ _ _=>none
def Gr (k:KC):Gz→Ob
  | [] => .bad 91 "no end"
  | (b,x,env,H)::l=>match b with
    | .lit true=>k x env H
    | b=> .ite b (k x env H) (Gr k l)
def Cj:List Nat→List Nat
 | 2::i::q=>i::q
 | p=>p
def LQ (jc:pR) (c:Code):SC:=fun rec p N env H k=>
 match jc p N env H with
 | some l=>Gr k l
 | none=>rec (.code c (0::Cj p) N env H (LV rec (.loop c) (2::Cj p) N k))
def Wl (jc:pR) (a b:Code):SC:=fun rec p N env H k=>
 match jc p N env H with
 | some l=>Gr k l
 | none=>UW a b rec p N env H k
def zGs (id:Nat):SC:=fun _ _ _ env H k=>k (.exit id) env H
def zFD (_:Nat):SC:=Wj
def abw:SC:=fun _ _ _ env H k=>k .ret env H
def QL (jc:pR) (rec:Task→Ob) (c:Code) (p:List Nat) (N:Nat) (env:T AV) (H:Heap) (k:KC):Ob:=
 Code.casesOn (motive:=fun _=>SC) c Wj (Ri P) (Wl jc) Wm zFF (LQ jc) (fun _ _ _ _=>IG) zGs (fun _=>IG) zFD (fun _=>IG) abw (fun _=>IG) rec p N env H k
def abn (rec:Task→Ob) (all:Array Oper) (rest:List Oper) (N:Nat) (k:T AV→Heap→Ob) (o:Oper):K3:=fun env v H=>
 kD o.dst N env v fun env'=>rec (.ops all rest N env' H k)
def Q9 (rec:Task→Ob) (all:Array Oper) (l:List Oper) (N:Nat) (env:T AV) (H:Heap) (k:T AV→Heap→Ob):Ob:=
  match l with
  | [] => k env H
  | o::rest=>match mD all env o with
    | .yes=>wM P rec o env H (abn rec all rest N k o)
    | .no=>kD o.dst N env jN fun env'=>rec (.ops all rest N env' H k)
    | .test t b _=>match Nat.blt t N with
      | true=> .ite b (rec (.ops all l N (env.set t (.bool (.lit true))) H k)) (rec (.ops all l N (env.set t (.bool (.lit false))) H k))
      | false => .bad 44 ""
    | .none=> .bad 45 o.pos
def CO (f:FuncId):Option (Func×Code):=
  match P.funcs[f]? with
  | none=>none
  | some fn=>match fn.body with
    | none=>none
    | some c => if fn.name = "runtime.NumGoroutine" then none else some (fn, c)
def leave (fn:Func) (env:T AV) (k:K):Heap→Ob:=fun H=>
 match Ry P fn H env with
 | some v=>k v H
 | none=> .bad 54 fn.name
def zGe (fn:Func) (k:K):KC:=fun e env H=>
 match e with
 | .exit _=> .bad 56 fn.name
 | _=>match env.get bS with
  | none=>leave P fn env k H
  | some _=> .bad 57 fn.name
def Cb (rec:Task→Ob) (fin:Heap→Ob):Nat→AV→Heap→Ob
  | 0, _, _ => .bad 70 ""
  | n+1,d,H=>match d with
    | .aH []=>fin H
    | .aH [.func g [] args,rest]=>(match CO P g with
      | none => .bad 72 ""
      | some (fn,c)=>(match Nat.ble args.length fn.ntmps&&Nat.ble fn.ntmps bS with
        | true=>rec (.code c [g] fn.ntmps (yF args 0 .leaf) H (zGe P fn fun _ H'=>Cb rec fin n rest H'))
        | false=> .bad 73 fn.name))
    | _ => .bad 71 ""
def zGD (rec:Task→Ob) (fn:Func) (k:K):KC:=fun e env H=>
 match e with
 | .exit _=> .bad 53 fn.name
 | _=>match env.get bS with
  | none=>leave P fn env k H
  | some d=>Cb P rec (leave P fn env k) 8 d H
def QM (gH:FuncId→List AV→Heap→Option (List (AV×Heap))) (rec:Task→Ob) (f:FuncId) (args:List AV) (H:Heap) (k:K):Ob:=
  match gH f args H with
  | some l=>zyO k l
  | none=>match CO P f with
    | none => .bad 50 ""
    | some (fn,c)=>match Nat.ble args.length fn.ntmps&&Nat.ble fn.ntmps bS with
      | true=>rec (.code c [f] fn.ntmps (yF args 0 .leaf) H (zGD P rec fn k))
      | false=> .bad 55 fn.name
def Ra (mZ:vY) (t:TypeId) (s:AV) (n:Nat) (xs:List AV) (H:Heap) (k:K):Ob:=
  match mZ t s n xs H with
  | some q=>k q.1 q.2
  | none => .bad 4 "append"
def step (gH:FuncId→List AV→Heap→Option (List (AV×Heap))) (jc:pR) (mZ:vY) (rec:Task→Ob) (t:Task):Ob:=
 Task.casesOn (motive:=fun _=>Ob) t (QL P jc rec) (Q9 P rec) (QM P gH rec) (Ra mZ)
noncomputable def eU (gH:FuncId→List AV→Heap→Option (List (AV×Heap))) (jc:pR) (mZ:vY) (n:Nat):Task→Ob:=
  Nat.rec (motive := fun _ => Task → Ob) (fun _ => .bad 0 "no fuel") (fun _ ih => step P gH jc mZ ih) n
noncomputable def ev (gH:FuncId→List AV→Heap→Option (List (AV×Heap))) (n:Nat):Task→Ob:=eU P gH UE UD n
def aD (i:Nat):Code→Code
 | .seq a b=>(match i with|0=>a|1=>b|_=> .skip)
 | .cond _ a b=>(match i with|0=>a|1=>b|_=> .skip)
 | .block _ c=>(match i with|0=>c|_=> .skip)
 | .loop c=>(match i with|0=>c|2=> .loop c|_=> .skip)
 | _=> .skip
def bf:List Nat→Code
 | [] => .skip
 | i::p=>match p with
  | [] => (match CO P i with|some (_,c)=>c|none=> .skip)
  | _::_=>aD i (bf p)
def ru:Heap:=⟨.leaf,1,.leaf⟩
def isTrue (v:AV) (_:Heap):Ob:=
  match v with
  | .bool (.lit true)=> .ok
  | .bool (.lit false) => .bad 99 "false"
  | .bool b => .ite b .ok (.bad 98 "false")
  | _ => .bad 97 "no bool"
def IW:FuncId→List AV→Heap→Option (List (AV×Heap)):=fun _ _ _=>none
end
end Go.Dw
namespace Go.Dw
namespace T
variable {α:Type}
theorem vI (n:Nat):(leaf:T α).get n=none:=rfl
theorem Ck (l:T α) (v:Option α) (r:T α):(node l v r).get 0=v:=rfl
theorem vH (l:T α) (v:Option α) (r:T α) (m:Nat):
  (node l v r).get (m+1)=if m%2=0 then l.get (m/2) else r.get (m/2):=by
 show Nat.casesOn (motive:=fun _=>Option α) (Nat.mod m 2) (l.get (Nat.div m 2)) (fun _=>r.get (Nat.div m 2))=_;have h:Nat.mod m 2=m%2:=rfl;have h2:Nat.div m 2=m/2:=rfl;rw [h,h2];cases e:m%2 with
 | zero=>rw [yak rfl];rfl
 | succ k=>rw [yai (by omega)]
theorem V4 (v:Option α) (r l:T α):En v r l=node l v r:=by cases l<;>rfl
theorem V3 (v:Option α) (l r:T α):Eo v l r=node l v r:=by cases r<;>rfl
theorem zkE (f:Nat) (x:α):nY (f+1) leaf 0 x=node leaf (some x) leaf:=rfl
theorem zkC (f:Nat) (l:T α) (v:Option α) (r:T α) (x:α):nY (f+1) (node l v r) 0 x=node l (some x) r:=rfl
theorem zkF (f m:Nat) (x:α):nY (f+1) (leaf:T α) (m+1) x=
  if m%2=0 then node (nY f leaf (m/2) x) none leaf else node leaf none (nY f leaf (m/2) x):=by
 show Nat.casesOn (motive:=fun _=>T α) (Nat.mod m 2) (En none leaf (nY f leaf (Nat.div m 2) x)) (fun _=>Eo none leaf (nY f leaf (Nat.div m 2) x))=_;have h:Nat.mod m 2=m%2:=rfl;have h2:Nat.div m 2=m/2:=rfl;rw [h,h2];cases e:m%2 with
 | zero=>rw [yak rfl];exact V4 _ _ _
 | succ k=>rw [yai (by omega)];exact V3 _ _ _
theorem zkD (f m:Nat) (l:T α) (v:Option α) (r:T α) (x:α):nY (f+1) (node l v r) (m+1) x=
  if m%2=0 then node (nY f l (m/2) x) v r else node l v (nY f r (m/2) x):=by
 show Nat.casesOn (motive:=fun _=>T α) (Nat.mod m 2) (En v r (nY f l (Nat.div m 2) x)) (fun _=>Eo v l (nY f r (Nat.div m 2) x))=_;have h:Nat.mod m 2=m%2:=rfl;have h2:Nat.div m 2=m/2:=rfl;rw [h,h2];cases e:m%2 with
 | zero=>rw [yak rfl];exact V4 _ _ _
 | succ k=>rw [yai (by omega)];exact V3 _ _ _
theorem zBq: ∀(f:Nat) (t:T α) (n m:Nat) (x:α),n<f→(nY f t n x).get m=if m=n then some x else t.get m:=by
 intro f
 induction f with
 | zero=>intro t n m x h;omega
 | succ f ih=>
  intro t n m x h;cases n with
  | zero=>
   cases t with
   | leaf=>
    rw [zkE];cases m with
    | zero=>rfl
    | succ m=>rw [vH];simp [vI]
   | node l v r=>
    rw [zkC];cases m with
    | zero=>rfl
    | succ m=>rw [vH,vH];simp
  | succ n=>
   have hn:n/2<f:=by omega
   cases t with
   | leaf=>
    rw [zkF];by_cases hp:n%2=0
    ·rw [yak hp];cases m with
     | zero=>rw [Ck];simp [vI]
     | succ m=>
      rw [vH,vI,vI,ih _ _ _ _ hn,vI];by_cases hm:m%2=0
      ·rw [yak hm];by_cases e:m/2=n/2
       ·rw [yak e,yak (by omega)]
       ·rw [yai e,yai (by omega)]
      ·rw [yai hm,yai (by omega)]
    ·rw [yai hp];cases m with
     | zero=>rw [Ck];simp [vI]
     | succ m=>
      rw [vH,vI,vI,ih _ _ _ _ hn,vI];by_cases hm:m%2=0
      ·rw [yak hm,yai (by omega)]
      ·rw [yai hm];by_cases e:m/2=n/2
       ·rw [yak e,yak (by omega)]
       ·rw [yai e,yai (by omega)]
   | node l v r=>
    rw [zkD];by_cases hp:n%2=0
    ·rw [yak hp];cases m with
     | zero=>rw [Ck,Ck];simp
     | succ m=>
      rw [vH,vH,ih _ _ _ _ hn];by_cases hm:m%2=0
      ·rw [yak hm,yak hm];by_cases e:m/2=n/2
       ·rw [yak e,yak (by omega)]
       ·rw [yai e,yai (by omega)]
      ·rw [yai hm,yai hm,yai (by omega)]
    ·rw [yai hp];cases m with
     | zero=>rw [Ck,Ck];simp
     | succ m=>
      rw [vH,vH,ih _ _ _ _ hn];by_cases hm:m%2=0
      ·rw [yak hm,yak hm,yai (by omega)]
      ·rw [yai hm,yai hm];by_cases e:m/2=n/2
       ·rw [yak e,yak (by omega)]
       ·rw [yai e,yai (by omega)]
theorem lZ (t:T α) (n m:Nat) (x:α):(t.set n x).get m=if m=n then some x else t.get m:=zBq _ _ _ _ _ (ycF n)
theorem get_set_same (t:T α) (n:Nat) (x:α):(t.set n x).get n=some x:=by rw [lZ,yak rfl]
theorem jm (t:T α) {n m:Nat} (x:α) (h:m≠n):(t.set n x).get m=t.get m:=by rw [lZ,yai h]
end T
theorem vJ {β:Type} (n:Nat) (k:Nat→β):qJ n k=k n:=by cases n<;>rfl
theorem Vec.get_eq (v:Vec) (i:Nat):v.get i=(v.t.get i).getD v.d:=by
 unfold Vec.get;cases v.t.get i<;>rfl
theorem Vec.U0 (v:Vec) (i:Nat) (x:AV):v.set i x=⟨v.t.set i x,v.n,v.d⟩:=by
 obtain ⟨t,n,d⟩:=v;show (match t.set i x with| .leaf=>(⟨.leaf,n,d⟩:Vec)| .node a b c=>⟨.node a b c,n,d⟩)=_;cases t.set i x<;>rfl
theorem Vec.lZ (v:Vec) (i j:Nat) (x:AV):(v.set i x).get j=if j=i then x else v.get j:=by
 rw [Vec.U0,Vec.get_eq,Vec.get_eq,T.lZ];by_cases h:j=i<;>simp [h]
theorem Vec.abj (v:Vec) (i:Nat) (x:AV):(v.set i x).n=v.n:=by rw [Vec.U0]
theorem Vec.BD: ∀(l:List AV) (v:Vec) (i:Nat),(v.put i l).n=v.n
 | [], _,_=>rfl
 | x::l,v,i=>by unfold Vec.put;rw [Vec.BD l,Vec.abj]
theorem Vec.get_put: ∀(l:List AV) (v:Vec) (i j:Nat),(v.put i l).get j=if h:i≤j∧j<i+l.length then l[j-i]'(by omega) else v.get j
 | [], v,i,j=>by
  unfold Vec.put;rw [ydD (by simp)]
 | x::l,v,i,j=>by
  unfold Vec.put;rw [Vec.get_put l,Vec.lZ];by_cases h:j=i
  ·subst h;rw [ydD (by simp;omega),yak rfl,ydC (by simp)];simp
  ·by_cases h2:i≤j∧j<i+(x::l).length
   ·rw [ydC (by simp at h2 ⊢;omega),ydC h2];have e:j-i=(j-Nat.succ i)+1:=by simp at h2;omega
    simp only [e,yb6]
   ·rw [ydD (by simp at h2 ⊢;omega),ydD h2,yai h]
theorem Vec.l9 (l:List AV):(Vec.ofList l).n=l.length:=by unfold Vec.ofList;rw [Vec.BD]
theorem Vec.uJ (l:List AV) (i:Nat) (h:i<l.length):(Vec.ofList l).get i=l[i]:=by
 unfold Vec.ofList;rw [Vec.get_put,ydC (by omega)];simp
theorem Vec.rM: ∀(n:Nat) (v:Vec) (i:Nat),(v.list i n).length=n
 | 0,_,_=>rfl
 | n+1,v,i=>by unfold Vec.list;rw [yaW,Vec.rM]
theorem Vec.AX: ∀(n:Nat) (v:Vec) (i k:Nat) (h:k<n),(v.list i n)[k]? =some (v.get (i+k))
 | 0,_,_,_,h=>by omega
 | n+1,v,i,0,_=>by unfold Vec.list;simp
 | n+1,v,i,k+1,h=>by
  unfold Vec.list;rw [yaN,Vec.AX n v (Nat.succ i) k (by omega)];congr 2;omega
theorem zF4 (x y:Int):BB x y=decide (x<y):=by
 cases x<;>cases y<;>unfold BB<;>rw [ycM]<;>simp [yaE]<;>omega
theorem Vv (x y:Int):oK x y=(x==y):=by
 cases x<;>cases y<;>unfold oK<;>rw [ycM]<;>simp [Nat.beq_eq]<;>omega
theorem zEU (o:BinOp) (x y:Int):Mh o x y=mX o x y:=by
 cases o<;>simp only [Mh,mX,Vv,zF4]
 case neq=>show (match (x==y) with|true=>false|false=>true)=(!(x==y));cases (x==y)<;>rfl
 case leq=>by_cases h:y<x<;>simp [h]<;>omega
 all_goals (by_cases h:x<y<;>simp [h]<;>omega)
theorem zE4 (x y:Int):Si x y=x+y:=by cases x<;>cases y<;>rfl
theorem zEb (x y:Int):Uz x y=x*y:=by cases x<;>cases y<;>rfl
theorem zEP (x y:Int):SF x y=x.tdiv y:=by cases x<;>cases y<;>rfl
theorem zEc (x y:Int):Uy x y=x.tmod y:=by cases x<;>cases y<;>rfl
theorem zDf (x y:Int):OE x y=x-y:=by
 cases x<;>cases y<;>try rfl
 rename_i a b;have e:OE (Int.ofNat a) (Int.ofNat b)=match Nat.ble b a with|true=>Int.ofNat (Nat.sub a b)|false=>Int.negSucc (Nat.sub (Nat.sub b a) 1):=rfl
 rw [e];cases h:Nat.ble b a with
 | true=>
  have:=yal h;show Int.ofNat (a-b)=(a:Int)-(b:Int);simp only [ybN];omega
 | false=>
  have: ¬b≤a:=fun hh=>by rw [ycf hh] at h;cases h
  show Int.negSucc (b-a-1)=(a:Int)-(b:Int);rw [Int.negSucc_eq];omega
theorem E9 {k:IntKind} {n:Int} (h1:k.min≤n) (h2:n≤k.max):k.wrap n=n:=by
 cases k<;>simp [IntKind.min,IntKind.max,IntKind.signed,IntKind.bits] at h1 h2<;>simp [IntKind.wrap,IntKind.signed,IntKind.bits]<;>omega
theorem Ko (k:IntKind) (n:Int):sG k n=k.wrap n:=by
 cases n with
 | ofNat m=>
  have e:sG k (Int.ofNat m)=match Nat.blt m (zdt k) with|true=>Int.ofNat m|false=>k.wrap (Int.ofNat m):=rfl
  rw [e];cases h:Nat.blt m (zdt k) with
  | true=>
   rw [yaE] at h;refine (E9 ?_ ?_).symm<;>cases k<;>simp [zdt] at h<;>simp [IntKind.min,IntKind.max,IntKind.signed,IntKind.bits]<;>omega
  | false=>rfl
 | negSucc m=>
  have e:sG k (Int.negSucc m)=match k.signed with|true=>(match Nat.blt m (zdt k) with|true=>Int.negSucc m|false=>k.wrap (Int.negSucc m))|false=>k.wrap (Int.negSucc m):=rfl
  rw [e];cases hs:k.signed with
  | false=>rfl
  | true=>
   cases h:Nat.blt m (zdt k) with
   | true=>
    rw [yaE] at h;refine (E9 ?_ ?_).symm<;>cases k<;>simp [zdt] at h<;>simp [IntKind.signed] at hs<;>simp [IntKind.min,IntKind.max,IntKind.signed,IntKind.bits]<;>omega
   | false=>rfl
theorem ofInt_ofNat (n x:Nat):BitVec.ofInt n (Int.ofNat x)=BitVec.ofNat n x:=by
 apply BitVec.eq_of_toNat_eq;simp
theorem Kn {k:IntKind} {m:Nat} (h:m<zdt k):k.wrap ((m:Nat):Int)=Int.ofNat m:=by
 refine E9 ?_ ?_<;>cases k<;>simp [zdt] at h<;>simp [IntKind.min,IntKind.max,IntKind.signed,IntKind.bits]<;>omega
theorem zwc (k:IntKind): ∃e,zdt k=2^e∧e≤k.bits:=by
 cases k<;>simp only [zdt,IntKind.bits]
 ·exact ⟨7,by decide,by decide⟩
 ·exact ⟨15,by decide,by decide⟩
 ·exact ⟨31,by decide,by decide⟩
 ·exact ⟨63,by decide,by decide⟩
 ·exact ⟨8,by decide,by decide⟩
 ·exact ⟨16,by decide,by decide⟩
 ·exact ⟨32,by decide,by decide⟩
 ·exact ⟨64,by decide,by decide⟩
theorem Fu (o:BinOp) (ho:o= .and∨o= .or∨o= .xor∨o= .andNot) (k:IntKind) (x y:Int):nP o k x y=nI o k x y:=by
 cases x with
 | negSucc a=>cases y<;>rfl
 | ofNat a=>
  cases y with
  | negSucc b=>rfl
  | ofNat b=>
   cases ha:Nat.blt a (zdt k) with
   | false=>simp only [nP,ha]
   | true=>
    cases hb:Nat.blt b (zdt k) with
    | false=>simp only [nP,ha,hb]
    | true=>
     have key:nP o k (Int.ofNat a) (Int.ofNat b)=nP.nat o a b:=by simp only [nP,ha,hb]
     rw [key];rw [yaE] at ha hb;obtain ⟨e,he,hle⟩:=zwc k;have ha2:a<2^k.bits:=yad (he▸ha) (ybp (by omega) hle);have hb2:b<2^k.bits:=yad (he▸hb) (ybp (by omega) hle);have ea:(BitVec.ofNat k.bits a).toNat=a:=by rw [yb8,ybe ha2]
     have eb:(BitVec.ofNat k.bits b).toNat=b:=by rw [yb8,ybe hb2]
     rcases ho with rfl|rfl|rfl|rfl
     ·show Int.ofNat (a&&&b)=k.wrap _;rw [ofInt_ofNat,ofInt_ofNat,ydv,ea,eb,Kn (by rw [he];exact Nat.and_lt_two_pow _ (he▸hb))]
     ·show Int.ofNat (a|||b)=k.wrap _;rw [ofInt_ofNat,ofInt_ofNat,BitVec.toNat_or,ea,eb,Kn (by rw [he];exact yc1 (he▸ha) (he▸hb))]
     ·show Int.ofNat (a^^^b)=k.wrap _;rw [ofInt_ofNat,ofInt_ofNat,BitVec.toNat_xor,ea,eb,Kn (by rw [he];exact Nat.xor_lt_two_pow (he▸ha) (he▸hb))]
     ·show Int.ofNat (a^^^(a&&&b))=k.wrap (((BitVec.ofInt k.bits (Int.ofNat a)&&& ~~~(BitVec.ofInt k.bits (Int.ofNat b))).toNat:Nat):Int);have e3:(BitVec.ofInt k.bits (Int.ofNat a)&&& ~~~(BitVec.ofInt k.bits (Int.ofNat b))).toNat=a^^^(a&&&b):=by
       rw [ofInt_ofNat,ofInt_ofNat,ydv,ea];apply ybj;intro i;rw [ycb,ydG,ycb];by_cases hi:i<k.bits
       ·have:(~~~(BitVec.ofNat k.bits b)).toNat.testBit i= !(b.testBit i):=by
         have h1:(~~~(BitVec.ofNat k.bits b)).toNat.testBit i=(~~~(BitVec.ofNat k.bits b)).getLsbD i:=rfl;rw [h1,BitVec.getLsbD_not];have h2:(BitVec.ofNat k.bits b).getLsbD i=(BitVec.ofNat k.bits b).toNat.testBit i:=rfl;rw [h2,eb];simp [hi]
        rw [this];cases a.testBit i<;>cases b.testBit i<;>rfl
       ·have:a.testBit i=false:=Nat.testBit_lt_two_pow (yad ha2 (ybp (by omega) (by omega)));simp [this]
      rw [e3,Kn (by rw [he];exact Nat.xor_lt_two_pow (he▸ha) (Nat.and_lt_two_pow _ (he▸hb)))]
theorem zxW (y b:Nat):(match Nat.blt y b with|true=>y|false=>b)=min y b:=by
 cases h:Nat.blt y b with
 | true=>rw [yaE] at h;simp;omega
 | false=>
  have: ¬y<b:=fun hh=>by rw [←yaE] at hh;rw [hh] at h;cases h
  simp;omega
theorem zDh (k:IntKind) (x:Int) (y:Nat):U2 k x y=x.fdiv (2^(min y k.bits)):=by
 cases x with
 | negSucc a=>rfl
 | ofNat a=>
  show Int.ofNat (Nat.div a (Nat.pow 2 (match Nat.blt y k.bits with|true=>y|false=>k.bits)))=_;rw [zxW];show ((a/2^(min y k.bits):Nat):Int)=_;rw [Int.natCast_ediv,ydO _ (by exact_mod_cast yax _)];simp
theorem zDi (k:IntKind) (x:Int) (y:Nat):U1 k x y=k.wrap (x*2^(min y k.bits)):=by
 cases x with
 | negSucc a=>rfl
 | ofNat a=>
  show sG k (Int.ofNat (Nat.mul a (Nat.pow 2 (match Nat.blt y k.bits with|true=>y|false=>k.bits))))=_;rw [zxW,Ko];congr 1
theorem zyl {o:BinOp} {k:IntKind} {x y z:Int} (h:Ed o k x y=some z):jG o k x y=z:=by
 cases o<;>simp only [Ed,zE4,zDf,zEb,zEP,zEc,Ko] at h
 case add=>exact yaC h
 case sub=>exact yaC h
 case mul=>exact yaC h
 case quo=>split at h<;>simp_all [jG]
 case rem=>split at h<;>simp_all [jG]
 case shl=>split at h<;>simp_all [jG,zDi]
 case shr=>split at h<;>simp_all [jG,zDh]
 case and=>rw [Fu _ (by simp)] at h;exact yaC h
 case or=>rw [Fu _ (by simp)] at h;exact yaC h
 case xor=>rw [Fu _ (by simp)] at h;exact yaC h
 case andNot=>rw [Fu _ (by simp)] at h;exact yaC h
 all_goals cases h
theorem RV {k k':IntKind} (h:Nat.beq (kn k) (kn k')=true):k=k':=by
 cases k<;>cases k'<;>first|rfl|cases h
theorem bK {a b:Nat} (h:Nat.beq a b=true):a=b:=yc9 h
theorem Qd: ∀ {a b:List Nat},uo a b=true→a=b
 | [], [], _=>rfl
 | [], _::_,h=>by cases h
 | _::_,[],h=>by cases h
 | a::l,b::m,h=>by
  unfold uo at h;split at h
  ·rename_i h1;rw [bK h1,Qd h]
  ·cases h
theorem Pm: ∀(a:List Nat),uo a a=true
 | [] => rfl
 | a::l=>by unfold uo;rw [yca];exact Pm l
theorem zro {a b:List Nat}:uo a b=decide (a=b):=by
 by_cases h:a=b
 ·subst h;simp [Pm]
 ·cases e:uo a b with
  | true=>exact absurd (Qd e) h
  | false=>simp [h]
theorem aO.beq_eq {f g:aO} (h:aO.beq f g=true):f=g:=by
 obtain ⟨a,b,c,d,e,p⟩:=f;obtain ⟨a',b',c',d',e',p'⟩:=g;unfold aO.beq at h;simp only at h;split at h
 ·rename_i h1 h2 h3 h4 h5 h6;rw [bK h1,bK h2,bK h3,bK h4,bK h5,bK h6]
 ·cases h
theorem zmb: ∀ {l m:List aO},KO l m=true→l=m
 | [], [], _=>rfl
 | [], _::_,h=>by cases h
 | _::_,[],h=>by cases h
 | f::l,g::m,h=>by
  unfold KO at h;split at h
  ·rename_i h1;rw [aO.beq_eq h1,zmb h]
  ·cases h
theorem SE.beq_eq: ∀ {a b:SE},SE.beq a b=true→a=b:=by
 intro a
 induction a with
 | lit n=>
  intro b h;cases b<;>simp only [SE.beq] at h<;>try cases h
  split at h
  ·rw [bK h]
  ·rw [bK h]
  ·cases h
 | var i=>
  intro b h;cases b<;>simp only [SE.beq] at h<;>try cases h
  rw [bK h]
 | bin o k a b iha ihb=>
  intro c h;cases c<;>simp only [SE.beq] at h<;>try cases h
  split at h
  ·split at h
   ·split at h
    ·rename_i h1 h2 _ h3;rw [h1,h2,iha h3,ihb h]
    ·cases h
   ·cases h
  ·cases h
 | wrap k a ih=>
  intro c h;cases c<;>simp only [SE.beq] at h<;>try cases h
  split at h
  ·rename_i h1;rw [h1,ih h]
  ·cases h
 | dG l c=>
  intro b h;cases b<;>simp only [SE.beq] at h<;>try cases h
  split at h
  ·rename_i h1;rw [zmb h1,bK h]
  ·cases h
theorem SB.uI: ∀ {a b:SB},SB.eqv a b=true→a=b:=by
 intro a
 induction a with
 | lit n=>
  intro b h;cases b<;>simp only [SB.eqv] at h<;>try cases h
  simp at h;rw [h]
 | var i=>
  intro b h;cases b<;>simp only [SB.eqv] at h<;>try cases h
  rw [bK h]
 | cmp o a b=>
  intro c h;cases c<;>simp only [SB.eqv] at h<;>try cases h
  split at h
  ·split at h
   ·rename_i h1 _ h2;rw [h1,SE.beq_eq h2,SE.beq_eq h]
   ·cases h
  ·cases h
 | not a ih=>
  intro b h;cases b<;>simp only [SB.eqv] at h<;>try cases h
  rw [ih h]
 | beq a b iha ihb=>
  intro c h;cases c<;>simp only [SB.eqv] at h<;>try cases h
  split at h
  ·rename_i h1;rw [iha h1,ihb h]
  ·cases h
 | and a b iha ihb=>
  intro c h;cases c<;>simp only [SB.eqv] at h<;>try cases h
  split at h
  ·rename_i h1;rw [iha h1,ihb h]
  ·cases h
theorem kJ.beq_eq {a b:kJ} (h:kJ.beq a b=true):a=b:=by
 cases a<;>cases b<;>simp only [kJ.beq] at h<;>first|rw [bK h]|cases h
theorem zo4 {a b:Option SE} (h:Lv a b=true):a=b:=by
 cases a<;>cases b<;>simp only [Lv] at h<;>first|rfl|rw [SE.beq_eq h]|cases h
theorem zso: ∀ {a b:List (SE×Nat)},LW a b=true→a=b
 | [], [], _=>rfl
 | x::a,y::b,h=>by
  unfold LW at h;split at h
  ·rename_i h1 h2;rw [zso h,Prod.ext (SE.beq_eq h1) (bK h2)]
  ·cases h
 | [], _::_,h=>by cases h
 | _::_,[],h=>by cases h
mutual
theorem AV.beq_eq: ∀ {a b:AV},AV.beq a b=true→a=b
 | .bool a,b,h=>by cases b<;>simp only [AV.beq] at h<;>first|rw [SB.uI h]|cases h
 | .int k n,b,h=>by
  cases b<;>simp only [AV.beq] at h<;>try cases h
  split at h
  ·split at h
   ·rename_i h1 h2;rw [SE.beq_eq h1,h2]
   ·cases h
  ·cases h
 | .str a,b,h=>by cases b<;>simp only [AV.beq] at h<;>first|rw [Qd h]|cases h
 | .jr,b,h=>by cases b<;>simp only [AV.beq] at h<;>first|rfl|cases h
 | .ptr a c,b,h=>by
  cases b<;>simp only [AV.beq] at h<;>try cases h
  split at h
  ·rename_i h1;rw [bK h1,bK h]
  ·cases h
 | .bZ,b,h=>by cases b<;>simp only [AV.beq] at h<;>first|rfl|cases h
 | .sl a c d e,b,h=>by
  cases b<;>simp only [AV.beq] at h<;>try cases h
  split at h
  ·rename_i h1 h2 h3;rw [bK h1,bK h2,bK h3,kJ.beq_eq h]
  ·cases h
 | .emp,b,h=>by cases b<;>simp only [AV.beq] at h<;>first|rfl|cases h
 | .oW a,b,h=>by cases b<;>simp only [AV.beq] at h<;>first|rw [SE.beq_eq h]|cases h
 | .nG,b,h=>by cases b<;>simp only [AV.beq] at h<;>first|rfl|cases h
 | .kT,b,h=>by cases b<;>simp only [AV.beq] at h<;>first|rfl|cases h
 | .map a,b,h=>by cases b<;>simp only [AV.beq] at h<;>first|rw [bK h]|cases h
 | .func f l m,b,h=>by
  cases b<;>simp only [AV.beq] at h<;>try cases h
  split at h
  ·rename_i h1 h2;rw [bK h1,AV.sQ h2,AV.sQ h]
  ·cases h
 | .fT,b,h=>by cases b<;>simp only [AV.beq] at h<;>first|rfl|cases h
 | .nD,b,h=>by cases b<;>simp only [AV.beq] at h<;>first|rfl|cases h
 | .iface t v,b,h=>by
  cases b<;>simp only [AV.beq] at h<;>try cases h
  split at h
  ·rename_i h1;rw [bK h1,AV.beq_eq h]
  ·cases h
 | .agg l,b,h=>by cases b<;>simp only [AV.beq] at h<;>first|rw [AV.sQ h]|cases h
 | .aH l,b,h=>by cases b<;>simp only [AV.beq] at h<;>first|rw [AV.sQ h]|cases h
 | .cst a l,b,h=>by
  cases b<;>simp only [AV.beq] at h<;>try cases h
  split at h
  ·rename_i h1;rw [bK h1,zo4 h]
  ·cases h
 | .opq a l,b,h=>by
  cases b<;>simp only [AV.beq] at h<;>try cases h
  split at h
  ·rename_i h1;rw [bK h1,zo4 h]
  ·cases h
 | .sx i n s l,b,h=>by
  cases b<;>simp only [AV.beq] at h<;>try cases h
  split at h
  ·rename_i h1 h2 h3;rw [bK h1,SE.beq_eq h2,bK h3,zso h]
  ·cases h
 | .junk,b,h=>by cases b<;>simp only [AV.beq] at h<;>first|rfl|cases h
 | .iR c w,b,h=>by
  cases b<;>simp only [AV.beq] at h<;>try cases h
  split at h
  ·rename_i h1;split at h
   ·rw [SB.uI h1]
   ·rw [SB.uI h1]
   ·cases h
  ·cases h
theorem AV.sQ: ∀ {a b:List AV},AV.pV a b=true→a=b
 | [], b,h=>by cases b<;>simp only [AV.pV] at h<;>first|rfl|cases h
 | x::l,b,h=>by
  cases b<;>simp only [AV.pV] at h<;>try cases h
  split at h
  ·rename_i h1;rw [AV.beq_eq h1,AV.sQ h]
  ·cases h
end
end Go.Dw
namespace Go.Dw
structure Loc where
 blk:Nat
 off:Nat
 cap:Nat
 q:Option Value
abbrev J:=Nat→Option Loc
def vX (L:Loc):kJ→Nat
 | .known c=>c
 | .upto k=>L.cap-k
def Wu (L:Loc) (len:Nat):kJ→Prop
 | .known c=>len≤c
 | .upto k=>k+len≤L.cap∧0<L.cap
def sP (ρ:Val) (j:J) (sz:Nat) (b:Option Addr) (len:Nat):List (SE×Nat)→Prop
 | [] => True
 | p::l=>(∃bb o L k,b=some ⟨bb,o,none⟩∧j p.2=some L∧L.blk=bb∧p.1.den ρ=Int.ofNat k∧k<len∧L.off=o+sz*k)∧sP ρ j sz b len l
mutual
def R (ρ:Val) (j:J):AV→Value→Prop
 | .bool b,v=>v= .bool (b.den ρ)
 | .int k n,v=>v= .int k (n.den ρ)
 | .str s,v=>(∀b∈s,b<256)∧v= .string ⟨(s.map UInt8.ofNat).toArray⟩
 | .jr,v=>v= .pointer none
 | .ptr n o,v=> ∃L,j n=some L∧v= .pointer (some ⟨L.blk,L.off+o,none⟩)
 | .bZ,v=>v= .slice none 0 0
 | .sl n o len cap,v=> ∃L,j n=some L∧Wu L len cap∧v= .slice (some ⟨L.blk,L.off+o,none⟩) len (vX L cap)
 | .emp,v=> ∃a c,v= .slice (some a) 0 c
 | .oW n,v=> ∃b l c,v= .slice b l c∧Int.ofNat l=n.den ρ
 | .nG,v=> ∃a l c,v= .slice (some a) l c
 | .kT,v=>v= .map none
 | .map n,v=> ∃L,j n=some L∧v= .map (some L.blk)
 | .func f first cap,v=> ∃l m,v= .func (.func f) l.toArray m.toArray∧RL ρ j first l∧RL ρ j cap m
 | .fT,v=>v= .nilFunc
 | .nD,v=>v= .nilIface
 | .iface t x,v=> ∃y,v= .iface t y∧R ρ j x y
 | .agg l,v=> ∃m,v= .agg m.toArray∧RL ρ j l m
 | .aH l,v=> ∃m,v= .tuple m.toArray∧RL ρ j l m
 | .cst i len,v=>v=ρ.v i∧v.oneCell'=true∧ ∀n,len=some n→ ∃b l c,v= .slice b l c∧Int.ofNat l=n.den ρ
 | .iR c b,v=>v=undef∧c.den ρ= !b
 | .junk,_=>False
 | .sx i n sz l,v=>v=ρ.v i∧ ∃b len cap,v= .slice b len cap∧Int.ofNat len=n.den ρ∧sP ρ j sz b len l
 | .opq m len,v=>(∃L,j m=some L∧L.q=some v)∧v.oneCell'=true∧ ∀n,len=some n→ ∃b l c,v= .slice b l c∧Int.ofNat l=n.den ρ
def RL (ρ:Val) (j:J):List AV→List Value→Prop
 | [], l=>l= []
 | a::l,m=> ∃v m',m=v::m'∧R ρ j a v∧RL ρ j l m'
end
def Sub (j j':J):Prop:= ∀n L,j n=some L→j' n=some L
theorem Sub.refl (j:J):Sub j j:=fun _ _ h=>h
theorem Sub.trans {j j' Ef:J} (h:Sub j j') (h':Sub j' Ef):Sub j Ef:=fun n L e=>h' n L (h n L e)
theorem sP.mono {ρ:Val} {j j':J} (h: ∀n L,j n=some L→j' n=some L) {sz:Nat} {b:Option Addr} {len:Nat}: ∀ {l:List (SE×Nat)},sP ρ j sz b len l→sP ρ j' sz b len l
 | [], _=>trivial
 | _::_,r=>let ⟨⟨bb,o,L,k,h1,h2,h3⟩,h4⟩:=r;⟨⟨bb,o,L,k,h1,h _ _ h2,h3⟩,sP.mono h h4⟩
mutual
theorem R.mono {ρ:Val} {j j':J} (h:Sub j j'): ∀ {a:AV} {v:Value},R ρ j a v→R ρ j' a v
 | .bool _,_,r=>r
 | .int _ _,_,r=>r
 | .str _,_,r=>r
 | .jr,_,r=>r
 | .ptr _ _,_,r=>let ⟨L,e,x⟩:=r;⟨L,h _ _ e,x⟩
 | .bZ,_,r=>r
 | .sl _ _ _ _,_,r=>let ⟨L,e,x⟩:=r;⟨L,h _ _ e,x⟩
 | .emp,_,r=>r
 | .oW _,_,r=>r
 | .nG,_,r=>r
 | .kT,_,r=>r
 | .map _,_,r=>let ⟨L,e,x⟩:=r;⟨L,h _ _ e,x⟩
 | .func _ _ _,_,r=>let ⟨l,m,e,x,y⟩:=r;⟨l,m,e,RL.mono h x,RL.mono h y⟩
 | .fT,_,r=>r
 | .nD,_,r=>r
 | .iface _ _,_,r=>let ⟨y,e,x⟩:=r;⟨y,e,R.mono h x⟩
 | .agg _,_,r=>let ⟨m,e,x⟩:=r;⟨m,e,RL.mono h x⟩
 | .aH _,_,r=>let ⟨m,e,x⟩:=r;⟨m,e,RL.mono h x⟩
 | .cst _ _,_,r=>r
 | .iR _ _,_,r=>r
 | .junk,_,r=>r.elim
 | .sx _ _ _ _,_,r=>let ⟨h1,b,len,cap,h2,h3,h4⟩:=r;⟨h1,b,len,cap,h2,h3,h4.mono h⟩
 | .opq _ _,_,r=>let ⟨⟨L,e,x⟩,y⟩:=r;⟨⟨L,h _ _ e,x⟩,y⟩
theorem RL.mono {ρ:Val} {j j':J} (h:Sub j j'): ∀ {a:List AV} {v:List Value},RL ρ j a v→RL ρ j' a v
 | [], _,r=>r
 | _::_,_,r=>let ⟨v,m,e,x,y⟩:=r;⟨v,m,e,R.mono h x,RL.mono h y⟩
end
section
variable {ρ:Val} {j:J}
theorem RL.length: ∀ {l:List AV} {m:List Value},RL ρ j l m→m.length=l.length
 | [], m,r=>by have e:m= []:=r;rw [e];rfl
 | _::l,_,r=>by obtain ⟨v,m,rfl,_,y⟩:=r;simp [RL.length y]
theorem RL.get: ∀ {l:List AV} {m:List Value},RL ρ j l m→ ∀(i:Nat) (a:AV),l[i]? =some a→ ∃v,m[i]? =some v∧R ρ j a v
 | [], _,_,_,_,h=>by simp at h
 | _::l,_,r,0,a,h=>by obtain ⟨v,m,rfl,x,_⟩:=r;simp at h;subst h;exact ⟨v,rfl,x⟩
 | _::l,_,r,i+1,a,h=>by obtain ⟨v,m,rfl,_,y⟩:=r;simp at h;simpa using RL.get y i a h
theorem RL.BG: ∀ {l:List AV} {m:List Value},m.length=l.length→(∀(i:Nat) (a:AV),l[i]? =some a→ ∃v,m[i]? =some v∧R ρ j a v)→RL ρ j l m
 | [], m,h,_=>by
  have e:m= []:=by simpa using h
  exact e
 | a::l,[],h,_=>by simp at h
 | a::l,v::m,h,hg=>by
  refine ⟨v,m,rfl,?_,RL.BG (by simpa using h) fun i b hb=>by simpa using hg (i+1) b (by simpa using hb)⟩;obtain ⟨v',h1,h2⟩:=hg 0 a rfl;simp at h1;subst h1;exact h2
theorem RL.append: ∀ {l l':List AV} {m m':List Value},RL ρ j l m→RL ρ j l' m'→RL ρ j (l++l') (m++m')
 | [], _,_,_,r,r'=>by rw [show _= [] from r];exact r'
 | _::l,_,_,_,r,r'=>by obtain ⟨v,m,rfl,x,y⟩:=r;exact ⟨v,_,rfl,x,RL.append y r'⟩
theorem RL.cons {a:AV} {v:Value} {l:List AV} {m:List Value} (h:R ρ j a v) (h':RL ρ j l m):RL ρ j (a::l) (v::m):=⟨v,m,rfl,h,h'⟩
theorem RL.nil:RL ρ j [] []:=rfl
theorem RL.one {a:AV} {v:Value} (h:R ρ j a v):RL ρ j [a] [v]:=⟨v,[],rfl,h,rfl⟩
theorem RL.two {a b:AV} {v u:Value} (h:R ρ j a v) (h':R ρ j b u):RL ρ j [a,b] [v,u]:= .cons h (.one h')
end
theorem zgQ (l:List UInt8):(l.map (·.toNat)).map UInt8.ofNat=l:=by
 rw [ycS]
 conv=>rhs;rw [←List.map_id l]
 apply ycO;intro a _;simp
theorem zum {ρ:Val} {j:J} {v:Value} {a:AV} (h:Lu v=some a):R ρ j a v:=by
  unfold Lu at h;split at h<;>first|(cases h;done)|skip
  all_goals (cases h)
  all_goals first
    | (simp [R,SB.den,SE.den];done)
    | skip
  rename_i s;refine ⟨by simp;intro b _;exact b.toNat_lt,?_⟩;rw [zgQ]
theorem Qr {ρ:Val} {j:J}: ∀ {vs:List Value} {l:List AV},Co vs=some l→RL ρ j l vs
 | [], l,h=>by unfold Co at h;cases h;rfl
 | v::vs,l,h=>by
  unfold Co at h;split at h
  ·cases h
  ·rename_i a ha;split at h
   ·cases h
   ·rename_i m hm;cases h;exact ⟨v,vs,rfl,zum ha,Qr hm⟩
theorem zqu {ρ:Val} {j:J} {v:Value} {a:AV} (h:ofValue v=some a):R ρ j a v:=by
 unfold ofValue at h;split at h
 ·split at h
  ·rename_i hl;cases h;exact ⟨_,by simp,Qr hl⟩
  ·cases h
 ·split at h
  ·rename_i hl;cases h;exact ⟨_,by simp,Qr hl⟩
  ·cases h
 ·exact zum h
theorem rY {ρ:Val} {j:J}:R ρ j jN undef:=⟨[],rfl,rfl⟩
theorem xW {ρ:Val} {j:J} {a:AV} {v:Value} (h:R ρ j a v):RL ρ j a.cells v.cells.toList:=by
  cases a with
  | agg l=>obtain ⟨m,rfl,r⟩:=h;simpa [AV.cells,Value.cells] using r
  | junk=>exact h.elim
  | _=>
    have hv:v.cells= #[v]:=by
      simp only [R] at h
      first
        | (subst h;rfl)
        | (obtain ⟨_,_,rfl⟩:=h;rfl)
        | (obtain ⟨_,_,_,rfl⟩:=h;rfl)
        | (obtain ⟨_,rfl,_⟩:=h;rfl)
        | (obtain ⟨_,rfl⟩:=h;rfl)
        | (obtain ⟨_,_,_,_,rfl,_⟩:=h;rfl)
        | (obtain ⟨_,_,rfl,_⟩:=h;rfl)
        | (obtain ⟨_,_,_,rfl,_⟩:=h;rfl)
        | (obtain ⟨rfl,_⟩:=h;rfl)
        | (have h1:=h.2.1;revert h1;cases v<;>intro h1<;>first|rfl|cases h1)
    rw [hv];exact RL.one h
theorem zgY {ρ:Val} {j:J} {a:AV} {v:Value} (h:R ρ j a v) (hc:R5 a=true):v.oneCell'=true:=by
  cases a<;>simp only [R5] at hc<;>try (cases hc;done)
  all_goals
    simp only [R] at h
    first
      | (subst h;rfl)
      | (obtain ⟨_,_,rfl⟩:=h;rfl)
      | (obtain ⟨_,_,_,rfl⟩:=h;rfl)
      | (obtain ⟨_,rfl,_⟩:=h;rfl)
      | (obtain ⟨_,rfl⟩:=h;rfl)
      | (obtain ⟨_,_,_,_,rfl,_⟩:=h;rfl)
      | (obtain ⟨_,_,rfl,_⟩:=h;rfl)
      | (obtain ⟨_,_,_,rfl,_⟩:=h;rfl)
      | exact h.2.1
theorem QV {ρ:Val} {j:J}: ∀ {l:List AV} {m:List Value},RL ρ j l m→zX l=true→ ∀v∈m,v.oneCell'=true
 | [], _,r,_=>by rw [show _= [] from r];simp
 | a::l,_,r,h=>by
  obtain ⟨v,m,rfl,x,y⟩:=r;unfold zX at h;split at h
  ·rename_i hc;intro u hu;rcases yac.1 hu with rfl|hu
   ·exact zgY x hc
   ·exact QV y h u hu
  ·cases h
def Mine (j:J) (b:Nat):Prop:= ∃n L,j n=some L∧L.q=none∧L.blk=b
structure Cx where
 w:World
 K:Nat→Prop
 G:Nat→J→World→Prop
 abz: ∀k j j' w w',G k j w→Sub j j'→w.heap.size≤w'.heap.size→(∀b,b<w.heap.size→ ¬Mine j b→w'.heap[b]? =w.heap[b]?)→(∀b,Mine j' b→Mine j b∨w.heap.size≤b)→G k j' w'
def Cx.own (x:Cx) (b:Nat):Prop:=x.w.heap.size≤b∨x.K b
def Cx.plain (w:World):Cx:=⟨w,fun _=>False,fun _ _ _=>True,fun _ _ _ _ _ _ _ _ _ _=>trivial⟩
structure Fr (w0:Cx) (w:World):Prop where
 os:w.os=w0.w.os
 out:w.output=w0.w.output
 tape:w.tape=w0.w.tape
 size:w0.w.heap.size≤w.heap.size
 old: ∀i,i<w0.w.heap.size→ ¬w0.K i→w.heap[i]? =w0.w.heap[i]?
theorem Fr.below {w w':World} (h:Fr (Cx.plain w) w'):RowKit.Below w.heap.size w w':=⟨h.os,h.tape,h.out,h.size,fun i hi=>h.old i hi id⟩
theorem Fr.refl (x:Cx):Fr x x.w:=⟨rfl,rfl,rfl,yab _,fun _ _ _=>rfl⟩
theorem Fr.then {x:Cx} {b c:World} (h:Fr x b) (h1:c.os=b.os) (h2:c.output=b.output) (h3:c.tape=b.tape) (h4:b.heap.size≤c.heap.size) (h5: ∀i,i<b.heap.size→ ¬x.own i→c.heap[i]? =b.heap[i]?):Fr x c:=
 ⟨h1.trans h.os,h2.trans h.out,h3.trans h.tape,yau h.size h4,fun i hi hk=>(h5 i (yad hi h.size) (fun ho=>ho.elim (fun h=>absurd hi (Nat.not_lt_of_le h)) hk)).trans (h.old i hi hk)⟩
def RM (ρ:Val) (j:J):List ME→List MapEntry→Prop
 | [], l=>l= []
 | e::l,m=> ∃x m',m=x::m'∧R ρ j e.key x.key∧R ρ j e.val x.val∧x.born=e.born∧RM ρ j l m'
theorem RM.mono {ρ:Val} {j j':J} (h:Sub j j'): ∀ {l:List ME} {m:List MapEntry},RM ρ j l m→RM ρ j' l m
 | [], _,r=>r
 | _::_,_,r=>let ⟨x,m,e,a,b,c,d⟩:=r;⟨x,m,e,a.mono h,b.mono h,c,RM.mono h d⟩
def RK (ρ:Val) (j:J):List ME→List MapEntry→Prop
 | [], l=>l= []
 | e::l,m=> ∃x m',m=x::m'∧R ρ j e.key x.key∧R ρ j e.val x.val∧RK ρ j l m'
theorem RK.mono {ρ:Val} {j j':J} (h:Sub j j'): ∀ {l:List ME} {m:List MapEntry},RK ρ j l m→RK ρ j' l m
 | [], _,r=>r
 | _::_,_,r=>let ⟨x,m,e,a,b,d⟩:=r;⟨x,m,e,a.mono h,b.mono h,RK.mono h d⟩
def CZ (v:Value) (n:Int):Bool:=
 match v with
 | .int .i64 m=>m==n
 | _=>false
def dB (arr:Array MapEntry) (n:Int):Option Value:=(arr.toList.find? fun e=>CZ e.key n).map (·.val)
def nV (D:Int→Option Value):List (Int×Option Value)→Int→Option Value
 | [], n=>D n
 | e::l,n=>if n=e.1 then e.2 else nV D l n
def RO (ρ:Val) (j:J):Option AV→Option Value→Prop
 | none,o=>o=none
 | some a,o=> ∃v,o=some v∧R ρ j a v
def RX (ρ:Val) (j:J):List (AV×Option AV)→List (Int×Option Value)→Prop
 | [], l=>l= []
 | e::l,m=> ∃x o m',m=(x,o)::m'∧R ρ j e.1 (.int .i64 x)∧RO ρ j e.2 o∧RX ρ j l m'
theorem RO.mono {ρ:Val} {j j':J} (h:Sub j j'): ∀ {a:Option AV} {o:Option Value},RO ρ j a o→RO ρ j' a o
 | none,_,r=>r
 | some _,_,r=>let ⟨v,e,x⟩:=r;⟨v,e,x.mono h⟩
theorem RX.mono {ρ:Val} {j j':J} (h:Sub j j'): ∀ {l:List (AV×Option AV)} {m:List (Int×Option Value)},RX ρ j l m→RX ρ j' l m
 | [], _,r=>r
 | _::_,_,r=>let ⟨x,o,m,e,a,b,c⟩:=r;⟨x,o,m,e,a.mono h,b.mono h,RX.mono h c⟩
structure jE (arr:Array MapEntry):Prop where
 keys: ∀e∈arr.toList,∃n,e.key= .int .i64 n
 once:arr.toList.Pairwise fun a b=>a.key≠b.key
def kI (arr:Array MapEntry) (clock:Nat):Prop:=(∀e∈arr.toList,e.born<clock)∧(arr.toList.map (·.born)).Nodup
def pU (ρ:Val) (j:J) (arr:Array MapEntry) (e:AV×Option AV):Prop:=
 match e.1 with
 | .aH [s,k]=> ∃(x:Int) (b p:Nat) (ent:MapEntry),R ρ j s (.int .i64 b)∧R ρ j k (.int .i64 x)∧arr.toList.findIdx? (fun e=>(e.born:Int)==(b:Int))=some p∧arr.toList[p]? =some ent∧ent.key= .int .i64 x
 | _=>True
theorem pU.mono {ρ:Val} {j j':J} (h:Sub j j') {arr:Array MapEntry} {e:AV×Option AV} (r:pU ρ j arr e):pU ρ j' arr e:=by
 unfold pU at r ⊢;split at r
 ·obtain ⟨x,b,p,ent,h1,h2,h3⟩:=r;exact ⟨x,b,p,ent,h1.mono h,h2.mono h,h3⟩
 ·trivial
theorem Qn {ρ:Val} {j:J}: ∀ {l:List (AV×Option AV)} {m:List (Int×Option Value)},RX ρ j l m→uh l=l∧ ∀arr,∀e∈l,pU ρ j arr e
 | [], _,_=>⟨rfl,fun _ e h=>by cases h⟩
 | e::l,_,r=>by
  obtain ⟨x,o,m',rfl,h1,_,h3⟩:=r;obtain ⟨i1,i2⟩:=Qn h3;have ht: ∀l',e.1≠ .aH l':=fun l' he=>by
   rw [he] at h1;obtain ⟨_,h4,_⟩:=h1;cases h4
  have hf:O1 e.1=false:=by
   cases he:e.1<;>first|rfl|exact absurd he (ht _)
  refine ⟨by unfold uh;rw [hf];exact yaH _ i1,fun arr e' he'=> ?_⟩;rcases yac.1 he' with rfl|he'
  ·unfold pU;split
   ·rename_i he;exact absurd he (ht _)
   ·trivial
  ·exact i2 arr e' he'
def mY (ρ:Val) (j:J) (w0:Cx) (w:World) (gw:T Nat) (L:Loc):Obj→Prop
  | .cells v bH g closed _ own=>L.q=none∧
    (if own=true then w0.own L.blk else¬w0.own L.blk)∧
    (alive gw g closed=true→ ∃arr e fr,w.heap[L.blk]? =some (.cells arr e fr)∧L.off+v.n≤arr.size∧(L.off+L.cap*bH≤arr.size∧(0<L.cap→v.n≤L.cap*bH))∧
      ∀ i,i<v.n→ ∃x,arr[L.off+i]? =some x∧R ρ j (v.get i) x)
  | .map es clock=>L.q=none∧w0.own L.blk∧L.off=0∧ ∃arr,w.heap[L.blk]? =some (.map arr clock)∧RM ρ j es arr.toList
  | .iter m since seen stepped=>L.q=none∧w0.own L.blk∧L.off=0∧ ∃m' sa,w.heap[L.blk]? =some (.mapIter m' since sa stepped)∧sa.toList=seen∧
      (match m with|none=>m'=none|some n=> ∃Lm,j n=some Lm∧m'=some Lm.blk)
  | .rQ es=>L.q=none∧w0.own L.blk∧L.off=0∧ ∃arr clock es',w.heap[L.blk]? =some (.map arr clock)∧es'.Perm es∧RK ρ j es' arr.toList
  | .dm kn log=>L.q=none∧w0.own L.blk∧L.off=0∧ ∃arr clock dz eZ m0 m1,w.heap[L.blk]? =some (.map arr clock)∧w0.w.heap[L.blk]? =some (.map dz eZ)∧(jE arr∧kI arr clock∧ ∀e∈kn,pU ρ j arr e)∧
      RX ρ j (uh kn) m0∧RX ρ j log m1∧(∀x o,(x,o)∈m0→dB arr x=o)∧ ∀n,dB arr n=nV (dB dz) m1 n
  | .opq=>L.q≠none
  | .gs _=>False
def Sep (H:Heap) (n m:Nat) (Ln Lm:Loc):Prop:=
 ∃ vn en gn cn sn on vm em gm cm sm om,H.m.get n=some (.cells vn en gn cn sn on)∧H.m.get m=some (.cells vm em gm cm sm om)∧on=om∧
  (on=true→gn=gm∧(alive H.gw gn cn=true→alive H.gw gm cm=true→cn=none→sn=true∧cm≠none∧Lm.off+vm.n≤Ln.off+vn.n))
structure Inv (ρ:Val) (w0:Cx) (j:J) (H:Heap) (w:World):Prop where
 fr:Fr w0 w
 dom: ∀n L,j n=some L→n<H.nx
 blk: ∀n L,j n=some L→L.q=none→L.blk<w.heap.size
 used: ∀n o,H.m.get n=some o→n<H.nx
 obj: ∀n L,j n=some L→ ∃o,H.m.get n=some o∧mY ρ j w0 w H.gw L o
 sep: ∀n m Ln Lm,n≠m→j n=some Ln→j m=some Lm→Ln.q=none→Lm.q=none→Ln.blk=Lm.blk→Sep H n m Ln Lm
 oZ: ∀n v e g t sh ow,H.m.get n=some (.cells v e g (some t) sh ow)→t≤H.nx
 ni: ∀g x,H.gw.get g=some x→x≤H.nx
 kC: ∀n L v e g c sh,j n=some L→H.m.get n=some (.cells v e g c sh true)→ ∃Lg,j g=some Lg
 fz: ∀n L,j n=some L→L.q=none→w0.own L.blk→ ∀c e fr,w.heap[L.blk]? =some (.cells c e fr)→fr=(0,0)
 lH: ∀n L v e c sh,j n=some L→H.m.get n=some (.cells v e n c sh true)→L.off=0
 n0:j 0=none
 jv:0<H.nx
 z0: ∀o,H.m.get 0=some o→ ∃k,o= .gs k
 fO:w0.G H.gs j w
theorem mY.plain {ρ:Val} {j:J} {w0:Cx} {w:World} {gw:T Nat} {L:Loc} {o:Obj} (h:mY ρ j w0 w gw L o) (ho:o≠ .opq):L.q=none:=by
 cases o with
 | cells=>exact h.1
 | map=>exact h.1
 | iter=>exact h.1
 | rQ=>exact h.1
 | dm=>exact h.1
 | opq=>exact absurd rfl ho
 | gs=>exact h.elim
structure St (j:J) (H:Heap) (j':J) (H':Heap):Prop where
 sub:Sub j j'
 fresh: ∀n L,j' n=some L→j n=none→H.nx≤n
 keep: ∀n,0<n→j n=none→n<H.nx→H'.m.get n=H.m.get n∧H'.gw.get n=H.gw.get n
 nx:H.nx≤H'.nx
theorem St.refl (j:J) (H:Heap):St j H j H:=⟨Sub.refl j,(fun n L h h'=>by rw [h] at h';cases h'),fun _ _ _ _=>⟨rfl,rfl⟩,yab _⟩
theorem St.trans {j j' Ef:J} {H H' Sd:Heap} (h:St j H j' H') (h':St j' H' Ef Sd):St j H Ef Sd:=by
 refine ⟨h.sub.trans h'.sub,fun n L e e0=> ?_,fun n hp e hn=> ?_,yau h.nx h'.nx⟩
 ·cases e1:j' n with
  | none=>exact yau h.nx (h'.fresh n L e e1)
  | some L'=>exact h.fresh n L' e1 e0
 ·have e1:j' n=none:=by
   cases e1:j' n with
   | none=>rfl
   | some L'=>have:=h.fresh n L' e1 e;omega
  have a:=h.keep n hp e hn;have b:=h'.keep n hp e1 (yad hn h.nx);exact ⟨b.1.trans a.1,b.2.trans a.2⟩
theorem Heap.alloc_eq (H:Heap) (o:Obj):H.alloc o=⟨H.m.set H.nx o,H.nx+1,H.gw⟩:=by
 obtain ⟨m,nx,gw⟩:=H;show (match m.set nx o with| .leaf=>(⟨.leaf,nx+1,gw⟩:Heap)| .node a b c=>qJ (nx+1) fun x=>⟨.node a b c,x,gw⟩)=_;cases m.set nx o<;>simp [vJ]
theorem Heap.nZ (H:Heap) (n:Nat) (o:Obj):H.upd n o=⟨H.m.set n o,H.nx,H.gw⟩:=by
 obtain ⟨m,nx,gw⟩:=H;show (match m.set n o with| .leaf=>(⟨.leaf,nx,gw⟩:Heap)| .node a b c=>⟨.node a b c,nx,gw⟩)=_;cases m.set n o<;>rfl
theorem Heap.Vl (H:Heap) (g:Nat):H.wrote g=⟨H.m,H.nx,H.gw.set g H.nx⟩:=rfl
end Go.Dw
namespace Go.Dw
section
variable {ρ:Val} {w0:Cx} {j:J} {H:Heap} {w:World}
def iZ (j:J) (n:Nat) (L:Loc):J:=fun k=>if k=n then some L else j k
theorem lN (j:J) (n:Nat) (L:Loc):iZ j n L n=some L:=by simp [iZ]
theorem lM (j:J) {n k:Nat} (L:Loc) (h:k≠n):iZ j n L k=j k:=by simp [iZ,h]
theorem qB {j:J} {n:Nat} {L:Loc} (h:j n=none):Sub j (iZ j n L):=fun k L' e=>by
 by_cases hk:k=n
 ·subst hk;rw [h] at e;cases e
 ·rw [lM j L hk];exact e
theorem Gb (H:Heap) (o:Obj) {n:Nat} (hn:n≠0) {nx:Nat} {gw:T Nat}:Heap.gs ⟨H.m.set n o,nx,gw⟩=H.gs:=by
 unfold Heap.gs;rw [show (H.m.set n o).get 0=H.m.get 0 from T.jm _ _ (ydk hn)]
theorem Inv.tQ (h:Inv ρ w0 j H w) {n:Nat} {L:Loc} (hj:j n=some L):n≠0:=fun e=>by
 subst e;rw [h.n0] at hj;cases hj
theorem Inv.IU (h:Inv ρ w0 j H w) {n:Nat} (hn:n≠0) (o:Obj): ∀o',(H.m.set n o).get 0=some o'→ ∃k,o'= .gs k:=fun o' e=>by
 rw [show (H.m.set n o).get 0=H.m.get 0 from T.jm _ _ (ydk hn)] at e;exact h.z0 o' e
theorem Inv.q (h:Inv ρ w0 j H w) {n:Nat} {L:Loc} {o:Obj} (hj:j n=some L) (hm:H.m.get n=some o) (ho:o≠ .opq):L.q=none:=by
 obtain ⟨o',h1,h2⟩:=h.obj n L hj;rw [hm] at h1;cases h1;exact h2.plain ho
theorem Inv.lJ (h:Inv ρ w0 j H w) {n:Nat} {L:Loc} {v:Vec} {e g:Nat} {c:Option Nat} {s ow:Bool} (hj:j n=some L) (hm:H.m.get n=some (.cells v e g c s ow)):L.q=none:=h.q hj hm (by intro e;cases e)
theorem Inv.uK (h:Inv ρ w0 j H w) {j':J} {w':World} (hs:Sub j j') (h1:w.heap.size≤w'.heap.size) (h2: ∀b,b<w.heap.size→ ¬Mine j b→w'.heap[b]? =w.heap[b]?) (h3: ∀b,Mine j' b→Mine j b∨w.heap.size≤b):w0.G H.gs j' w':=w0.abz _ _ _ _ _ h.fO hs h1 h2 h3
theorem Inv.extend (h:Inv ρ w0 j H w) (o:Obj) (ho: ∀v e g t sh ow,o= .cells v e g (some t) sh ow→t≤H.nx+1):Inv ρ w0 j (H.alloc o) w:=by
 rw [Heap.alloc_eq];have old: ∀n L,j n=some L→(H.m.set H.nx o).get n=H.m.get n:=fun n L e=>T.jm _ _ (by have:=h.dom n L e;omega);refine ⟨h.fr,fun n L e=>ydl (h.dom n L e),h.blk,fun n o' e=> ?_,fun n L e=> ?_,fun n m Ln Lm hne e1 e2 q1 q2 hb=> ?_,fun n v e g t sh ow he=> ?_,fun g x e=>ycA (h.ni g x e),fun n L v e g c sh e1 e2=> ?_,h.fz,fun n L v e c sh e1 e2=>h.lH n L v e c sh e1 (by rw [←old n L e1];exact e2),h.n0,ydp _,h.IU (by have:=h.jv;omega) o,?_⟩
 ·show n<H.nx+1;rw [show (H.m.set H.nx o).get n=if n=H.nx then some o else H.m.get n from T.lZ _ _ _ _] at e;split at e
  ·omega
  ·have:=h.used n o' e;omega
 ·obtain ⟨o',h1,h2⟩:=h.obj n L e;exact ⟨o',by rw [old n L e];exact h1,h2⟩
 ·obtain ⟨vn,en,gn,cn,sn,on,vm,em,gm,cm,sm,om,h1,h2,h3⟩:=h.sep n m Ln Lm hne e1 e2 q1 q2 hb;exact ⟨vn,en,gn,cn,sn,on,vm,em,gm,cm,sm,om,by rw [old n Ln e1];exact h1,by rw [old m Lm e2];exact h2,h3⟩
 ·show t≤H.nx+1;rw [show (H.m.set H.nx o).get n=if n=H.nx then some o else H.m.get n from T.lZ _ _ _ _] at he;split at he
  ·exact ho _ _ _ _ _ _ (yaC he)
  ·have:=h.oZ n v e g t sh ow he;omega
 ·rw [old n L e1] at e2;exact h.kC n L v e g c sh e1 e2
 ·rw [Gb H _ (by have:=h.jv;omega)];exact h.fO
theorem St.extend (h:Inv ρ w0 j H w) (o:Obj):St j H j (H.alloc o):=by
 rw [Heap.alloc_eq];refine ⟨Sub.refl j,(fun n L e e'=>by rw [e] at e';cases e'),fun n _ _ hn=>⟨?_,rfl⟩,Nat.le_succ _⟩;show (H.m.set H.nx o).get n=_;exact T.jm _ _ (by omega)
def wh (ρ:Val) (j:J) (o:Obj) (ob:Go.Obj) (c:Nat):Prop:=
 match o with
 | .cells v bH _ closed _ own=>own=true∧closed=none∧ ∃arr e,ob= .cells arr e (0,0)∧v.n≤arr.size∧(c*bH≤arr.size∧(0<c→v.n≤c*bH))∧ ∀i,i<v.n→ ∃x,arr[i]? =some x∧R ρ j (v.get i) x
 | .map es clock=>c=0∧ ∃arr,ob= .map arr clock∧RM ρ j es arr.toList
 | .iter m since seen stepped=>c=0∧ ∃m' sa,ob= .mapIter m' since sa stepped∧sa.toList=seen∧(match m with|none=>m'=none|some n=> ∃Lm,j n=some Lm∧m'=some Lm.blk)
 | .rQ es=>c=0∧ ∃arr clock es',ob= .map arr clock∧es'.Perm es∧RK ρ j es' arr.toList
 | .dm _ _=>False
 | .opq=>False
 | .gs _=>False
theorem mY.grow {o:Obj} {L:Loc} {gw:T Nat} {j':J} {w':World} (hs:Sub j j') (hw:L.q=none→w'.heap[L.blk]? =w.heap[L.blk]?) (h:mY ρ j w0 w gw L o):mY ρ j' w0 w' gw L o:=by
 cases o with
 | cells v bH g closed sh own=>
  obtain ⟨h0,h1,h2⟩:=h;have hw:=hw h0;refine ⟨h0,h1,fun ha=> ?_⟩;obtain ⟨arr,e,fr,h3,h4,h5,h6⟩:=h2 ha;exact ⟨arr,e,fr,hw▸h3,h4,h5,fun i hi=>let ⟨x,h7,h8⟩:=h6 i hi;⟨x,h7,h8.mono hs⟩⟩
 | map es clock=>
  obtain ⟨h0,h1,h2,arr,h3,h4⟩:=h;have hw:=hw h0;exact ⟨h0,h1,h2,arr,hw▸h3,h4.mono hs⟩
 | iter m since seen stepped=>
  obtain ⟨h0,h1,h2,m',sa,h3,h4,h5⟩:=h;have hw:=hw h0;refine ⟨h0,h1,h2,m',sa,hw▸h3,h4,?_⟩;cases m with
  | none=>exact h5
  | some n=>obtain ⟨Lm,e,x⟩:=h5;exact ⟨Lm,hs _ _ e,x⟩
 | rQ es=>
  obtain ⟨h0,h1,h2,arr,clock,es',h3,h4,h5⟩:=h;have hw:=hw h0;exact ⟨h0,h1,h2,arr,clock,es',hw▸h3,h4,h5.mono hs⟩
 | dm kn log=>
  obtain ⟨h0,h1,h2,arr,clock,dz,eZ,m0,m1,h3,h4,h5,h6,h7,h8⟩:=h;have hw:=hw h0;exact ⟨h0,h1,h2,arr,clock,dz,eZ,m0,m1,hw▸h3,h4,⟨h5.1,h5.2.1,fun e he=>(h5.2.2 e he).mono hs⟩,h6.mono hs,h7.mono hs,h8⟩
 | opq=>exact h
 | gs k=>exact h.elim
theorem Inv.Ma (h:Inv ρ w0 j H w) {n:Nat} {o:Obj} {ob:Go.Obj} {c:Nat} (hn:H.m.get n=some o) (hj:j n=none) (hnew:wh ρ j o ob c)
  (hg: ∀v e g cl sh,o= .cells v e g cl sh true→g=n∨ ∃Lg,j g=some Lg):
  Inv ρ w0 (iZ j n ⟨w.heap.size,0,c,none⟩) H { w with heap:=w.heap.push ob }:=by
 have hsub:=qB (L:=⟨w.heap.size,0,c,none⟩) hj;have hold: ∀i,i<w.heap.size→(w.heap.push ob)[i]? =w.heap[i]? :=fun i hi=>by
  rw [Array.getElem?_push];rw [yai (by omega)]
 have hne: ∀k L,j k=some L→k≠n:=fun k L e hk=>by subst hk;rw [hj] at e;cases e
 have hback: ∀k L,iZ j n ⟨w.heap.size,0,c,none⟩ k=some L→(k=n∧L=⟨w.heap.size,0,c,none⟩)∨(k≠n∧j k=some L):=fun k L e=>by
  by_cases hk:k=n
  ·subst hk;rw [lN] at e;exact .inl ⟨rfl,(yaC e).symm⟩
  ·rw [lM _ _ hk] at e;exact .inr ⟨hk,e⟩
 have hfr:Fr w0 { w with heap:=w.heap.push ob }:=h.fr.then rfl rfl rfl (by simp) (fun i hi _=>hold i hi)
 refine ⟨hfr,fun k L e=> ?_,fun k L e q=> ?_,h.used,fun k L e=> ?_,fun k m Lk Lm hkm e1 e2 q1 q2 hb=> ?_,h.oZ,h.ni,fun k L v e g cl sh e1 e2=> ?_,fun k L hjk hq hi cs e fr he=> ?_,fun k L v e cl sh e1 e2=>(hback k L e1).elim (fun x=>x.2▸rfl) (fun x=>h.lH k L v e cl sh x.2 e2),?_,h.jv,h.z0,?_⟩
 ·rcases hback k L e with ⟨rfl,_⟩|⟨_,e⟩
  ·exact h.used _ _ hn
  ·exact h.dom k L e
 ·show L.blk<(w.heap.push ob).size;rcases hback k L e with ⟨_,rfl⟩|⟨_,e⟩
  ·simp
  ·have:=h.blk k L e q;simp;omega
 ·rcases hback k L e with ⟨rfl,rfl⟩|⟨_,e⟩
  ·refine ⟨o,hn,?_⟩;have hown:w0.own w.heap.size:=Or.inl h.fr.size;have H7:(w.heap.push ob)[w.heap.size]? =some ob:=by simp
   cases o with
   | cells v bH g cl sh own=>
    obtain ⟨ho,_,arr,e',rfl,h1,h2,h3⟩:=hnew;refine ⟨rfl,by rw [yak ho];exact hown,fun _=>⟨arr,e',(0,0),H7,by simpa using h1,⟨by simpa using h2.1,h2.2⟩,fun i hi=> ?_⟩⟩;obtain ⟨x,h4,h5⟩:=h3 i hi;exact ⟨x,by simpa using h4,h5.mono hsub⟩
   | map es clock=>
    obtain ⟨_,arr,rfl,h1⟩:=hnew;exact ⟨rfl,hown,rfl,arr,H7,h1.mono hsub⟩
   | iter m since seen stepped=>
    obtain ⟨_,m',sa,rfl,h1,h2⟩:=hnew;refine ⟨rfl,hown,rfl,m',sa,H7,h1,?_⟩;cases m with
    | none=>exact h2
    | some n=>obtain ⟨Lm,e,x⟩:=h2;exact ⟨Lm,hsub _ _ e,x⟩
   | rQ es=>
    obtain ⟨_,arr,clock,es',rfl,h1,h2⟩:=hnew;exact ⟨rfl,hown,rfl,arr,clock,es',H7,h1,h2.mono hsub⟩
   | dm=>exact hnew.elim
   | opq=>exact hnew.elim
   | gs=>exact hnew.elim
  ·obtain ⟨o',h1,h2⟩:=h.obj k L e;exact ⟨o',h1,mY.grow hsub (fun q=>hold _ (h.blk k L e q)) h2⟩
 ·rcases hback k Lk e1 with ⟨rfl,rfl⟩|⟨_,e1⟩<;>rcases hback m Lm e2 with ⟨rfl,rfl⟩|⟨_,e2⟩
  ·exact absurd rfl hkm
  ·rename_i e2;have:=h.blk m Lm e2 q2;rw [←hb] at this;exact absurd this (ybW _)
  ·rename_i e1 _;have:=h.blk k Lk (by assumption) q1;rw [hb] at this;exact absurd this (ybW _)
  ·exact h.sep k m Lk Lm hkm (by assumption) (by assumption) q1 q2 hb
 ·rcases hback k L e1 with ⟨rfl,rfl⟩|⟨_,e1⟩
  ·rw [hn] at e2;rcases hg _ _ _ _ _ (yaC e2) with rfl|⟨Lg,e3⟩
   ·exact ⟨_,lN _ _ _⟩
   ·exact ⟨Lg,hsub _ _ e3⟩
  ·obtain ⟨Lg,e3⟩:=h.kC k L v e g cl sh e1 e2;exact ⟨Lg,hsub _ _ e3⟩
 ·have he:(w.heap.push ob)[L.blk]? =some (.cells cs e fr):=he;rcases hback k L hjk with ⟨rfl,rfl⟩|⟨_,hjk⟩
  ·rw [show (w.heap.push ob)[w.heap.size]? =some ob by simp] at he;cases o with
   | cells v bH g cl sh own=>
    obtain ⟨_,_,arr,e',rfl,_⟩:=hnew;cases he;rfl
   | map es clock=>obtain ⟨_,arr,rfl,_⟩:=hnew;cases he
   | iter m since seen stepped=>obtain ⟨_,m',sa,rfl,_⟩:=hnew;cases he
   | rQ es=>obtain ⟨_,arr,clock,es',rfl,_⟩:=hnew;cases he
   | dm=>exact hnew.elim
   | opq=>exact hnew.elim
   | gs=>exact hnew.elim
  ·rw [hold _ (h.blk k L hjk hq)] at he;exact h.fz k L hjk hq hi cs e fr he
 ·by_cases hk:0=n
  ·rw [←hk] at hn;obtain ⟨kk,rfl⟩:=h.z0 _ hn;exact hnew.elim
  ·rw [lM _ _ hk];exact h.n0
 ·refine h.uK hsub (by simp) (fun b hb _=>hold b hb) (fun b hb=> ?_);obtain ⟨k,L,e,q,rfl⟩:=hb;rcases hback k L e with ⟨_,rfl⟩|⟨_,e⟩
  ·exact Or.inr (yab _)
  ·exact Or.inl ⟨k,L,e,q,rfl⟩
theorem Inv.alloc (h:Inv ρ w0 j H w) {o:Obj} {ob:Go.Obj} {c:Nat} (hnew:wh ρ j o ob c)
  (hg: ∀v e g cl sh,o= .cells v e g cl sh true→g=H.nx∨ ∃Lg,j g=some Lg):
  Inv ρ w0 (iZ j H.nx ⟨w.heap.size,0,c,none⟩) (H.alloc o) { w with heap:=w.heap.push ob }∧St j H (iZ j H.nx ⟨w.heap.size,0,c,none⟩) (H.alloc o):=by
 have hj:j H.nx=none:=by
  cases e:j H.nx with
  | none=>rfl
  | some L=>exact absurd (h.dom _ _ e) (ybW _)
 have h1:=h.extend o (fun v e g t sh ow ho=>by
  subst ho;obtain ⟨_,hc,_⟩:=hnew;cases hc)
 have hn:(H.alloc o).m.get H.nx=some o:=by rw [Heap.alloc_eq];exact T.get_set_same _ _ _
 refine ⟨h1.Ma hn hj hnew hg,qB hj,fun n L e e0=> ?_,(St.extend h o).keep,(St.extend h o).nx⟩;by_cases hk:n=H.nx
 ·omega
 ·rw [lM _ _ hk,e0] at e;cases e
theorem zFG {n:Nat} {v:Vec} (h:H.row n=some v): ∃e g c sh ow,H.m.get n=some (.cells v e g c sh ow)∧alive H.gw g c=true:=by
 unfold Heap.row at h;split at h
 ·split at h
  ·rename_i hm _ ha;cases h;exact ⟨_,_,_,_,_,hm,ha⟩
  ·cases h
 ·cases h
theorem Inv.row (h:Inv ρ w0 j H w) {n:Nat} {L:Loc} {v:Vec} (hj:j n=some L) (hr:H.row n=some v):
  ∃ arr e fr,w.heap[L.blk]? =some (.cells arr e fr)∧L.off+v.n≤arr.size∧ ∀i,i<v.n→ ∃x,arr[L.off+i]? =some x∧R ρ j (v.get i) x:=by
 obtain ⟨e,g,c,sh,ow,hm,ha⟩:=zFG hr;obtain ⟨o,h1,h2⟩:=h.obj n L hj;rw [hm] at h1;cases h1;obtain ⟨arr,e,fr,h3,h4,_,h5⟩:=h2.2.2 ha;exact ⟨arr,e,fr,h3,h4,h5⟩
theorem Inv.cell (h:Inv ρ w0 j H w) {n off:Nat} {L:Loc} {v:Vec} (hj:j n=some L) (hr:H.row n=some v) (ho:off<v.n):
  ∃ x,w.cell? ⟨L.blk,L.off+off,none⟩=some x∧R ρ j (v.get off) x:=by
 obtain ⟨arr,e,fr,h1,_,h3⟩:=h.row hj hr;obtain ⟨x,h4,h5⟩:=h3 off ho;exact ⟨x,by simp [World.cell?,h1,h4],h5⟩
theorem addr_add (b o i:Nat):(⟨b,o,none⟩:Addr).add i=⟨b,o+i,none⟩:=by unfold Addr.add;split<;>simp_all
theorem Inv.loadCells {P:Program} (h:Inv ρ w0 j H w) {n off k:Nat} {L:Loc} {v:Vec} (hj:j n=some L) (hr:H.row n=some v) (ho:off+k≤v.n):
  ∃ xs:List Value,(Go.loadCells ⟨L.blk,L.off+off,none⟩ k).run P w= .ok xs.toArray w∧RL ρ j (v.list off k) xs:=by
 have hc: ∀i,i<k→ ∃x,w.cell? ⟨L.blk,L.off+off+i,none⟩=some x∧R ρ j (v.get (off+i)) x:=fun i hi=>by
  have:=h.cell hj hr (off:=off+i) (by omega)
  rwa [←ybh] at this
 let f:Nat→Value:=fun i=>(w.cell? ⟨L.blk,L.off+off+i,none⟩).getD undef
 refine ⟨(List.range k).map f,run_loadCells w _ k f fun i hi=> ?_,RL.BG (by simp [Vec.rM]) fun i a ha=> ?_⟩
 ·obtain ⟨x,h1,_⟩:=hc i hi;rw [addr_add,h1];simp [f,h1]
 ·have hi:i<k:=by
   rcases ybT i k with h'|h'
   ·exact h'
   ·rw [yaZ (by rw [Vec.rM];exact h')] at ha;cases ha
  rw [Vec.AX k v off i hi] at ha;obtain ⟨x,h1,h2⟩:=hc i hi;refine ⟨x,by simp [hi,f,h1],?_⟩;rw [←yaC ha];exact h2
theorem zzw (gw:T Nat) (g x g':Nat) (c:Option Nat) (h:alive (gw.set g x) g' c=true) (hx: ∀y,gw.get g=some y→y≤x):alive gw g' c=true:=by
 unfold alive at*;cases c with
 | none=>rfl
 | some t=>
  simp only at*;by_cases hg:g'=g
  ·subst hg;rw [T.get_set_same] at h;simp only [yaE] at h;cases e:gw.get g' with
   | none=>rfl
   | some y=>simp only [yaE];have:=hx y e;omega
  ·rw [T.jm _ _ hg] at h;exact h
theorem Inv.stored (h:Inv ρ w0 j H w) {n off:Nat} {L:Loc} {v:Vec} {bH g:Nat} {sh:Bool} {l:List AV} {vs:List Value} {AY:T Nat} (hj:j n=some L)
  (hm:H.m.get n=some (.cells v bH g none sh true)) (hl:off+l.length≤v.n) (hc:zX l=true) (hr:RL ρ j l vs)
  (hA: ∀g' c,alive AY g' c=true→alive H.gw g' c=true)
  (hB: ∀m Lm vm em gm cm sm om,m≠n→j m=some Lm→Lm.blk=L.blk→H.m.get m=some (.cells vm em gm cm sm om)→alive AY gm cm=false)
  (hC: ∀g x,AY.get g=some x→x≤H.nx) (P:Program):
  ∃ w',(storeCells ⟨L.blk,L.off+off,none⟩ vs).run P w= .ok () w'∧Inv ρ w0 j ⟨H.m.set n (.cells (v.put off l) bH g none false true),H.nx,AY⟩ w':=by
 obtain ⟨o,h1,h2⟩:=h.obj n L hj;rw [hm] at h1;cases h1;obtain ⟨hq,hbase,hcont⟩:=h2;rw [yak rfl] at hbase;obtain ⟨arr,e,fr,hb,hs1,hs2,hcells⟩:=hcont rfl;have hfr:=h.fz _ _ hj hq hbase _ _ _ hb;subst hfr;have hlen:=hr.length;have hrun:=ydy (P:=P) L.blk (L.off+off) e vs 0 arr w hb (by omega) (QV hr hc);refine ⟨_,hrun,?_⟩;generalize Dx:(arr.toList.take (L.off+off+0)++vs++arr.toList.drop (L.off+off+0+vs.length)).toArray=arr';have hsz:arr'.size=arr.size:=by rw [←Dx];simp;omega
 have hget: ∀k,arr'[k]? =if L.off+off≤k∧k<L.off+off+vs.length then vs[k-(L.off+off)]? else arr[k]? :=fun k=>by
  rw [←Dx];simp only [ya7,yaz];by_cases hk:k<L.off+off
  ·rw [yai (by omega),ybQ,yaX (by simp;omega),yby hk];simp
  ·by_cases hk2:k<L.off+off+vs.length
   ·rw [yak (by omega),ybQ,yaY (by simp;omega),yaX (by simp;omega)];congr 1;simp;omega
   ·rw [yai (by omega),yaY (by simp;omega),yb7];simp only [yaQ,ybz,ybc,ybx];congr 1;omega
 have hset:=setRow_heap w L.blk arr arr' e (0,0) hb;have hoth: ∀k,k≠L.blk→(w.setRow L.blk arr').heap[k]? =w.heap[k]? :=fun k hk=>setRow_other w L.blk k arr' hk;have hold: ∀k,k≠n→(H.m.set n (.cells (v.put off l) bH g none false true)).get k=H.m.get k:=fun k hk=>T.jm _ _ hk;refine ⟨h.fr.then (by simp) (by simp) rfl (by simp) (fun i _ ho=>hoth i (fun e=>ho (e▸hbase))),h.dom,fun k Lk e q=>by simpa using h.blk k Lk e q,fun k o' e=> ?_,fun k Lk e=> ?_,fun k m Lk Lm hkm e1 e2 q1 q2 hbk=> ?_,fun k v' e' g' t sh' ow he=> ?_,hC,fun k Lk v' e' g' c sh' e1 e2=> ?_,fun k Lk hjk hqk hi c e' fr he=> ?_,fun k Lk v' e' c sh' e1 e2=> ?_,h.n0,h.jv,h.IU (h.tQ hj) _,?_⟩
 ·by_cases hk:k=n
  ·subst hk;exact h.dom _ _ hj
  ·rw [hold k hk] at e;exact h.used k o' e
 ·by_cases hk:k=n
  ·subst hk;rw [hj] at e;cases e;refine ⟨_,T.get_set_same _ _ _,hq,by rw [yak rfl];exact hbase,fun _=>⟨arr',e,(0,0),hset,by rw [Vec.BD,hsz];exact hs1,⟨by rw [hsz];exact hs2.1,by rw [Vec.BD];exact hs2.2⟩,fun i hi=> ?_⟩⟩;rw [Vec.BD] at hi;rw [hget,Vec.get_put];by_cases hin:off≤i∧i<off+l.length
   ·rw [yak (by omega),ydC hin];obtain ⟨x,h3,h4⟩:=hr.get (i-off) _ (yam (by omega));exact ⟨x,by rw [←h3];congr 1;omega,h4⟩
   ·rw [yai (by omega),ydD hin];exact hcells i hi
  ·obtain ⟨o',h3,h4⟩:=h.obj k Lk e;refine ⟨o',by rw [hold k hk];exact h3,?_⟩;by_cases hqk:Lk.q=none
   case neg=>
    cases o' with
    | opq=>exact h4
    | gs=>exact h4.elim
    | _=>exact absurd h4.1 hqk
   by_cases hbk:Lk.blk=L.blk
   ·obtain ⟨vn,en,gn,cn,sn,on,vm,em,gm,cm,sm,om,h5,h6,_⟩:=h.sep k n Lk L hk e hj hqk hq hbk;rw [h3] at h5;cases h5;refine ⟨h4.1,h4.2.1,fun ha=> ?_⟩;rw [hB k Lk vn en gn cn sn on hk e hbk h3] at ha;cases ha
   ·have hw:=hoth _ hbk;cases o' with
    | cells v' aaj g' c' sh' ow'=>exact ⟨h4.1,h4.2.1,fun ha=>let ⟨a1,a2,a3,a4,a5⟩:=h4.2.2 (hA _ _ ha);⟨a1,a2,a3,by rw [hw];exact a4,a5⟩⟩
    | map es clock=>obtain ⟨a0,a1,a2,a3,a4,a5⟩:=h4;exact ⟨a0,a1,a2,a3,by rw [hw];exact a4,a5⟩
    | iter m since seen stepped=>obtain ⟨a0,a1,a2,a3,a4,a5,a6⟩:=h4;exact ⟨a0,a1,a2,a3,a4,by rw [hw];exact a5,a6⟩
    | rQ es=>obtain ⟨a0,a1,a2,a3,a4,a5,a6⟩:=h4;exact ⟨a0,a1,a2,a3,a4,a5,by rw [hw];exact a6⟩
    | dm kn log=>obtain ⟨a0,a1,a2,a3,a4,a5,a6,a7,a8,a9,L8⟩:=h4;exact ⟨a0,a1,a2,a3,a4,a5,a6,a7,a8,by rw [hw];exact a9,L8⟩
    | opq=>exact h4
    | gs=>exact h4.elim
 ·obtain ⟨vn,en,gn,cn,sn,on,vm,em,gm,cm,sm,om,h3,h4,h5,h6⟩:=h.sep k m Lk Lm hkm e1 e2 q1 q2 hbk;by_cases hk:k=n
  ·subst hk;have hmk:m≠k:=fun h'=>hkm h'.symm;rw [hj] at e1;cases e1;rw [hm] at h3;cases h3;refine ⟨_,_,_,_,_,_,vm,em,gm,cm,sm,om,T.get_set_same _ _ _,by rw [hold m hmk];exact h4,h5,fun ho=>⟨(h6 ho).1,fun _ ha=> ?_⟩⟩;rw [hB m Lm vm em gm cm sm om hmk e2 hbk.symm h4] at ha;cases ha
  ·by_cases hmn:m=n
   ·subst hmn;rw [hj] at e2;cases e2;rw [hm] at h4;cases h4;refine ⟨vn,en,gn,cn,sn,on,_,_,_,_,_,_,by rw [hold k hk];exact h3,T.get_set_same _ _ _,h5,fun ho=>⟨(h6 ho).1,fun ha=> ?_⟩⟩;rw [hB k Lk vn en gn cn sn on hk e1 hbk h3] at ha;cases ha
   ·exact ⟨vn,en,gn,cn,sn,on,vm,em,gm,cm,sm,om,by rw [hold k hk];exact h3,by rw [hold m hmn];exact h4,h5,fun ho=>⟨(h6 ho).1,fun a1 a2=>(h6 ho).2 (hA _ _ a1) (hA _ _ a2)⟩⟩
 ·by_cases hk:k=n
  ·subst hk;rw [T.get_set_same] at he;cases he
  ·rw [hold k hk] at he;exact h.oZ k v' e' g' t sh' ow he
 ·by_cases hk:k=n
  ·subst hk;rw [T.get_set_same] at e2;cases e2;exact h.kC k Lk _ _ _ _ _ e1 hm
  ·rw [hold k hk] at e2;exact h.kC k Lk v' e' g' c sh' e1 e2
 ·by_cases hi2:Lk.blk=L.blk
  ·rw [hi2] at he;rw [hset] at he;cases he;rfl
  ·rw [hoth _ hi2] at he;exact h.fz k Lk hjk hqk hi c e' fr he
 ·by_cases hk:k=n
  ·subst hk;rw [T.get_set_same] at e2;cases e2;exact h.lH _ Lk _ _ _ _ e1 hm
  ·rw [hold k hk] at e2;exact h.lH k Lk v' e' c sh' e1 e2
 ·rw [Gb H _ (h.tQ hj)];exact h.uK (Sub.refl j) (by simp) (fun b _ hb=>hoth b (fun e=>hb ⟨n,L,hj,hq,e.symm⟩)) (fun b hb=>Or.inl hb)
theorem Inv.store (h:Inv ρ w0 j H w) {n off:Nat} {L:Loc} {l:List AV} {vs:List Value} {H':Heap} (hst:H.store n off l=some H') (hj:j n=some L) (hr:RL ρ j l vs) (P:Program):
    ∃ w',(storeCells ⟨L.blk,L.off+off,none⟩ vs).run P w= .ok () w'∧Inv ρ w0 j H' w'∧St j H j H':=by
  unfold Heap.store at hst;split at hst
  case h_2=>cases hst
  rename_i v bH g sh hm;split at hst
  case h_2=>cases hst
  rename_i hle hc;have hle:off+l.length≤v.n:=yal hle;have hgs:=h.kC n L v bH g none sh hj hm;have hne: ∀k,j k=none→k≠n:=fun k e hk=>by subst hk;rw [hj] at e;cases e
  split at hst
  · cases hst;obtain ⟨w',h1,h2⟩:=h.stored hj hm hle hc hr (AY:=H.gw) (fun _ _ x=>x) (fun m Lm vm em gm cm sm om hmn e hb hmm=>by
      obtain ⟨vn,en,gn,cn,sn,on,Vk,GR,SN,Sn,sm',UH,h3,h4,h5,h6⟩:=h.sep n m L Lm (fun h'=>hmn h'.symm) hj e (h.lJ hj hm) (h.lJ e hmm) hb.symm;rw [hm] at h3;cases h3;rw [hmm] at h4;cases h4;cases ha:alive H.gw gm cm with
      | false=>rfl
      | true=>exact absurd ((h6 rfl).2 rfl ha rfl).1 (by simp)) h.ni P
    refine ⟨w',h1,by rw [Heap.nZ];exact h2,?_⟩;rw [Heap.nZ];exact ⟨Sub.refl j,(fun k L e e'=>by rw [e] at e';cases e'),fun k _ e _=>⟨T.jm _ _ (hne k e),rfl⟩,yab _⟩
  · cases hst;obtain ⟨w',h1,h2⟩:=h.stored hj hm hle hc hr (AY:=H.gw.set g H.nx) (fun g' c x=>zzw _ _ _ _ _ x (fun y hy=>h.ni g y hy)) (fun m Lm vm em gm cm sm om hmn e hb hmm=>by
      obtain ⟨vn,en,gn,cn,sn,on,Vk,GR,SN,Sn,sm',UH,h3,h4,h5,h6⟩:=h.sep n m L Lm (fun h'=>hmn h'.symm) hj e (h.lJ hj hm) (h.lJ e hmm) hb.symm;rw [hm] at h3;cases h3;rw [hmm] at h4;cases h4;obtain ⟨rfl,h7⟩:=h6 rfl;cases cm with
      | none=>exact absurd rfl (h7 rfl rfl rfl).2.1
      | some t=>
        have:=h.oZ m vm em g t sm _ hmm;simp only [alive,T.get_set_same];cases hx:Nat.blt H.nx t with
        | false=>rfl
        | true=>rw [yaE] at hx;omega)
      (fun g' x e=>by
        by_cases hg:g'=g
        · subst hg;rw [T.get_set_same] at e;cases e;exact yab _
        · rw [T.jm _ _ hg] at e;exact h.ni g' x e) P
    refine ⟨w',h1,by rw [Heap.Vl,Heap.nZ];exact h2,?_⟩;rw [Heap.Vl,Heap.nZ];obtain ⟨Lg,qZ⟩:=hgs;exact ⟨Sub.refl j,(fun k L e e'=>by rw [e] at e';cases e'),fun k _ e _=>⟨T.jm _ _ (hne k e),T.jm _ _ (fun hk=>by subst hk;rw [qZ] at e;cases e)⟩,yab _⟩
theorem Inv.turned (h:Inv ρ w0 j H w) {n:Nat} {L:Loc} {v:Vec} {row:List AV} (hj:j n=some L) (hm:H.m.get n=some (.cells v 0 n none false true)) (hl:row.length=v.n)
  {w':World} {arr':Array Value} {e':TypeId} (hset:w'.heap[L.blk]? =some (.cells arr' e' (0,0))) (hoth: ∀k,k≠L.blk→w'.heap[k]? =w.heap[k]?) (hsize:w'.heap.size=w.heap.size)
  (hos:w'.os=w.os) (hout:w'.output=w.output) (aa6:w'.tape=w.tape) (hn:L.off+v.n≤arr'.size) (hc: ∀i a,row[i]? =some a→ ∃x,arr'[L.off+i]? =some x∧R ρ j a x):
  Inv ρ w0 j ⟨H.m.set n (.cells (Vec.ofList row) 0 n none false true),H.nx,H.gw⟩ w':=by
 obtain ⟨o,h1,h2⟩:=h.obj n L hj;rw [hm] at h1;cases h1;obtain ⟨hq,hbase,hcont⟩:=h2;rw [yak rfl] at hbase;obtain ⟨arr,e,fr,hb,hs1,hs2,hcells⟩:=hcont rfl;have hB: ∀m Lm vm em gm cm sm om,m≠n→j m=some Lm→Lm.blk=L.blk→H.m.get m=some (.cells vm em gm cm sm om)→alive H.gw gm cm=false:=fun m Lm vm em gm cm sm om hmn e hb hmm=>by
  obtain ⟨vn,en,gn,cn,sn,on,Vk,GR,SN,Sn,sm',UH,h3,h4,h5,h6⟩:=h.sep n m L Lm (fun h'=>hmn h'.symm) hj e (h.lJ hj hm) (h.lJ e hmm) hb.symm;rw [hm] at h3;cases h3;rw [hmm] at h4;cases h4;cases ha:alive H.gw gm cm with
  | false=>rfl
  | true=>exact absurd ((h6 rfl).2 rfl ha rfl).1 (by simp)
 have hold: ∀k,k≠n→(H.m.set n (.cells (Vec.ofList row) 0 n none false true)).get k=H.m.get k:=fun k hk=>T.jm _ _ hk;refine ⟨h.fr.then hos hout aa6 (by omega) (fun i _ ho=>hoth i (fun e=>ho (e▸hbase))),h.dom,fun k Lk e q=>by rw [hsize];exact h.blk k Lk e q,fun k o' e=> ?_,fun k Lk e=> ?_,fun k m Lk Lm hkm e1 e2 q1 q2 hbk=> ?_,fun k v' e' g' t sh' ow he=> ?_,h.ni,fun k Lk v' e' g' c sh' e1 e2=> ?_,fun k Lk hjk hqk hi c e' fr he=> ?_,fun k Lk v' e' c sh' e1 e2=> ?_,h.n0,h.jv,h.IU (h.tQ hj) _,?_⟩
 ·by_cases hk:k=n
  ·subst hk;exact h.dom _ _ hj
  ·rw [hold k hk] at e;exact h.used k o' e
 ·by_cases hk:k=n
  ·subst hk;rw [hj] at e;cases e;refine ⟨_,T.get_set_same _ _ _,hq,by rw [yak rfl];exact hbase,fun _=>⟨arr',e',(0,0),hset,by rw [Vec.l9,hl];exact hn,⟨by omega,fun h0=> ?_⟩,fun i hi=> ?_⟩⟩
   ·rw [Vec.l9,hl];exact hs2.2 h0
   ·rw [Vec.l9] at hi;rw [Vec.uJ row i hi];exact hc i _ (yam hi)
  ·obtain ⟨o',h3,h4⟩:=h.obj k Lk e;refine ⟨o',by rw [hold k hk];exact h3,?_⟩;by_cases hqk:Lk.q=none
   case neg=>
    cases o' with
    | opq=>exact h4
    | gs=>exact h4.elim
    | _=>exact absurd h4.1 hqk
   by_cases hbk:Lk.blk=L.blk
   ·obtain ⟨vn,en,gn,cn,sn,on,vm,em,gm,cm,sm,om,h5,h6,_⟩:=h.sep k n Lk L hk e hj hqk hq hbk;rw [h3] at h5;cases h5;refine ⟨h4.1,h4.2.1,fun ha=> ?_⟩;have ha:alive H.gw gn cn=true:=ha;rw [hB k Lk vn en gn cn sn on hk e hbk h3] at ha;cases ha
   ·have hw:=hoth _ hbk;cases o' with
    | cells v' aaj g' c' sh' ow'=>exact ⟨h4.1,h4.2.1,fun ha=>let ⟨a1,a2,a3,a4,a5⟩:=h4.2.2 ha;⟨a1,a2,a3,by rw [hw];exact a4,a5⟩⟩
    | map es clock=>obtain ⟨a0,a1,a2,a3,a4,a5⟩:=h4;exact ⟨a0,a1,a2,a3,by rw [hw];exact a4,a5⟩
    | iter m since seen stepped=>obtain ⟨a0,a1,a2,a3,a4,a5,a6⟩:=h4;exact ⟨a0,a1,a2,a3,a4,by rw [hw];exact a5,a6⟩
    | rQ es=>obtain ⟨a0,a1,a2,a3,a4,a5,a6⟩:=h4;exact ⟨a0,a1,a2,a3,a4,a5,by rw [hw];exact a6⟩
    | dm kn log=>obtain ⟨a0,a1,a2,a3,a4,a5,a6,a7,a8,a9,L8⟩:=h4;exact ⟨a0,a1,a2,a3,a4,a5,a6,a7,a8,by rw [hw];exact a9,L8⟩
    | opq=>exact h4
    | gs=>exact h4.elim
 ·obtain ⟨vn,en,gn,cn,sn,on,vm,em,gm,cm,sm,om,h3,h4,h5,h6⟩:=h.sep k m Lk Lm hkm e1 e2 q1 q2 hbk;by_cases hk:k=n
  ·subst hk;have hmk:m≠k:=fun h'=>hkm h'.symm;rw [hj] at e1;cases e1;rw [hm] at h3;cases h3;refine ⟨_,_,_,_,_,_,vm,em,gm,cm,sm,om,T.get_set_same _ _ _,by rw [hold m hmk];exact h4,h5,fun ho=>⟨(h6 ho).1,fun _ ha=> ?_⟩⟩;have ha:alive H.gw gm cm=true:=ha;rw [hB m Lm vm em gm cm sm om hmk e2 hbk.symm h4] at ha;cases ha
  ·by_cases hmn:m=n
   ·subst hmn;rw [hj] at e2;cases e2;rw [hm] at h4;cases h4;refine ⟨vn,en,gn,cn,sn,on,_,_,_,_,_,_,by rw [hold k hk];exact h3,T.get_set_same _ _ _,h5,fun ho=>⟨(h6 ho).1,fun ha=> ?_⟩⟩;have ha:alive H.gw gn cn=true:=ha;rw [hB k Lk vn en gn cn sn on hk e1 hbk h3] at ha;cases ha
   ·exact ⟨vn,en,gn,cn,sn,on,vm,em,gm,cm,sm,om,by rw [hold k hk];exact h3,by rw [hold m hmn];exact h4,h5,h6⟩
 ·by_cases hk:k=n
  ·subst hk;rw [T.get_set_same] at he;cases he
  ·rw [hold k hk] at he;exact h.oZ k v' e' g' t sh' ow he
 ·by_cases hk:k=n
  ·subst hk;rw [T.get_set_same] at e2;cases e2;exact h.kC k Lk _ _ _ _ _ e1 hm
  ·rw [hold k hk] at e2;exact h.kC k Lk v' e' g' c sh' e1 e2
 ·by_cases hi2:Lk.blk=L.blk
  ·rw [hi2] at he;rw [hset] at he;cases he;rfl
  ·rw [hoth _ hi2] at he;exact h.fz k Lk hjk hqk hi c e' fr he
 ·by_cases hk:k=n
  ·subst hk;rw [T.get_set_same] at e2;cases e2;exact h.lH _ Lk _ _ _ _ e1 hm
  ·rw [hold k hk] at e2;exact h.lH k Lk v' e' c sh' e1 e2
 ·rw [Gb H _ (h.tQ hj)];exact h.uK (Sub.refl j) (by omega) (fun b _ hb=>hoth b (fun e=>hb ⟨n,L,hj,hq,e.symm⟩)) (fun b hb=>Or.inl hb)
def ztk:Obj→Bool
 | .cells .. =>false
 | .opq=>false
 | .gs _=>false
 | _=>true
def VZ:Go.Obj→Bool
 | .cells .. =>false
 | _=>true
theorem Inv.setObj (h:Inv ρ w0 j H w) {n:Nat} {L:Loc} {o o':Obj} {ob:Go.Obj} (hj:j n=some L) (hm:H.m.get n=some o) (ho:ztk o=true) (ho':ztk o'=true)
  (kQ:VZ ob=true) (hR: ∀w':World,w'.heap[L.blk]? =some ob→mY ρ j w0 w' H.gw L o'):
  Inv ρ w0 j (H.upd n o') { w with heap:=w.heap.setIfInBounds L.blk ob }∧St j H j (H.upd n o'):=by
 rw [Heap.nZ];obtain ⟨o1,h1,h2⟩:=h.obj n L hj;rw [hm] at h1;cases h1;have hq:L.q=none:=h.q hj hm (by intro e;subst e;cases ho);have hbase:w0.own L.blk:=by
  cases o with
  | cells=>cases ho
  | map=>exact h2.2.1
  | iter=>exact h2.2.1
  | rQ=>exact h2.2.1
  | dm=>exact h2.2.1
  | opq=>cases ho
  | gs=>cases ho
 have hlt:=h.blk n L hj hq;have hself:(w.heap.setIfInBounds L.blk ob)[L.blk]? =some ob:=by simp [hlt]
 have hoth: ∀k,k≠L.blk→(w.heap.setIfInBounds L.blk ob)[k]? =w.heap[k]? :=fun k hk=>by rw [ybS (ydk hk)]
 have hold: ∀k,k≠n→(H.m.set n o').get k=H.m.get k:=fun k hk=>T.jm _ _ hk;have NW: ∀m Lm,m≠n→j m=some Lm→Lm.q=none→Lm.blk≠L.blk:=fun m Lm hmn e hqm hb=>by
  obtain ⟨vn,en,gn,cn,sn,on,vm,em,gm,cm,sm,om,h3,h4,_⟩:=h.sep m n Lm L hmn e hj hqm hq hb;rw [hm] at h4;cases h4;cases ho
 have hne: ∀k,j k=none→k≠n:=fun k e hk=>by subst hk;rw [hj] at e;cases e
 refine ⟨⟨h.fr.then rfl rfl rfl (by simp) (fun i _ hi=>hoth i (fun e=>hi (e▸hbase))),h.dom,fun k Lk e q=> ?_,fun k o' e=> ?_,fun k Lk e=> ?_,fun k m Lk Lm hkm e1 e2 q1 q2 hbk=> ?_,fun k v' e' g' t sh' ow he=> ?_,h.ni,fun k Lk v' e' g' c sh' e1 e2=> ?_,fun k Lk hjk hqk hi c e' fr he=> ?_,fun k Lk v' e' c sh' e1 e2=> ?_,h.n0,h.jv,h.IU (h.tQ hj) _,?_⟩,
  Sub.refl j,(fun k L e e'=>by rw [e] at e';cases e'),fun k _ e _=>⟨hold k (hne k e),rfl⟩,yab _⟩
 ·show Lk.blk<(w.heap.setIfInBounds L.blk ob).size;simpa using h.blk k Lk e q
 ·by_cases hk:k=n
  ·subst hk;exact h.dom _ _ hj
  ·rw [hold k hk] at e;exact h.used k _ e
 ·by_cases hk:k=n
  ·subst hk;rw [hj] at e;cases e;exact ⟨o',T.get_set_same _ _ _,hR _ hself⟩
  ·obtain ⟨o2,h3,h4⟩:=h.obj k Lk e;exact ⟨o2,by rw [hold k hk];exact h3,mY.grow (Sub.refl j) (fun q=>hoth _ (NW k Lk hk e q)) h4⟩
 ·by_cases hk:k=n
  ·subst hk;rw [hj] at e1;cases e1;exact absurd hbk.symm (NW m Lm (fun h'=>hkm h'.symm) e2 q2)
  ·by_cases hmn:m=n
   ·subst hmn;rw [hj] at e2;cases e2;exact absurd hbk (NW k Lk hk e1 q1)
   ·obtain ⟨vn,en,gn,cn,sn,on,vm,em,gm,cm,sm,om,h3,h4,h5⟩:=h.sep k m Lk Lm hkm e1 e2 q1 q2 hbk;exact ⟨vn,en,gn,cn,sn,on,vm,em,gm,cm,sm,om,by rw [hold k hk];exact h3,by rw [hold m hmn];exact h4,h5⟩
 ·by_cases hk:k=n
  ·subst hk;rw [T.get_set_same] at he;cases he;cases ho'
  ·rw [hold k hk] at he;exact h.oZ k v' e' g' t sh' ow he
 ·by_cases hk:k=n
  ·subst hk;rw [T.get_set_same] at e2;cases e2;cases ho'
  ·rw [hold k hk] at e2;exact h.kC k Lk v' e' g' c sh' e1 e2
 ·have he:(w.heap.setIfInBounds L.blk ob)[Lk.blk]? =some (.cells c e' fr):=he;by_cases hi2:Lk.blk=L.blk
  ·rw [hi2,hself] at he;cases he;cases kQ
  ·rw [hoth _ hi2] at he;exact h.fz k Lk hjk hqk hi c e' fr he
 ·by_cases hk:k=n
  ·subst hk;rw [T.get_set_same] at e2;cases e2;cases ho'
  ·rw [hold k hk] at e2;exact h.lH k Lk v' e' c sh' e1 e2
 ·rw [Gb H _ (h.tQ hj)];exact h.uK (Sub.refl j) (by simp) (fun b _ hb=>hoth b (fun e=>hb ⟨n,L,hj,hq,e.symm⟩)) (fun b hb=>Or.inl hb)
theorem QY {n:Nat} {es:List ME} {c:Nat} (h:H.iE n=some (es,c)):H.m.get n=some (.map es c):=by
 unfold Heap.iE at h;split at h
 ·rename_i hm;cases h;exact hm
 ·cases h
theorem Inv.iE (h:Inv ρ w0 j H w) {n:Nat} {L:Loc} {es:List ME} {c:Nat} (hj:j n=some L) (hm:H.iE n=some (es,c)):
  ∃ arr,w.heap[L.blk]? =some (.map arr c)∧RM ρ j es arr.toList:=by
 obtain ⟨o,h1,h2⟩:=h.obj n L hj;rw [QY hm] at h1;cases h1;exact h2.2.2.2
theorem Inv.hand (h:Inv ρ w0 j H w) {n:Nat} (hn:H.m.get n=some .opq) (hj:j n=none) (v:Value):Inv ρ w0 (iZ j n ⟨0,0,0,some v⟩) H w:=by
 have hsub:=qB (L:=⟨0,0,0,some v⟩) hj;have hback: ∀k L,iZ j n ⟨0,0,0,some v⟩ k=some L→(k=n∧L=⟨0,0,0,some v⟩)∨(k≠n∧j k=some L):=fun k L e=>by
  by_cases hk:k=n
  ·subst hk;rw [lN] at e;exact .inl ⟨rfl,(yaC e).symm⟩
  ·rw [lM _ _ hk] at e;exact .inr ⟨hk,e⟩
 have hbq: ∀k L,iZ j n ⟨0,0,0,some v⟩ k=some L→L.q=none→j k=some L:=fun k L e q=>by
  rcases hback k L e with ⟨_,rfl⟩|⟨_,e⟩
  ·cases q
  ·exact e
 refine ⟨h.fr,fun k L e=> ?_,fun k L e q=>h.blk k L (hbq k L e q) q,h.used,fun k L e=> ?_,fun k m Lk Lm hkm e1 e2 q1 q2 hb=>h.sep k m Lk Lm hkm (hbq _ _ e1 q1) (hbq _ _ e2 q2) q1 q2 hb,h.oZ,h.ni,fun k L v' e g cl sh e1 e2=> ?_,
  fun k L e q=>h.fz k L (hbq _ _ e q) q,fun k L v' e cl sh e1 e2=> ?_,?_,h.jv,h.z0,h.uK hsub (yab _) (fun _ _ _=>rfl) fun b hm=> ?_⟩
 ·rcases hback k L e with ⟨rfl,_⟩|⟨_,e⟩
  ·exact h.used _ _ hn
  ·exact h.dom k L e
 ·rcases hback k L e with ⟨rfl,rfl⟩|⟨_,e⟩
  ·exact ⟨.opq,hn,by show (some v)≠none;simp⟩
  ·obtain ⟨o',h1,h2⟩:=h.obj k L e;exact ⟨o',h1,mY.grow hsub (fun _=>rfl) h2⟩
 ·rcases hback k L e1 with ⟨rfl,_⟩|⟨_,e1⟩
  ·rw [hn] at e2;cases e2
  ·obtain ⟨Lg,e3⟩:=h.kC k L v' e g cl sh e1 e2;exact ⟨Lg,hsub _ _ e3⟩
 ·rcases hback k L e1 with ⟨rfl,_⟩|⟨_,e1⟩
  ·rw [hn] at e2;cases e2
  ·exact h.lH k L v' e cl sh e1 e2
 ·by_cases hk:0=n
  ·rw [←hk] at hn;obtain ⟨kk,h1⟩:=h.z0 _ hn;cases h1
  ·rw [lM _ _ hk];exact h.n0
 ·obtain ⟨k,L,e,q,rfl⟩:=hm;exact .inl ⟨k,L,hbq k L e q,q,rfl⟩
theorem run_getObj_map (P:Program) {r:Nat} {arr:Array MapEntry} {c:Nat} (h:w.heap[r]? =some (.map arr c)):(getObj r).run P w= .ok (.map arr c) w:=by
 simp [getObj,Sem.run,h]
theorem run_setObj_map (P:Program) {r:Nat} {o o':Go.Obj} (h:w.heap[r]? =some o) (ho:VZ o=true):(setObj r o').run P w= .ok () { w with heap:=w.heap.setIfInBounds r o' }:=by
 cases o<;>first|(cases ho;done)|simp [setObj,Sem.run,h]
theorem Inv.mapped (h:Inv ρ w0 j H w) {n:Nat} {L:Loc} {es es':List ME} {c c':Nat} {arr':Array MapEntry} (hj:j n=some L) (hm:H.iE n=some (es,c)) (hr:RM ρ j es' arr'.toList) (P:Program):
  ∃ w',(Go.setObj L.blk (.map arr' c')).run P w= .ok () w'∧Inv ρ w0 j (H.upd n (.map es' c')) w'∧St j H j (H.upd n (.map es' c')):=by
 obtain ⟨arr,h1,h2⟩:=h.iE hj hm;obtain ⟨o,h3,h4⟩:=h.obj n L hj;rw [QY hm] at h3;cases h3;exact ⟨_,run_setObj_map P h1 rfl,h.setObj hj (QY hm) rfl rfl rfl fun w' e=>⟨h4.1,h4.2.1,h4.2.2.1,arr',e,hr⟩⟩
end
end Go.Dw
namespace Go.Dw
theorem QG {v:Value} {n:Int} (h:CZ v n=true):v= .int .i64 n:=by
 unfold CZ at h;split at h
 ·rename_i m;have:m=n:=by simpa using h
  rw [this]
 ·cases h
theorem ZT (n:Int):CZ (.int .i64 n) n=true:=by simp [CZ]
theorem zA6 {l:List MapEntry} (h:l.Pairwise fun a b=>a.key≠b.key) {e:MapEntry} {n:Int} (he:e∈l) (hk:e.key= .int .i64 n):l.find? (fun e=>CZ e.key n)=some e:=by
 induction l with
 | nil=>cases he
 | cons x l ih=>
  rw [ybb] at h;rcases yac.1 he with rfl|he
  ·rw [List.find?_cons_of_pos (by rw [hk];exact ZT n)]
  ·rw [List.find?_cons_of_neg (fun hx=>h.1 e he (by rw [QG hx,hk])),ih h.2 he]
theorem uf {arr:Array MapEntry} (h:jE arr) {e:MapEntry} {n:Int} (he:e∈arr.toList) (hk:e.key= .int .i64 n):dB arr n=some e.val:=by
 unfold dB;rw [zA6 h.once he hk];rfl
theorem zN {arr:Array MapEntry} {n:Int} (h: ∀e∈arr.toList,e.key≠ .int .i64 n):dB arr n=none:=by
 unfold dB;rw [List.find?_eq_none.2 (fun e he hk=>h e he (QG hk))];rfl
theorem Kc {arr:Array MapEntry} {n:Int} {v:Value} (h:dB arr n=some v): ∃e∈arr.toList,e.key= .int .i64 n∧e.val=v:=by
 unfold dB at h;rw [yb4] at h;obtain ⟨e,he,rfl⟩:=h;exact ⟨e,List.mem_of_find?_eq_some he,QG (by simpa using List.find?_some he),rfl⟩
theorem Qf {arr:Array MapEntry} {n:Int} (h:dB arr n=none): ∀e∈arr.toList,e.key≠ .int .i64 n:=fun e he hk=>by
 unfold dB at h;rw [Option.map_eq_none_iff,List.find?_eq_none] at h;exact h e he (by rw [hk];exact ZT n)
theorem zM {kk:IntKind} {n:Int}: ∀(xs:List MapEntry) (i:Nat),(∀e∈xs,∃m,e.key= .int .i64 m)→
  (Instr.findNow (.int kk) (.int .i64 n) xs i=some none∧ ∀e∈xs,e.key≠ .int .i64 n)∨(∃p e,Instr.findNow (.int kk) (.int .i64 n) xs i=some (some (i+p,e.val))∧xs[p]? =some e∧e.key= .int .i64 n)
 | [], i,_=> .inl ⟨rfl,by simp⟩
 | x::xs,i,h=>by
  obtain ⟨m,hm⟩:=h x (by simp);by_cases hmn:n=m
  ·subst hmn;exact .inr ⟨0,x,by simp [Instr.findNow,Instr.sameNow,hm],rfl,hm⟩
  ·have hs:Instr.findNow (.int kk) (.int .i64 n) (x::xs) i=Instr.findNow (.int kk) (.int .i64 n) xs (i+1):=by
    have hb:(n==m)=false:=by simpa using hmn
    simp [Instr.findNow,Instr.sameNow,hm,hb]
   rw [hs];rcases zM xs (i+1) (fun e he=>h e (by simp [he])) with ⟨h1,h2⟩|⟨p,e,h1,h2,h3⟩
   ·refine .inl ⟨h1,fun e he=> ?_⟩;rcases yac.1 he with rfl|he
    ·rw [hm];intro hh;cases hh;exact hmn rfl
    ·exact h2 e he
   ·exact .inr ⟨p+1,e,by rw [h1];congr 3;omega,by simpa using h2,h3⟩
theorem EO {α:Type} (l:List α) (f:α→α) (p i:Nat):(l.modify p f)[i]? =if p=i then l[i]?.map f else l[i]? :=by
 rw [List.getElem?_modify];by_cases h:p=i
 ·simp only [yak h];cases l[i]? <;>rfl
 ·simp only [yai h];cases l[i]? <;>rfl
theorem znq {arr:Array MapEntry} (h:jE arr) {p:Nat} {e:MapEntry} {k:Int} {v:Value} (hp:arr.toList[p]? =some e) (hk:e.key= .int .i64 k):
  jE (arr.modify p fun y=> { y with key:= .int .i64 k,val:=v })∧ ∀n,dB (arr.modify p fun y=> { y with key:= .int .i64 k,val:=v }) n=if n=k then some v else dB arr n:=by
 have hlt:p<arr.toList.length:=by
  rw [yay] at hp;exact hp.1
 have hkeys:(arr.modify p fun y=> { y with key:= .int .i64 k,val:=v }).toList.map (·.key)=arr.toList.map (·.key):=by
  rw [ybE];apply ydo;intro i;simp only [ya5,EO];by_cases gX:p=i
  ·subst gX;rw [hp];simp [hk]
  ·rw [yai gX]
 have hw:jE (arr.modify p fun y=> { y with key:= .int .i64 k,val:=v }):=by
  refine ⟨fun e' he'=> ?_,?_⟩
  ·have:e'.key∈arr.toList.map (·.key):=by rw [←hkeys];exact ycN he'
   obtain ⟨e2,h2,h3⟩:=ya6.1 this;obtain ⟨n,hn⟩:=h.keys e2 h2;exact ⟨n,by rw [←h3];exact hn⟩
  ·have h1:(arr.toList.map (·.key)).Pairwise (· ≠ ·):=ycj.2 h.once;rw [←hkeys] at h1;exact ycj.1 h1
 refine ⟨hw,fun n=> ?_⟩;have hat:(arr.modify p fun y=> { y with key:= .int .i64 k,val:=v }).toList[p]? =some { e with key:= .int .i64 k,val:=v }:=by
  rw [ybE,EO,yak rfl,hp];rfl
 by_cases hn:n=k
 ·subst hn;rw [yak rfl];exact uf hw (ya9 hat) rfl
 ·rw [yai hn];have UI: ∀e',e'.key≠ .int .i64 k→(e'∈(arr.modify p fun y=> { y with key:= .int .i64 k,val:=v }).toList↔e'∈arr.toList):=fun e' hne=>by
   rw [ybE];simp only [yda,EO];constructor
   ·rintro ⟨i,hi⟩;by_cases gX:p=i
    ·subst gX;rw [yak rfl,hp] at hi;cases hi;exact absurd rfl hne
    ·rw [yai gX] at hi;exact ⟨i,by simpa using hi⟩
   ·rintro ⟨i,hi⟩;by_cases gX:p=i
    ·subst gX;rw [hp] at hi;cases hi;exact absurd hk hne
    ·exact ⟨i,by rw [yai gX];simpa using hi⟩
  cases hv:dB arr n with
  | none=>
   refine zN fun e' he' hk'=> ?_;have hne:e'.key≠ .int .i64 k:=by rw [hk'];intro hh;cases hh;exact hn rfl
   exact Qf hv e' ((UI e' hne).1 he') hk'
  | some u=>
   obtain ⟨e',he',hk',rfl⟩:=Kc hv;have hne:e'.key≠ .int .i64 k:=by rw [hk'];intro hh;cases hh;exact hn rfl
   exact uf hw ((UI e' hne).2 he') hk'
theorem zv9 {arr:Array MapEntry} (h:jE arr) {k:Int} {v:Value} {c:Nat} (hk: ∀e∈arr.toList,e.key≠ .int .i64 k):
  jE (arr.push { key:= .int .i64 k,val:=v,born:=c })∧ ∀n,dB (arr.push { key:= .int .i64 k,val:=v,born:=c }) n=if n=k then some v else dB arr n:=by
 have hw:jE (arr.push { key:= .int .i64 k,val:=v,born:=c }):=by
  refine ⟨fun e he=> ?_,?_⟩
  ·rw [ybi,yaT] at he;rcases he with he|he
   ·exact h.keys e he
   ·rw [yaF] at he;subst he;exact ⟨k,rfl⟩
  ·rw [ybi,List.pairwise_append];refine ⟨h.once,by simp,fun a ha b hb=> ?_⟩;rw [yaF] at hb;subst hb;exact hk a ha
 refine ⟨hw,fun n=> ?_⟩;by_cases hn:n=k
 ·subst hn;rw [yak rfl];exact uf hw (e:= { key:= .int .i64 n,val:=v,born:=c }) (by rw [ybi];simp) rfl
 ·rw [yai hn];cases hv:dB arr n with
  | none=>
   refine zN fun e he hke=> ?_;rw [ybi,yaT] at he;rcases he with he|he
   ·exact Qf hv e he hke
   ·rw [yaF] at he;subst he;cases hke;exact hn rfl
  | some u=>
   obtain ⟨e,he,hke,rfl⟩:=Kc hv;exact uf hw (by rw [ybi];simp [he]) hke
theorem zzH {arr:Array MapEntry} (h:jE arr) {p:Nat} {e:MapEntry} {k:Int} (hp:arr.toList[p]? =some e) (hk:e.key= .int .i64 k):
  jE (arr.eraseIdxIfInBounds p)∧ ∀n,dB (arr.eraseIdxIfInBounds p) n=if n=k then none else dB arr n:=by
 have hl:(arr.eraseIdxIfInBounds p).toList=arr.toList.eraseIdx p:=by
  unfold Array.eraseIdxIfInBounds;split
  ·simp
  ·rw [ydM];simp;omega
 have hlt:p<arr.toList.length:=by
  rw [yay] at hp;exact hp.1
 have hsub:(arr.toList.eraseIdx p).Sublist arr.toList:=List.eraseIdx_sublist ..;have hw:jE (arr.eraseIdxIfInBounds p):=⟨fun e he=>h.keys e (hsub.subset (by rw [←hl];exact he)),by rw [hl];exact h.once.sublist hsub⟩;have hsplit:arr.toList=arr.toList.take p++e::arr.toList.drop (p+1):=by
  have h1:=ybI p arr.toList;rw [ycr hlt] at h1;rw [yay] at hp;obtain ⟨_,h2⟩:=hp;rw [h2] at h1;exact h1.symm
 have her:arr.toList.eraseIdx p=arr.toList.take p++arr.toList.drop (p+1):=List.eraseIdx_eq_take_drop_succ ..;refine ⟨hw,fun n=> ?_⟩;have hone:=h.once;rw [hsplit,List.pairwise_append] at hone;obtain ⟨_,h2,h3⟩:=hone;rw [ybb] at h2;by_cases hn:n=k
 ·subst hn;rw [yak rfl];refine zN fun e' he' hke=> ?_;rw [hl,her,yaT] at he';rcases he' with he'|he'
  ·exact h3 e' he' e (by simp) (by rw [hke,hk])
  ·exact h2.1 e' he' (by rw [hke,hk])
 ·rw [yai hn];cases hv:dB arr n with
  | none=>
   refine zN fun e' he' hke=> ?_;rw [hl] at he';exact Qf hv e' (hsub.subset he') hke
  | some u=>
   obtain ⟨e',he',hke,rfl⟩:=Kc hv;refine uf hw ?_ hke;rw [hl,her];rw [hsplit] at he';rcases yaT.1 he' with he'|he'
   ·exact yco _ he'
   ·rcases yac.1 he' with rfl|he'
    ·rw [hke] at hk;cases hk;exact absurd rfl hn
    ·exact ycg _ he'
theorem zh8 {arr:Array MapEntry} {k:Int} (h: ∀e∈arr.toList,e.key≠ .int .i64 k) (n:Int):dB arr n=if n=k then none else dB arr n:=by
 by_cases hn:n=k
 ·rw [yak hn,hn];exact zN h
 ·rw [yai hn]
section
variable {ρ:Val}
theorem aO.kM (f:aO) (b:Nat):(f.den ρ).testBit b=(decide (f.sh≤b)&&(decide (b-f.sh<f.n)&&(max f.lo (min (ρ.i f.i).toNat f.hi)).testBit (f.fr+(b-f.sh)))):=by
 unfold aO.den;rw [Nat.testBit_shiftLeft,ybZ,Nat.testBit_shiftRight]
theorem JD (W:Nat): ∀(l:List aO) (c:Nat),aN ρ (pG W l) (c%2^W)=aN ρ l c%2^W
 | [], c=>rfl
 | f::l,c=>by
  have ih:=JD W l c;apply ybj;intro b;have ihb:=yaH (fun x=>x.testBit b) ih;simp only [ybZ] at ihb;rw [ybZ];unfold pG;cases h1:Nat.blt f.sh W with
  | false=>
   have h1': ¬f.sh<W:=fun hh=>by rw [←yaE] at hh;rw [hh] at h1;cases h1
   simp only;rw [ihb];show _=(decide (b<W)&&(f.den ρ|||aN ρ l c).testBit b);rw [yaS,aO.kM];by_cases hb:b<W
   ·have: ¬f.sh≤b:=by omega
    simp [hb,this]
   ·simp [hb]
  | true=>
   rw [yaE] at h1;cases h2:Nat.ble (Nat.add f.sh f.n) W with
   | true=>
    have h2:f.sh+f.n≤W:=yal h2;show (f.den ρ|||aN ρ (pG W l) (c%2^W)).testBit b=(decide (b<W)&&(f.den ρ|||aN ρ l c).testBit b);rw [yaS,yaS,ihb,aO.kM];by_cases hb:b<W
    ·simp [hb]
    ·have: ¬b-f.sh<f.n:=by omega
     simp [hb,this]
   | false=>
    have h2: ¬f.sh+f.n≤W:=fun hh=>by
     have e:Nat.ble (Nat.add f.sh f.n) W=true:=ycf hh;rw [e] at h2;cases h2
    show (aO.den ρ ⟨f.i,f.lo,f.hi,f.fr,W-f.sh,f.sh⟩|||aN ρ (pG W l) (c%2^W)).testBit b=(decide (b<W)&&(f.den ρ|||aN ρ l c).testBit b);rw [yaS,yaS,ihb,aO.kM,aO.kM];simp only;by_cases hb:b<W
    ·by_cases hs:f.sh≤b
     ·have e1:b-f.sh<W-f.sh:=by omega
      have e2:b-f.sh<f.n:=by omega
      simp [hb,hs,e1,e2]
     ·simp [hb,hs]
    ·have: ¬b-f.sh<W-f.sh:=by omega
     simp [hb,this]
theorem Qx (m:Nat): ∀(l:List aO) (c:Nat),aN ρ (qN m l) (c/2^m)=aN ρ l c/2^m
 | [], c=>rfl
 | f::l,c=>by
  have ih:=Qx m l c;apply ybj;intro b;have ihb:=yaH (fun x=>x.testBit b) ih;simp only [←ydT,Nat.testBit_shiftRight] at ihb ⊢;unfold qN;cases h1:Nat.ble m f.sh with
  | true=>
   have h1:m≤f.sh:=yal h1;show (aO.den ρ ⟨f.i,f.lo,f.hi,f.fr,f.n,f.sh-m⟩|||aN ρ (qN m l) (c>>>m)).testBit b=(f.den ρ|||aN ρ l c).testBit (m+b);rw [yaS,yaS,ihb,aO.kM,aO.kM];simp only;have e1:(f.sh-m≤b)↔(f.sh≤m+b):=by omega
   by_cases hs:f.sh≤m+b
   ·have e2:b-(f.sh-m)=m+b-f.sh:=by omega
    simp [e1,hs,e2]
   ·simp [e1,hs]
  | false=>
   have h1': ¬m≤f.sh:=fun hh=>by rw [ycf hh] at h1;cases h1
   cases h2:Nat.blt m (Nat.add f.sh f.n) with
   | true=>
    have h2:m<f.sh+f.n:=by rw [yaE] at h2;exact h2
    show (aO.den ρ ⟨f.i,f.lo,f.hi,f.fr+(m-f.sh),f.n-(m-f.sh),0⟩|||aN ρ (qN m l) (c>>>m)).testBit b=(f.den ρ|||aN ρ l c).testBit (m+b);rw [yaS,yaS,ihb,aO.kM,aO.kM];simp only;have e1:f.sh≤m+b:=by omega
    have e2:(b<f.n-(m-f.sh))↔(m+b-f.sh<f.n):=by omega
    have e3:f.fr+(m-f.sh)+b=f.fr+(m+b-f.sh):=by omega
    simp [e1,e2,e3]
   | false=>
    have h2': ¬m<f.sh+f.n:=fun hh=>by rw [←yaE] at hh;change Nat.blt m (Nat.add f.sh f.n)=true at hh;rw [hh] at h2;cases h2
    show (aN ρ (qN m l) (c>>>m)).testBit b=(f.den ρ|||aN ρ l c).testBit (m+b);rw [yaS,ihb,aO.kM];have: ¬m+b-f.sh<f.n:=by omega
    simp [this]
theorem znR (m:Nat): ∀(l:List aO) (c:Nat),aN ρ (Gl m l) (c*2^m)=aN ρ l c*2^m
 | [], c=>rfl
 | f::l,c=>by
  have ih:=znR m l c;apply ybj;intro b;have ihb:=yaH (fun x=>x.testBit b) ih;simp only [←yb2,Nat.testBit_shiftLeft] at ihb ⊢;show (aO.den ρ ⟨f.i,f.lo,f.hi,f.fr,f.n,f.sh+m⟩|||aN ρ (Gl m l) (c<<<m)).testBit b=(decide (b≥m)&&(f.den ρ|||aN ρ l c).testBit (b-m));rw [yaS,yaS,ihb,aO.kM,aO.kM];simp only;by_cases hm:m≤b
  ·have e1:(f.sh+m≤b)↔(f.sh≤b-m):=by omega
   have e2:b-(f.sh+m)=b-m-f.sh:=by omega
   simp [hm,e1,e2]
  ·have e1: ¬f.sh+m≤b:=by omega
   simp [hm,e1]
theorem ztR {g f h:aO} (hf:G5 g f=some h):h.den ρ=g.den ρ|||f.den ρ:=by
 unfold G5 at hf;split at hf
 case h_2=>cases hf
 rename_i h1 h2 h3 h4 h5;cases hf;have h1:=bK h1;have h2:=bK h2;have h3:=bK h3;have h4:g.fr+g.n=f.fr:=bK h4;have h5:g.sh+g.n=f.sh:=bK h5;apply ybj;intro b;rw [yaS,aO.kM,aO.kM,aO.kM];simp only;rw [←h1,←h2,←h3,←h4,←h5];by_cases hs:g.sh≤b
 ·by_cases hn:b-g.sh<g.n
  ·have e1:b-g.sh<g.n+f.n:=by omega
   have e2: ¬g.sh+g.n≤b:=by omega
   simp [hs,hn,e1,e2]
  ·have e2:g.sh+g.n≤b:=by omega
   have e1:(b-g.sh<g.n+f.n)↔(b-(g.sh+g.n)<f.n):=by omega
   have e3:g.fr+g.n+(b-(g.sh+g.n))=g.fr+(b-g.sh):=by omega
   simp [hs,hn,e1,e2,e3]
 ·have e2: ¬g.sh+g.n≤b:=by omega
  simp [hs,e2]
theorem Km: ∀(l:List aO) (f:aO) (c:Nat),aN ρ (yI l f) c=f.den ρ|||aN ρ l c
 | [], f,c=>rfl
 | g::l,f,c=>by
  unfold yI;split
  ·rename_i h hh;rw [Km l h c,ztR hh];show g.den ρ|||f.den ρ|||aN ρ l c=f.den ρ|||(g.den ρ|||aN ρ l c);rw [←ycQ,ycK (f.den ρ)]
  ·split
   ·rename_i h hh;rw [Km l h c,ztR hh];show f.den ρ|||g.den ρ|||aN ρ l c=f.den ρ|||(g.den ρ|||aN ρ l c);rw [ycQ]
   ·show g.den ρ|||aN ρ (yI l f) c=f.den ρ|||(g.den ρ|||aN ρ l c);rw [Km l f c,←ycQ,←ycQ,ycK (g.den ρ)]
theorem zpY: ∀(l:List aO) (c d:Nat),aN ρ l (c|||d)=aN ρ l c|||d
 | [], c,d=>rfl
 | f::l,c,d=>by
  show f.den ρ|||aN ρ l (c|||d)=f.den ρ|||aN ρ l c|||d;rw [zpY l c d,ycQ]
theorem EP: ∀(m l:List aO) (c d:Nat),aN ρ (sF l m) (c|||d)=aN ρ l c|||aN ρ m d
 | [], l,c,d=>zpY l c d
 | f::m,l,c,d=>by
  unfold sF;rw [EP m (yI l f) c d,Km];show f.den ρ|||aN ρ l c|||aN ρ m d=aN ρ l c|||(f.den ρ|||aN ρ m d);rw [←ycQ,ycK (f.den ρ)]
theorem ZL (keep:Nat→Bool) (f:aO): ∀(k:Nat),k≤f.n→ ∀b,(aN ρ (pieces keep f k) 0).testBit b=(keep b&&(decide (f.sh≤b)&&(decide (b-f.sh<k)&&(max f.lo (min (ρ.i f.i).toNat f.hi)).testBit (f.fr+(b-f.sh)))))
 | 0,_,b=>by simp [pieces,aN]
 | k+1,hk,b=>by
  have ih:=ZL keep f k (by omega) b;unfold pieces;by_cases he:b=f.sh+k
  ·subst he;have e0: ¬(f.sh+k-f.sh<k):=by omega
   have e1:f.sh+k-f.sh<k+1:=by omega
   simp only [e0,decide_false,Bool.false_and,Bool.and_false] at ih;cases hkeep:keep (Nat.add f.sh k) with
   | true=>
    have hkeep:keep (f.sh+k)=true:=hkeep;show (aO.den ρ ⟨f.i,f.lo,f.hi,f.fr+k,1,f.sh+k⟩|||aN ρ (pieces keep f k) 0).testBit (f.sh+k)=_;rw [yaS,ih,aO.kM];simp [hkeep]
   | false=>
    have hkeep:keep (f.sh+k)=false:=hkeep;simp only;rw [ih];simp [hkeep]
  ·have e1:(b-f.sh<k+1∧f.sh≤b)↔(b-f.sh<k∧f.sh≤b):=by omega
   have hr:(keep b&&(decide (f.sh≤b)&&(decide (b-f.sh<k+1)&&(max f.lo (min (ρ.i f.i).toNat f.hi)).testBit (f.fr+(b-f.sh)))))=(keep b&&(decide (f.sh≤b)&&(decide (b-f.sh<k)&&(max f.lo (min (ρ.i f.i).toNat f.hi)).testBit (f.fr+(b-f.sh))))):=by
    by_cases hs:f.sh≤b
    ·have:(b-f.sh<k+1)↔(b-f.sh<k):=by omega
     simp [hs,this]
    ·simp [hs]
   rw [hr];cases hkeep:keep (Nat.add f.sh k) with
   | true=>
    show (aO.den ρ ⟨f.i,f.lo,f.hi,f.fr+k,1,f.sh+k⟩|||aN ρ (pieces keep f k) 0).testBit b=_;rw [yaS,ih,aO.kM];simp only;by_cases hs:f.sh+k≤b
    ·have: ¬b-(f.sh+k)<1:=by omega
     simp [hs,this]
    ·simp [hs]
   | false=>exact ih
theorem Qg (keep:Nat→Bool) (c d:Nat) (hd: ∀b,d.testBit b=(keep b&&c.testBit b)): ∀(l:List aO) (b:Nat),(aN ρ (yo keep l) d).testBit b=(keep b&&(aN ρ l c).testBit b)
 | [], b=>hd b
 | f::l,b=>by
  unfold yo;have e:=EP (ρ:=ρ) (pieces keep f f.n) (yo keep l) d 0;rw [ycJ] at e;rw [e,yaS,Qg keep c d hd l b,ZL keep f f.n (yab _) b];show _=(keep b&&(f.den ρ|||aN ρ l c).testBit b);rw [yaS,aO.kM];cases keep b<;>simp [Bool.or_comm]
theorem zyP {W:Nat}: ∀ {l:List aO} {c:Nat},fits W l=true→c<2^W→aN ρ l c<2^W
 | [], c,_,hc=>hc
 | f::l,c,h,hc=>by
  unfold fits at h;split at h
  ·rename_i hb;have hb:f.sh+f.n≤W:=yal hb;refine yc1 ?_ (zyP h hc);refine Nat.lt_pow_two_of_testBit _ fun i hi=> ?_;rw [aO.kM];have: ¬i-f.sh<f.n:=by omega
   simp [this]
  ·cases h
theorem qz {W:Nat} {l:List aO} {c:Nat} (h:pO W l c=true):aN ρ l c<2^W:=by
 unfold pO at h;split at h
 ·rename_i hc;rw [yaE] at hc;exact zyP h hc
 ·cases h
theorem zwd {a:SE} {l:List aO} {c:Nat} (h:IK a=some (l,c)):a.den ρ=Int.ofNat (aN ρ l c):=by
 unfold IK at h;split at h
 ·cases h;rfl
 ·cases h;rfl
 ·cases h
theorem uj (l:List aO) (c:Nat):(qw l c).den ρ=Int.ofNat (aN ρ l c):=by
 unfold qw;split
 ·rw [vJ];rfl
 ·rw [vJ];rfl
theorem Q8 (k:IntKind):zdt k=2^dD k:=by cases k<;>rfl
theorem wrap_small {k:IntKind} {n:Nat} (h:n<2^dD k):k.wrap (Int.ofNat n)=Int.ofNat n:=by
 rw [←Ko];have:Nat.blt n (zdt k)=true:=by rw [yaE,Q8];exact h
 simp only [sG,this]
theorem WH {k:IntKind} (h:zG k=false) (n:Nat):k.wrap (Int.ofNat n)=Int.ofNat (n%2^dD k):=by
 cases k<;>first|(cases h;done)|skip
 all_goals
  simp [IntKind.wrap,IntKind.signed,IntKind.bits,dD]
theorem zut {k:IntKind} (h:zG k=false) (n:Int): ∃x:Nat,k.wrap n=Int.ofNat x∧0≤x∧x≤2^dD k-1:=by
 refine ⟨(k.wrap n).toNat,?_,yax _,?_⟩
 all_goals
  cases k<;>first|(cases h;done)|skip
  all_goals
   simp [IntKind.wrap,IntKind.signed,IntKind.bits,dD];omega
theorem zS {k:IntKind} {p q:Nat} (h:u7 k=some (p,q)) (n:Int): ∃x:Nat,k.wrap n=Int.ofNat x∧p≤x∧x≤q:=by
 unfold u7 at h;split at h
 ·cases h
 ·rename_i hk;cases h;exact zut hk n
theorem zzG {k:IntKind} (h:zG k=false) {x y:Nat} (hlt:x<y) (hy:y≤2^dD k):k.wrap (Int.ofNat x-Int.ofNat y)=Int.ofNat (2^dD k+x-y):=by
 have hx:2^dD k+x-y<2^dD k:=by omega
 have e:Int.ofNat x-Int.ofNat y=Int.ofNat (2^dD k+x-y)-(2:Int)^dD k:=by
  have:((2^dD k:Nat):Int)=(2:Int)^dD k:=by simp
  simp only [ybN];omega
 rw [e,←wrap_small hx];cases k<;>first|(cases h;done)|skip
 all_goals
  simp [IntKind.wrap,IntKind.signed,IntKind.bits,dD]
theorem yc: ∀ {a:SE} {p q:Nat},bnd a=some (p,q)→ ∃x:Nat,a.den ρ=Int.ofNat x∧p≤x∧x≤q:=by
 intro a
 induction a with
 | bin o k x y Ij ihy=>
  intro p q h;cases o
  case add=>
   unfold bnd at h;split at h
   ·rename_i p1 q1 r1 s1 hx hy;obtain ⟨u,eu,u1,u2⟩:=Ij hx;obtain ⟨v,ev,v1,v2⟩:=ihy hy;split at h
    ·rename_i hlt;rw [yaE] at hlt;have hlt:q1+s1<2^dD k:=hlt;cases h;refine ⟨u+v,?_,by show p1+r1≤u+v;omega,by show u+v≤q1+s1;omega⟩;show k.wrap (SE.den ρ x+SE.den ρ y)=_;rw [eu,ev];exact wrap_small (n:=u+v) (by omega)
    ·exact zS h _
   ·exact zS h _
  case sub=>
   unfold bnd at h;split at h
   ·rename_i p1 q1 r1 s1 hx hy;obtain ⟨u,eu,u1,u2⟩:=Ij hx;obtain ⟨v,ev,v1,v2⟩:=ihy hy;split at h
    ·rename_i hle hlt;rw [yaE] at hlt;have hlt:q1<2^dD k:=hlt;have hle:=yal hle;cases h;refine ⟨u-v,?_,by show p1-s1≤u-v;omega,by show u-v≤q1-r1;omega⟩;show k.wrap (SE.den ρ x-SE.den ρ y)=_;rw [eu,ev];have e:Int.ofNat u-Int.ofNat v=Int.ofNat (u-v):=by simp only [ybN];omega
     rw [e];exact wrap_small (by omega)
    ·split at h
     ·rename_i hlt hle hk;rw [yaE] at hlt;have hle:=yal hle;have hle:s1≤2^dD k:=hle;cases h;refine ⟨2^dD k+u-v,?_,by show 2^dD k+p1-s1≤_;omega,by show _≤2^dD k+q1-r1;omega⟩;show k.wrap (SE.den ρ x-SE.den ρ y)=_;rw [eu,ev];exact zzG hk (by omega) (by omega)
     ·exact zS h _
   ·exact zS h _
  case mul=>
   unfold bnd at h;split at h
   ·rename_i p1 q1 r1 s1 hx hy;obtain ⟨u,eu,u1,u2⟩:=Ij hx;obtain ⟨v,ev,v1,v2⟩:=ihy hy;split at h
    ·rename_i hlt;rw [yaE] at hlt;have hlt:q1*s1<2^dD k:=hlt;have h1:u*v≤q1*s1:=Nat.mul_le_mul u2 v2;have h2:p1*r1≤u*v:=Nat.mul_le_mul u1 v1;cases h;refine ⟨u*v,?_,h2,h1⟩;show k.wrap (SE.den ρ x*SE.den ρ y)=_;rw [eu,ev];exact wrap_small (n:=u*v) (by omega)
    ·exact zS h _
   ·exact zS h _
  case rem=>
   unfold bnd at h;split at h
   case h_2=>cases h
   rename_i p1 q1 r1 s1 hx hy;obtain ⟨u,eu,u1,u2⟩:=Ij hx;obtain ⟨v,ev,v1,v2⟩:=ihy hy;split at h
   case h_2=>cases h
   rename_i hlt;rw [yaE] at hlt;cases h;refine ⟨u%v,?_,yax _,?_⟩
   ·show (SE.den ρ x).tmod (SE.den ρ y)=_;rw [eu,ev];rfl
   ·have h1:=Nat.mod_lt u (show v>0 by omega);have h2:=Nat.mod_le u v;show u%v≤min q1 (s1-1);omega
  all_goals (unfold bnd at h;cases h)
 | var i=>intro p q h;unfold bnd at h;cases h
 | wrap k x ih=>intro p q h;unfold bnd at h;exact zS h _
 | lit n=>
  intro p q h;cases n with
  | ofNat n=>unfold bnd at h;cases h;exact ⟨_,rfl,yab _,yab _⟩
  | negSucc n=>unfold bnd at h;cases h
 | dG l c=>
  intro p q h;unfold bnd at h;split at h<;>first|(rename_i heq;cases heq;done)|skip
  ·rename_i f heq;cases heq;split at h
   ·rename_i h1 h2 h3;cases h;have h1:=bK h1;have h2:=bK h2;rw [yaE] at h3;refine ⟨_,rfl,?_⟩;have e:aN ρ [f] 0=max f.lo (min (ρ.i f.i).toNat f.hi):=by
     show f.den ρ|||0=_;rw [ycJ];unfold aO.den;rw [h1,h2];simp only [ybX,ycw];refine ybe (ycU ?_ h3);show max f.lo (min (ρ.i f.i).toNat f.hi)≤max f.lo f.hi;omega
    rw [e];have e2:Nat.max f.lo f.hi=max f.lo f.hi:=rfl;rw [e2];omega
   ·split at h
    ·rename_i hf;cases h;have:=qz (ρ:=ρ) hf;exact ⟨_,rfl,yax _,by omega⟩
    ·cases h
  ·cases h
theorem zu1 (k:IntKind) (a:SE):(RG k a).den ρ=k.wrap (a.den ρ):=by
 unfold RG;split
 ·rename_i p q hb;split
  ·rename_i hq;rw [yaE] at hq;obtain ⟨x,e,_,h2⟩:=yc (ρ:=ρ) hb;rw [e,wrap_small (ycU h2 hq)]
  ·rfl
 ·rfl
theorem zwO (k:IntKind) (a:SE):(OO k a).den ρ=k.wrap (a.den ρ):=by
 unfold OO;split
 ·rename_i l c;split
  ·split
   ·rename_i h;exact (wrap_small (qz h)).symm
   ·rfl
  ·rename_i h;rw [uj];show Int.ofNat (aN ρ (pG (dD k) l) (c%2^dD k))=k.wrap (Int.ofNat (aN ρ l c));rw [JD,WH h]
 ·exact zu1 k _
theorem QF {o:BinOp} (ho:o= .and∨o= .or∨o= .xor∨o= .andNot) {k:IntKind} {x y:Nat} (hx:x<2^dD k) (hy:y<2^dD k):nI o k (Int.ofNat x) (Int.ofNat y)=nP.nat o x y:=by
 rw [←Fu o ho];have e1:Nat.blt x (zdt k)=true:=by rw [yaE,Q8];exact hx
 have e2:Nat.blt y (zdt k)=true:=by rw [yaE,Q8];exact hy
 simp only [nP,e1,e2]
theorem zDm (k:IntKind) {a b:SE} {l l':List aO} {c c':Nat} (ha:a.den ρ=Int.ofNat (aN ρ l c)) (hb:b.den ρ=Int.ofNat (aN ρ l' c')):(Ox k a b l c l' c').den ρ=jG .or k (a.den ρ) (b.den ρ):=by
 unfold Ox;split
 ·rename_i h1 h2;rw [uj,ha,hb];show Int.ofNat (aN ρ (sF l l') (c|||c'))=nI .or k _ _;rw [QF (by simp) (qz h1) (qz h2),EP];rfl
 ·rfl
theorem zsC (k:IntKind) {a b:SE} {l:List aO} {c m:Nat} (ha:a.den ρ=Int.ofNat (aN ρ l c)) (hb:b.den ρ=Int.ofNat m):(IE k a b l c m).den ρ=jG .and k (a.den ρ) (b.den ρ):=by
 unfold IE;split
 ·rename_i h1 h2;rw [yaE] at h2;rw [uj,ha,hb];show Int.ofNat (aN ρ (yo (Nat.testBit m) l) (c&&&m))=nI .and k _ _;rw [QF (by simp) (qz h1) h2];show Int.ofNat _=Int.ofNat (aN ρ l c&&&m);congr 1;apply ybj;intro b;rw [Qg (Nat.testBit m) c (c&&&m) (fun b=>by rw [ycb,Bool.and_comm]) l b,ycb,Bool.and_comm]
 ·rfl
theorem zqZ (k:IntKind) {a b:SE} {l:List aO} {c m:Nat} (ha:a.den ρ=Int.ofNat (aN ρ l c)) (hb:b.den ρ=Int.ofNat m):(Q7 k a b l c m).den ρ=jG .andNot k (a.den ρ) (b.den ρ):=by
 unfold Q7;split
 ·rename_i h1 h2;rw [yaE] at h2;rw [uj,ha,hb];show Int.ofNat (aN ρ (yo _ l) (c^^^(c&&&m)))=nI .andNot k _ _;rw [QF (by simp) (qz h1) h2];show Int.ofNat _=Int.ofNat (aN ρ l c^^^(aN ρ l c&&&m));congr 1;apply ybj;intro b;rw [Qg _ c (c^^^(c&&&m)) (fun b=>by rw [ydG,ycb];cases m.testBit b<;>cases c.testBit b<;>rfl) l b,ydG,ycb];cases m.testBit b<;>cases (aN ρ l c).testBit b<;>rfl
 ·rfl
theorem zz1 (k:IntKind) {a b:SE} {l:List aO} {c n:Nat} (ha:a.den ρ=Int.ofNat (aN ρ l c)) (hb:b.den ρ=Int.ofNat n):(OA k a b l c n).den ρ=jG .shl k (a.den ρ) (b.den ρ):=by
 unfold OA;split
 ·rename_i h1 h2;have h1:n≤k.bits:=yal h1;rw [uj,ha,hb];show Int.ofNat (aN ρ (pG (dD k) (Gl n l)) (c*2^n%2^dD k))=k.wrap (Int.ofNat (aN ρ l c)*2^(min (Int.ofNat n).toNat k.bits));have e:(Int.ofNat (aN ρ l c)*2^(min (Int.ofNat n).toNat k.bits):Int)=Int.ofNat (aN ρ l c*2^n):=by
   have:min (Int.ofNat n).toNat k.bits=n:=by simp;omega
   rw [this];simp
  rw [e,WH h2,JD,znR]
 ·rfl
theorem zz0 (k:IntKind) {a b:SE} {l:List aO} {c n:Nat} (ha:a.den ρ=Int.ofNat (aN ρ l c)) (hb:b.den ρ=Int.ofNat n):(OB k a b l c n).den ρ=jG .shr k (a.den ρ) (b.den ρ):=by
 unfold OB;split
 ·rename_i h1;have h1:n≤k.bits:=yal h1;rw [uj,ha,hb];show Int.ofNat (aN ρ (qN n l) (c/2^n))=(Int.ofNat (aN ρ l c)).fdiv (2^(min (Int.ofNat n).toNat k.bits));have e1:min (Int.ofNat n).toNat k.bits=n:=by simp;omega
  rw [e1,Qx,ydO _ (by exact_mod_cast yax _)];simp
 ·rfl
theorem zDn {o:BinOp} (ho:o= .add∨o= .sub) (k:IntKind) {a b:SE} {l l':List aO} {c c':Nat} (ha:a.den ρ=Int.ofNat (aN ρ l c)) (hb:b.den ρ=Int.ofNat (aN ρ l' c')):(Ow o k a b l c l' c').den ρ=jG o k (a.den ρ) (b.den ρ):=by
 unfold Ow;split
 ·split
  ·rename_i h1 h2;have h1:=bK h1;subst h1;have hb:b.den ρ=0:=hb;rw [uj,ha,hb];rcases ho with rfl|rfl
   ·show _=k.wrap (Int.ofNat (aN ρ l c)+0);rw [yds,wrap_small (qz h2)]
   ·show _=k.wrap (Int.ofNat (aN ρ l c)-0);rw [Int.sub_zero,wrap_small (qz h2)]
  ·rfl
 ·rfl
theorem zqr {m:Nat}: ∀ {l:List aO} {c:Nat},IZ m l=true→c%2^m=0→aN ρ l c%2^m=0
 | [], c,_,h=>h
 | f::l,c,ha,hc=>by
  unfold IZ at ha;split at ha
  ·rename_i hb;have hb:=yal hb;have ih:=zqr ha hc;apply ybj;intro b;have ihb:=yaH (fun x=>x.testBit b) ih;simp only [ybZ,Nat.zero_testBit] at ihb;rw [ybZ,Nat.zero_testBit];show (decide (b<m)&&(f.den ρ|||aN ρ l c).testBit b)=false;rw [yaS,aO.kM];by_cases hlt:b<m
   ·have: ¬f.sh≤b:=by omega
    simp only [hlt,ydE,Bool.true_and] at ihb;simp [this,ihb]
   ·simp [hlt]
  ·cases ha
theorem zz6 (k:IntKind) {a b:SE} {l l':List aO} {c c':Nat} (ha:a.den ρ=Int.ofNat (aN ρ l c)) (hb:b.den ρ=Int.ofNat (aN ρ l' c')):(Ou k a b l c l' c').den ρ=jG .add k (a.den ρ) (b.den ρ):=by
 unfold Ou;split
 case h_2=>rfl
 rename_i g1 g2;split
 case h_2=>rfl
 rename_i h1 h2 h3;rw [uj,ha,hb];have h3:=bK h3;have hlt:=qz (ρ:=ρ) h1;have hmod:=zqr (ρ:=ρ) h2 h3;have hsum:aN ρ (sF l l') (Nat.lor c c')=aN ρ l c+aN ρ l' c':=by
  show aN ρ (sF l l') (c|||c')=_;rw [EP];have e:aN ρ l' c'=(aN ρ l' c'/2^width l c)<<<width l c:=by
   rw [yb2];have:=Nat.div_add_mod (aN ρ l' c') (2^width l c);rw [hmod] at this;rw [ybH];omega
  rw [e,ycK,←ycH hlt,ycR]
 have hw:aN ρ (sF l l') (Nat.lor c c')<2^dD k:=by
  show aN ρ (sF l l') (c|||c')<_;rw [EP];exact yc1 (qz g1) (qz g2)
 show _=k.wrap (Int.ofNat (aN ρ l c)+Int.ofNat (aN ρ l' c'));rw [show (Int.ofNat (aN ρ l c)+Int.ofNat (aN ρ l' c'):Int)=Int.ofNat (aN ρ l c+aN ρ l' c') from rfl,←hsum,wrap_small hw]
theorem zz3 (k:IntKind) {a b:SE} {l:List aO} {c n:Nat} (ha:a.den ρ=Int.ofNat (aN ρ l c)) (hb:b.den ρ=Int.ofNat n):(Oy k a b l c n).den ρ=jG .quo k (a.den ρ) (b.den ρ):=by
 unfold Oy;split
 case h_2=>rfl
 rename_i h1 h2;have h2:n=2^Nat.log2 n:=bK h2;rw [uj,ha,hb];show Int.ofNat (aN ρ (qN (Nat.log2 n) l) (c/2^Nat.log2 n))=k.wrap ((Int.ofNat (aN ρ l c)).tdiv (Int.ofNat n));rw [Qx,←h2];show _=k.wrap (Int.ofNat (aN ρ l c/n));rw [wrap_small (ycU (Nat.div_le_self _ _) (qz h1))]
theorem zz2 (k:IntKind) {a b:SE} {l:List aO} {c n:Nat} (ha:a.den ρ=Int.ofNat (aN ρ l c)) (hb:b.den ρ=Int.ofNat n):(Oz k a b l c n).den ρ=jG .rem k (a.den ρ) (b.den ρ):=by
 unfold Oz;split
 case h_2=>rfl
 rename_i h2;have h2:n=2^Nat.log2 n:=bK h2;rw [uj,ha,hb];show Int.ofNat (aN ρ (pG (Nat.log2 n) l) (c%2^Nat.log2 n))=(Int.ofNat (aN ρ l c)).tmod (Int.ofNat n);rw [JD,←h2];rfl
theorem xK (o:BinOp) (k:IntKind) (a b:SE):(jM o k a b).den ρ=jG o k (a.den ρ) (b.den ρ):=by
 unfold jM;split
 case h_2=>rfl
 rename_i l c l' c' ha hb;have ha:=zwd (ρ:=ρ) ha;have hb:=zwd (ρ:=ρ) hb;split
 ·exact zDm k ha hb
 ·split
  ·exact zsC k ha hb
  ·split
   ·have ha:a.den ρ=Int.ofNat c:=ha;rw [zsC k hb ha];rw [ha,hb];show nI .and k _ _=nI .and k _ _;simp only [nI,BitVec.and_comm]
   ·rfl
 ·split
  ·exact zqZ k ha hb
  ·rfl
 ·split
  ·exact zz1 k ha hb
  ·rfl
 ·split
  ·exact zz0 k ha hb
  ·rfl
 ·exact zz6 k ha hb
 ·split
  ·exact zz3 k ha hb
  ·rfl
 ·split
  ·exact zz2 k ha hb
  ·rfl
 ·exact zDn (.inr rfl) k ha hb
 ·rfl
theorem zwR (o:BinOp) (a b:SE):(OP o a b).den ρ=mX o (a.den ρ) (b.den ρ):=by
  unfold OP;split
  case h_2=>rfl
  rename_i p q r s ha hb;obtain ⟨x,ex,h1,h2⟩:=yc (ρ:=ρ) ha;obtain ⟨y,ey,h3,h4⟩:=yc (ρ:=ρ) hb;have blt: ∀ {u v:Nat},Nat.blt u v=true→u<v:=fun h=>by rw [yaE] at h;exact h
  split
  · split
    · rfl
    · rename_i hne;have hxy:x≠y:=fun e=>by
        subst e;refine hne ?_ ?_
        · cases h:Nat.blt q r with
          | false=>rfl
          | true=>have:=blt h;omega
        · cases h:Nat.blt s p with
          | false=>rfl
          | true=>have:=blt h;omega
      simp [SB.den,mX,ex,ey];omega
  · split
    · rfl
    · rename_i hne;have hxy:x≠y:=fun e=>by
        subst e;refine hne ?_ ?_
        · cases h:Nat.blt q r with
          | false=>rfl
          | true=>have:=blt h;omega
        · cases h:Nat.blt s p with
          | false=>rfl
          | true=>have:=blt h;omega
      simp [SB.den,mX,ex,ey];omega
  all_goals
    first
      | rfl
      | (split
         · rename_i h
           first|have:=blt h|have:=yal h
           simp [SB.den,mX,ex,ey];omega
         · rename_i h _
           first|have:=blt h|have:=yal h
           simp [SB.den,mX,ex,ey];omega
         · rfl)
theorem zz5 (o:BinOp) (a b:SE):(Ov o a b).den ρ=mX o (a.den ρ) (b.den ρ):=by
 unfold Ov;split
 ·rename_i h;rw [SE.beq_eq h];cases o<;>simp [SB.den,zwH,mX]
 ·exact zwR o a b
theorem zqW {x y:SE} {b:Bool} (h:Rh x y=some b):(x.den ρ==y.den ρ)=b:=by
 unfold Rh at h;split at h
 ·cases h;rw [Vv];rfl
 ·split at h
  ·rename_i hb;cases h;rw [SE.beq_eq hb];simp
  ·split at h
   case h_2=>cases h
   rename_i p q r s hx hy;obtain ⟨u,eu,h1,h2⟩:=yc (ρ:=ρ) hx;obtain ⟨v,ev,h3,h4⟩:=yc (ρ:=ρ) hy;split at h
   ·cases h
   ·rename_i hne;cases h;rw [eu,ev];have:u≠v:=fun e=>by
     subst e;refine hne ?_ ?_
     ·cases e:Nat.blt q r with
      | false=>rfl
      | true=>rw [yaE] at e;omega
     ·cases e:Nat.blt s p with
      | false=>rfl
      | true=>rw [yaE] at e;omega
    simp;omega
end
end Go.Dw
end
