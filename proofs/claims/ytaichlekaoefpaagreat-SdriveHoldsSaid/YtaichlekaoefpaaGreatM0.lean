/-
  Proved: laws on the way to 'SdriveHoldsProof' (texts Laid SvA SvB SvC SvD SvE SvF SvG SvH SvI DwBase DwEv DwRun); no condition.
-/
import Derived.Test.YtaichlekaoefpaaGreatRows
import Derived.KernelRfl
import Derived.ProofKit
import Derived.Test.YtaichlekaoefpaaGreatProg
import Derived.Sort.OwnSortedInts
import Derived.Sort.AtCall
import Derived.Maps.AppendAt
import Derived.Maps.RangeWalk
import Derived.Deep.MidRow
import Derived.Deep.WholeRow
import Derived.StillTailTactics
import Derived.Deep.QuietTactic
import Derived.BigQuiet
import Derived.WalkKit
import Derived.Laws.Cover3
import Derived.Laws.CopyOwn
import Derived.Laws.CopyRow
import Derived.Laws.IdiomCopy
import Derived.Deep.RegionWith
import Derived.Deep.CutRange
import Derived.Calls
import Derived.Orders
set_option linter.unusedSimpArgs false
set_option linter.unusedVariables false
set_option maxHeartbeats 4000000
noncomputable section
namespace Go.Proofs.YtaichlekaoefpaaGreat
theorem laidOutAll:laidOutB Tryz.prog=true:=by kernel_rfl
end Go.Proofs.YtaichlekaoefpaaGreat
namespace Go.Proofs
open Go.RowKit Go.Maps Go.Sort
structure Tryz.GM (w:World) (P L Bs B N:Nat) (g:Nat→Int):Prop where
 p0: ∃c,w.cell? ⟨P,0,none⟩=some (.slice (some ⟨L,0,none⟩) 1 c)
 p1:w.cell? ⟨P,1,none⟩=some (.slice (some ⟨Bs,0,none⟩) 1 2)
 l0:w.cell? ⟨L,0,none⟩=some (.int .u64 0)
 l1:w.cell? ⟨L,1,none⟩=some (.int .u64 N)
 b0:w.cell? ⟨Bs,0,none⟩=some (.slice (some ⟨B,0,none⟩) N N)
 full: ∀j,j<N→w.cell? ⟨B,j,none⟩=some (.int .u8 (g j))
 free: ∀j,j<N→w.frozen? ⟨B,j,none⟩=false
 byte: ∀j,0≤g j∧g j<256
 pb:P≠B
 lb:L≠B
 sb:Bs≠B
 bl:B<w.heap.size
theorem Tryz.GM.pl {w:World} {P L Bs B N:Nat} {g:Nat→Int} (h:GM w P L Bs B N g):P<w.heap.size:=World.block_lt_of_cell? w _ h.p1
theorem Tryz.GM.ll {w:World} {P L Bs B N:Nat} {g:Nat→Int} (h:GM w P L Bs B N g):L<w.heap.size:=World.block_lt_of_cell? w _ h.l0
theorem Tryz.GM.sl {w:World} {P L Bs B N:Nat} {g:Nat→Int} (h:GM w P L Bs B N g):Bs<w.heap.size:=World.block_lt_of_cell? w _ h.b0
theorem Tryz.GM.kept {w w':World} {P L Bs B N:Nat} {g:Nat→Int} (h:GM w P L Bs B N g) (hg: ∀k,k<w.heap.size→(k=P∨k=L∨k=Bs∨k=B)→w'.heap[k]? =w.heap[k]?) (hs:w.heap.size≤w'.heap.size):GM w' P L Bs B N g:=by
 have eP:=hg P h.pl (Or.inl rfl);have eL:=hg L h.ll (Or.inr (Or.inl rfl));have eS:=hg Bs h.sl (Or.inr (Or.inr (Or.inl rfl)));have eB:=hg B h.bl (Or.inr (Or.inr (Or.inr rfl)));refine ⟨?_,?_,?_,?_,?_,fun j hj=> ?_,fun j hj=> ?_,h.byte,h.pb,h.lb,h.sb,Nat.lt_of_lt_of_le h.bl hs⟩
 ·obtain ⟨c,h0⟩:=h.p0;exact ⟨c,by rw [World.cell?_of_block (a:=⟨P,0,none⟩) eP];exact h0⟩
 ·rw [World.cell?_of_block (a:=⟨P,1,none⟩) eP];exact h.p1
 ·rw [World.cell?_of_block (a:=⟨L,0,none⟩) eL];exact h.l0
 ·rw [World.cell?_of_block (a:=⟨L,1,none⟩) eL];exact h.l1
 ·rw [World.cell?_of_block (a:=⟨Bs,0,none⟩) eS];exact h.b0
 ·rw [World.cell?_of_block (a:=⟨B,j,none⟩) eB];exact h.full j hj
 ·rw [World.frozen?_of_block (a:=⟨B,j,none⟩) eB];exact h.free j hj
theorem Tryz.GM.below {w w':World} {P L Bs B N:Nat} {g:Nat→Int} (h:GM w P L Bs B N g) (hb:Below w.heap.size w w'):GM w' P L Bs B N g:=h.kept (fun k hk _=>hb.block k hk) hb.size
theorem Tryz.wrap_u64 (k:Int) (h:0≤k) (h':k<18446744073709551616):IntKind.wrap .u64 k=k:=by unfold IntKind.wrap;simp [IntKind.signed,IntKind.bits];omega
set_option maxRecDepth 100000 in
theorem Tryz.znJ (P L Bs B N X Y:Nat) (at1:Int) (g:Nat→Int) (w:World) (st:GM w P L Bs B N g) (hN:N≤1048576) (h1:1≤N) (hX:w.cell? ⟨X,0,none⟩=some (.pointer (some ⟨P,0,none⟩))) (hY:w.cell? ⟨Y,0,none⟩=some (.int .u64 at1)):
  Calls prog 115 #[.int .i64 0,.pointer (some ⟨X,0,none⟩),.pointer (some ⟨Y,0,none⟩)] w fun e w'=>e= .returned (.bool (decide (at1≤N-1)))∧ ∃q,w'=w.drewN q:=by
 obtain ⟨lc,c0⟩:=st.p0;have c2:=st.l0;have c3:=st.l1;have hs:IntKind.wrap .u64 ((N:Int)-1)=N-1:=wrap_u64 _ (by omega) (by omega);go_enter func115,ntmps115;go_wp2_with fail;go_quiet (fail);go_wp2;go_ret;exact ⟨rfl,nq,rfl⟩
theorem Tryz.below_drewN {B:Nat} {a w:World} (h:Below B a w) (q:Nat):Below B a (w.drewN q):=⟨h.os,h.tape,h.output,h.size,h.block⟩
set_option maxRecDepth 100000 in
theorem Tryz.zjN (P L Bs B N X Y:Nat) (at1:Int) (g:Nat→Int) (w:World) (st:GM w P L Bs B N g) (hN:N≤1048576) (h1:1≤N) (hX:w.cell? ⟨X,0,none⟩=some (.pointer (some ⟨P,0,none⟩))) (hY:w.cell? ⟨Y,0,none⟩=some (.int .u64 at1)) (ha:at1≤N-1):
    Calls prog 114 #[.int .i64 1,.func (.func 115) #[] #[.pointer (some ⟨X,0,none⟩),.pointer (some ⟨Y,0,none⟩)]] w fun e w'=>e= .returned (.int .i64 0)∧ ∃q,w'=w.drewN q:=by
  have he:=znJ P L Bs B N X Y at1 g w st hN h1 hX hY;rw [decide_eq_true ha] at he;go_enter func114,ntmps114;go_wp2_with fail;go_loopw [5,6] (fun i j wr=>(i= .int .i64 0∧j= .int .i64 1∧wr=w)∨(i= .int .i64 0∧j= .int .i64 0∧ ∃q,wr=w.drewN q)) (fun _ j _=>(RowKit.intOf j).toNat)
  case atStart=>exact Or.inl ⟨rfl,rfl,rfl⟩
  case round=>
    rcases hrel with ⟨rfl,rfl,rfl⟩|⟨rfl,rfl,q,rfl⟩
    · go_wp2_with (first
        | (go_at_call 115;refine he.mono ?_;rintro e w' ⟨rfl,q,rfl⟩)
        | go_in)
      exact ⟨Or.inr ⟨rfl,rfl,q,rfl⟩,by simp [RowKit.intOf]⟩
    · go_wp2;go_ret;exact ⟨rfl,q,rfl⟩
set_option maxRecDepth 100000 in
theorem Tryz.zot (P L Bs B N X Y:Nat) (at1:Int) (g:Nat→Int) (w:World) (st:GM w P L Bs B N g) (hN:N≤1048576) (h1:1≤N) (hX:w.cell? ⟨X,0,none⟩=some (.pointer (some ⟨P,0,none⟩))) (hY:w.cell? ⟨Y,0,none⟩=some (.int .u64 at1)) (ha: ¬at1≤N-1):
    Calls prog 114 #[.int .i64 1,.func (.func 115) #[] #[.pointer (some ⟨X,0,none⟩),.pointer (some ⟨Y,0,none⟩)]] w fun e w'=>e= .returned (.int .i64 1)∧ ∃q,w'=w.drewN q:=by
  have he:=znJ P L Bs B N X Y at1 g w st hN h1 hX hY;rw [decide_eq_false ha] at he;go_enter func114,ntmps114;go_wp2_with fail;go_loopw [5,6] (fun i j wr=>(i= .int .i64 0∧j= .int .i64 1∧wr=w)∨(i= .int .i64 1∧j= .int .i64 1∧ ∃q,wr=w.drewN q)) (fun i j _=>(RowKit.intOf j-RowKit.intOf i).toNat)
  case atStart=>exact Or.inl ⟨rfl,rfl,rfl⟩
  case round=>
    rcases hrel with ⟨rfl,rfl,rfl⟩|⟨rfl,rfl,q,rfl⟩
    · go_wp2_with (first
        | (go_at_call 115;refine he.mono ?_;rintro e w' ⟨rfl,q,rfl⟩)
        | go_in)
      exact ⟨Or.inr ⟨rfl,rfl,q,rfl⟩,by simp [RowKit.intOf]⟩
    · go_wp2;go_ret;exact ⟨rfl,q,rfl⟩
set_option maxRecDepth 100000 in
theorem Tryz.zgv (P L Bs B N a k:Nat) (g:Nat→Int) (w:World) (st:GM w P L Bs B N g) (hN:N≤1048576) (hk:1≤k) (hin:a+k≤N):
    Calls prog 79 #[.pointer (some ⟨P,0,none⟩),.int .u64 a,.int .u64 k] w fun e w'=>e= .returned (.slice (some ⟨B,a,none⟩) k (N-a))∧Below w.heap.size w w':=by
  have hb2:=((Below.refl _ w).alloc (Nat.le_refl _) (.cells #[.pointer (some ⟨P,0,none⟩)] 35)).alloc (by simp) (.cells #[.int .u64 a] 29);have st2:=st.below hb2;have hX:((w.alloc (.cells #[.pointer (some ⟨P,0,none⟩)] 35)).alloc (.cells #[.int .u64 a] 29)).cell? ⟨w.heap.size,0,none⟩=some (.pointer (some ⟨P,0,none⟩)):=by simp
  have hY:((w.alloc (.cells #[.pointer (some ⟨P,0,none⟩)] 35)).alloc (.cells #[.int .u64 a] 29)).cell? ⟨w.heap.size+1,0,none⟩=some (.int .u64 a):=by simp
  have hse:=zjN P L Bs B N w.heap.size (w.heap.size+1) a g _ st2 hN (by omega) hX hY (by omega);go_enter func79,ntmps79;generalize hw2:(w.alloc (.cells #[.pointer (some ⟨P,0,none⟩)] 35)).alloc (.cells #[.int .u64 a] 29)=w2 at*;obtain ⟨lc,c0⟩:=st2.p0;have c1:=st2.p1;have c2:=st2.l0;have c3:=st2.l1;have c4:=st2.b0;have ha:IntKind.wrap .u64 ((N:Int)-a)=N-a:=wrap_u64 _ (by omega) (by omega);have hak:IntKind.wrap .u64 ((a:Int)+k)=a+k:=wrap_u64 _ (by omega) (by omega);have hkk:a+k-a=k:=by omega
  go_wp2_with (first
    | (go_at_call 114;refine hse.mono ?_;rintro e w' ⟨rfl,q,rfl⟩)
    | go_in)
  go_quiet (fail);go_wp2;go_quiet (fail);go_wp2;go_ret;exact ⟨(by show Ending.returned (.slice (some ⟨B,a,none⟩) (a+k-a) (N-a))=_;rw [hkk]),below_drewN hb2 _⟩
set_option maxRecDepth 100000 in
theorem Tryz.zrG (P L Bs B N:Nat) (a k:Int) (g:Nat→Int) (w:World) (st:GM w P L Bs B N g) (hN:N≤1048576) (h1:1≤N) (ha0:0≤a) (ha1:a<18446744073709551616) (hk0:0≤k) (hout: ¬(1≤k∧a+k≤N)):
    Calls prog 79 #[.pointer (some ⟨P,0,none⟩),.int .u64 a,.int .u64 k] w fun e w'=>e= .returned (.slice none 0 0)∧Below w.heap.size w w':=by
  have hb2:=((Below.refl _ w).alloc (Nat.le_refl _) (.cells #[.pointer (some ⟨P,0,none⟩)] 35)).alloc (by simp) (.cells #[.int .u64 a] 29);have st2:=st.below hb2;have hX:((w.alloc (.cells #[.pointer (some ⟨P,0,none⟩)] 35)).alloc (.cells #[.int .u64 a] 29)).cell? ⟨w.heap.size,0,none⟩=some (.pointer (some ⟨P,0,none⟩)):=by simp
  have hY:((w.alloc (.cells #[.pointer (some ⟨P,0,none⟩)] 35)).alloc (.cells #[.int .u64 a] 29)).cell? ⟨w.heap.size+1,0,none⟩=some (.int .u64 a):=by simp
  have hsi:=zjN P L Bs B N w.heap.size (w.heap.size+1) a g _ st2 hN h1 hX hY;have hso:=zot P L Bs B N w.heap.size (w.heap.size+1) a g _ st2 hN h1 hX hY;go_enter func79,ntmps79;generalize hw2:(w.alloc (.cells #[.pointer (some ⟨P,0,none⟩)] 35)).alloc (.cells #[.int .u64 a] 29)=w2 at*;obtain ⟨lc,c0⟩:=st2.p0;have c1:=st2.p1;have c2:=st2.l0;have c3:=st2.l1;have c4:=st2.b0;by_cases hk1:1≤k
  · by_cases ha:a≤N-1
    · have hsi:=hsi ha;have hwa:IntKind.wrap .u64 ((N:Int)-a)=N-a:=wrap_u64 _ (by omega) (by omega);have hkn: ¬k≤N-a:=by omega
      go_wp2_with (first
        | (go_at_call 114;refine hsi.mono ?_;rintro e w' ⟨rfl,q,rfl⟩)
        | go_in)
      go_quiet (fail);go_wp2;go_quiet (fail);go_wp2;go_ret;exact ⟨rfl,below_drewN hb2 _⟩
    · have hso:=hso ha;go_wp2_with (first
        | (go_at_call 114;refine hso.mono ?_;rintro e w' ⟨rfl,q,rfl⟩)
        | go_in)
      go_quiet (fail);go_wp2;go_ret;exact ⟨rfl,below_drewN (below_drewN hb2 _) _⟩
  · go_wp2;go_ret;exact ⟨rfl,hb2⟩
theorem Tryz.ziT (a:Option Addr) (n c:Nat) (w:World):(binOp .eql 85 (.slice a n c) (.slice none 0 0)).run prog w= .ok (.bool a.isNone) w:=by
 simp only [binOp];simp [run_equal_slice_nil w 85 5 _ _ _ underlying85]
set_option maxRecDepth 100000 in
theorem Tryz.zd9 (P L Bs B N:Nat) (g:Nat→Int) (w:World) (st:GM w P L Bs B N g):
  Calls prog 77 #[.pointer (some ⟨P,0,none⟩)] w fun e w'=>e= .returned (.bool true)∧w'=w:=by
 have c1:=st.p1;go_enter func77,ntmps77;go_wp2;go_ret;exact ⟨rfl,rfl⟩
theorem Tryz.zih (k:Nat) (hk:k=1∨k=2∨k=4∨k=8) (w:World):Calls prog 78 #[.int .i64 k] w fun e w'=>e= .returned (.bool true)∧w'=w:=by
 go_enter func78,ntmps78;rcases hk with rfl|rfl|rfl|rfl<;>(go_wp2;go_ret;exact ⟨rfl,rfl⟩)
def Tryz.zaf (g:Nat→Int) (a:Nat):Nat→Int
 | 0=>0
 | k+1=>zaf g a k+g (a+k)*256^k
theorem Tryz.zav (g:Nat→Int) (hg: ∀j,0≤g j∧g j<256) (a:Nat): ∀k,0≤zaf g a k∧zaf g a k<256^k
 | 0=>by simp [zaf]
 | k+1=>by
  have h:=zav g hg a k;have h2:=hg (a+k);have h3:(0:Int)<256^k:=Int.pow_pos (by omega);have h4:0≤g (a+k)*256^k:=Int.mul_nonneg h2.1 (by omega);have h5:g (a+k)*256^k≤255*256^k:=Int.mul_le_mul_of_nonneg_right (by omega) (by omega);simp only [zaf,Int.pow_succ];omega
theorem Tryz.zwO (x y s:Nat) (hx:x<2^s) (hy:y*2^s<2^64) (hs:s≤64):bits .or .u64 (x:Int) ((y*2^s:Nat):Int)=((x+y*2^s:Nat):Int):=by
 have hx':x<2^64:=Nat.lt_of_lt_of_le hx (Nat.pow_le_pow_right (by omega) hs);have e:x|||y*2^s=x+y*2^s:=by
  rw [Nat.mul_comm y,Nat.or_comm,←Nat.two_pow_add_eq_or_of_lt hx,Nat.add_comm]
 have hlt:x+y*2^s<2^64:=by rw [←e];exact Nat.or_lt_two_pow hx' hy
 unfold bits;simp only [BitVec.toNat_or];have ex:(BitVec.ofInt IntKind.u64.bits (x:Int)).toNat=x:=by
  rw [BitVec.ofInt_natCast,BitVec.toNat_ofNat];exact Nat.mod_eq_of_lt hx'
 have ey:(BitVec.ofInt IntKind.u64.bits ((y*2^s:Nat):Int)).toNat=y*2^s:=by
  rw [BitVec.ofInt_natCast,BitVec.toNat_ofNat];exact Nat.mod_eq_of_lt hy
 rw [ex,ey,e];exact wrap_u64 _ (by omega) (by omega)
theorem Tryz.pow8 (i:Nat):(256:Int)^i=((2^(8*i):Nat):Int):=by
 rw [Nat.pow_mul,Int.natCast_pow];rfl
theorem Tryz.zvo (g:Nat→Int) (hg: ∀j,0≤g j∧g j<256) (a i:Nat) (hi:i<8):bits .or .u64 (zaf g a i) (IntKind.wrap .u64 (IntKind.wrap .u64 (g (a+i))*2^(8*i)))=zaf g a (i+1):=by
 have hb:=zav g hg a i;have h2:=hg (a+i);obtain ⟨m,hm⟩:=Int.eq_ofNat_of_zero_le hb.1;obtain ⟨c,hc⟩:=Int.eq_ofNat_of_zero_le h2.1;have hlt:c*2^(8*i)<2^64:=by
  have h1:c*2^(8*i)<2^8*2^(8*i):=Nat.mul_lt_mul_of_pos_right (by omega) (Nat.pow_pos (by omega));rw [←Nat.pow_add] at h1;exact Nat.lt_of_lt_of_le h1 (Nat.pow_le_pow_right (by omega) (by omega))
 have hml:m<2^(8*i):=by
  have:=hb.2;rw [hm,pow8] at this;exact Int.ofNat_lt.1 this
 simp only [zaf];rw [hm,hc,pow8];have e1:IntKind.wrap .u64 (c:Int)=c:=wrap_u64 _ (by omega) (by omega);have e2:((c:Int)*2^(8*i))=((c*2^(8*i):Nat):Int):=by push_cast;rfl
 rw [e1,e2,wrap_u64 _ (by omega) (by omega),zwO m c (8*i) hml hlt (by omega)];push_cast;rfl
set_option maxRecDepth 100000 in
theorem Tryz.zlQ (P L Bs B N a k:Nat) (g:Nat→Int) (w:World) (st:GM w P L Bs B N g) (hN:N≤1048576) (hk:k=1∨k=2∨k=4∨k=8) (hin:a+k≤N):
    Calls prog 39 #[.pointer (some ⟨P,0,none⟩),.int .u64 a,.int .i64 k] w fun e w'=>e= .returned (.tuple #[.int .u64 (zaf g a k),.int .i64 0])∧Below w.heap.size w w':=by
  have hq:=ziT;have hm:=zd9 P L Bs B N g w st;have hby:=zgv P L Bs B N a k g w st hN (by omega) hin;have hwk:IntKind.wrap .u64 (k:Int)=k:=wrap_u64 _ (by omega) (by omega);have hiw:=zih k hk w;go_enter func39,ntmps39;go_wp2_with (first
    | (go_at_call 77;refine hm.mono ?_;rintro e w' ⟨rfl,hw⟩;have hw:=hw.symm;subst hw)
    | (go_at_call 78;refine hiw.mono ?_;rintro e w' ⟨rfl,hw⟩;have hw:=hw.symm;subst hw)
    | (go_at_call 79;refine hby.mono ?_;rintro e w1 ⟨rfl,hb1⟩)
    | go_in)
  go_loopw [9,25] (fun v c wr=> ∃i:Nat,i≤k∧c= .int .i64 i∧v= .int .u64 (zaf g a i)∧wr=w1) (fun _ c _=>k-(RowKit.intOf c).toNat)
  case atStart=>exact ⟨0,Nat.zero_le _,rfl,rfl,rfl⟩
  case round=>
    obtain ⟨i,hi,rfl,rfl,rfl⟩:=hrel;by_cases hik:i<k
    · have hc:=(st.below hb1).full (a+i) (by omega);have ho:=zvo g st.byte a i (by omega);go_wp2;exact ⟨⟨i+1,by omega,by push_cast;rfl,rfl,trivial⟩,by simp only [RowKit.intOf];omega⟩
    · have hik':i=k:=by omega
      subst hik';go_wp2;go_ret2;exact ⟨rfl,hb1⟩
structure Tryz.Mv (S:Nat→Prop) (w w':World):Prop where
 os:w'.os=w.os
 tape:w'.tape=w.tape
 output:w'.output=w.output
 size:w.heap.size≤w'.heap.size
 block: ∀k,k<w.heap.size→ ¬S k→w'.heap[k]? =w.heap[k]?
theorem Tryz.Mv.refl (S:Nat→Prop) (w:World):Mv S w w:=⟨rfl,rfl,rfl,Nat.le_refl _,fun _ _ _=>rfl⟩
theorem Tryz.Mv.of_below {S:Nat→Prop} {w w':World} (h:Below w.heap.size w w'):Mv S w w':=⟨h.os,h.tape,h.output,h.size,fun k hk _=>h.block k hk⟩
theorem Tryz.Mv.setCell {S:Nat→Prop} {a w:World} (h:Mv S a w) (b o:Nat) (v:Value) (hb:S b∨a.heap.size≤b):Mv S a (w.setCell ⟨b,o,none⟩ v):=
 ⟨h.os,h.tape,h.output,Nat.le_trans h.size (by simp),fun k hk h1=>(Below.heap_setCell w _ _ k (fun e=>by
  have e':k=b:=e;rcases hb with h2|h2
  ·exact h1 (e'▸h2)
  ·omega)).trans (h.block k hk h1)⟩
theorem Tryz.Mv.grown {S:Nat→Prop} {a w w':World} {r:Nat} (h:Mv S a w) (hg:w.grownBy w' (some r)) (hr:S r∨a.heap.size≤r):Mv S a w':=
  ⟨hg.os.trans h.os,hg.tape.trans h.tape,hg.output.trans h.output,Nat.le_trans h.size hg.size,fun k hk h1=>
    (hg.block k (Nat.lt_of_lt_of_le hk h.size) (fun e=>by
      have e':=Option.some.inj e;rcases hr with h2|h2
      · exact h1 (e'▸h2)
      · omega)).trans (h.block k hk h1)⟩
theorem Tryz.Mv.below {S:Nat→Prop} {base:Nat} {w w':World} (h:Mv S w w') (hS: ∀k,S k→base≤k) (hw:base≤w.heap.size):Below base w w':=
 ⟨h.os,h.tape,h.output,h.size,fun k hk=>h.block k (by omega) (fun h1=>by have:=hS k h1;omega)⟩
theorem Tryz.GM.congr {w:World} {P L Bs B N:Nat} {g g':Nat→Int} (h:GM w P L Bs B N g) (hf: ∀j,g' j=g j):GM w P L Bs B N g':=by
 have:g'=g:=funext hf;rw [this];exact h
theorem Tryz.GM.setB {w:World} {P L Bs B N:Nat} {g:Nat→Int} (h:GM w P L Bs B N g) (j:Nat) (hj:j<N) (x:Int) (hx0:0≤x) (hx1:x<256):GM (w.setCell ⟨B,j,none⟩ (.int .u8 x)) P L Bs B N (fun q=>if q=j then x else g q):=by
 have hk: ∀k,k≠B→(w.setCell ⟨B,j,none⟩ (.int .u8 x)).heap[k]? =w.heap[k]? :=fun k hk=>Below.heap_setCell w _ _ k hk;have eP:=hk P h.pb;have eL:=hk L h.lb;have eS:=hk Bs h.sb;refine ⟨?_,?_,?_,?_,?_,fun q hq=> ?_,fun q hq=> ?_,fun q=> ?_,h.pb,h.lb,h.sb,Nat.lt_of_lt_of_le h.bl (by simp)⟩
 ·obtain ⟨c,h0⟩:=h.p0;exact ⟨c,by rw [World.cell?_of_block (a:=⟨P,0,none⟩) eP];exact h0⟩
 ·rw [World.cell?_of_block (a:=⟨P,1,none⟩) eP];exact h.p1
 ·rw [World.cell?_of_block (a:=⟨L,0,none⟩) eL];exact h.l0
 ·rw [World.cell?_of_block (a:=⟨L,1,none⟩) eL];exact h.l1
 ·rw [World.cell?_of_block (a:=⟨Bs,0,none⟩) eS];exact h.b0
 ·by_cases hqj:q=j
  ·subst hqj;rw [if_pos rfl];exact World.cell?_setCell_same' _ _ _ (by rw [h.full q hq];rfl)
  ·rw [if_neg hqj,World.cell?_setCell_other w ⟨B,j,none⟩ ⟨B,q,none⟩ _ (fun e=>hqj (congrArg Addr.off e).symm)];exact h.full q hq
 ·rw [World.frozen?_setCell];exact h.free q hq
 ·by_cases hqj:q=j
  ·rw [if_pos hqj];exact ⟨hx0,hx1⟩
  ·rw [if_neg hqj];exact h.byte q
def Tryz.putW (g:Nat→Int) (a k:Nat) (v:Int) (j:Nat):Int:=if a≤j∧j<a+k then v/2^(8*(j-a))%256 else g j
theorem Tryz.zsY (g:Nat→Int) (a:Nat) (v:Int) (j:Nat):putW g a 0 v j=g j:=by
 unfold putW;rw [if_neg (by omega)]
theorem Tryz.zsX (g:Nat→Int) (a i:Nat) (v:Int) (j:Nat):putW g a (i+1) v j=if j=a+i then v/2^(8*i)%256 else putW g a i v j:=by
 unfold putW;by_cases hj:j=a+i
 ·subst hj;rw [if_pos (by omega),if_pos rfl,show a+i-a=i by omega]
 ·rw [if_neg hj];by_cases h2:a≤j∧j<a+i
  ·rw [if_pos (by omega),if_pos h2]
  ·rw [if_neg (by omega),if_neg h2]
theorem Tryz.wrap_u8 (x:Int):IntKind.wrap .u8 x=x%256:=by unfold IntKind.wrap;simp [IntKind.signed,IntKind.bits]
set_option maxRecDepth 100000 in
theorem Tryz.ziI (P L Bs B N a k:Nat) (v:Int) (g:Nat→Int) (w:World) (st:GM w P L Bs B N g) (hN:N≤1048576) (hk:k=1∨k=2∨k=4∨k=8) (hin:a+k≤N):
    Calls prog 19 #[.pointer (some ⟨P,0,none⟩),.int .u64 a,.int .i64 k,.int .u64 v] w fun e w'=>e= .returned (.int .i64 0)∧GM w' P L Bs B N (putW g a k v)∧Mv (· =B) w w':=by
  have hq:=ziT;have hm:=zd9 P L Bs B N g w st;have hby:=zgv P L Bs B N a k g w st hN (by omega) hin;have hwk:IntKind.wrap .u64 (k:Int)=k:=wrap_u64 _ (by omega) (by omega);have hiw:=zih k hk w;go_enter func19,ntmps19;go_wp2_with (first
    | (go_at_call 77;refine hm.mono ?_;rintro e w' ⟨rfl,hw⟩;have hw:=hw.symm;subst hw)
    | (go_at_call 78;refine hiw.mono ?_;rintro e w' ⟨rfl,hw⟩;have hw:=hw.symm;subst hw)
    | (go_at_call 79;refine hby.mono ?_;rintro e w1 ⟨rfl,hb1⟩)
    | go_in)
  go_loopw [25] (fun c wr=> ∃i:Nat,i≤k∧c= .int .i64 i∧GM wr P L Bs B N (putW g a i v)∧Mv (· =B) w wr) (fun c _=>k-(RowKit.intOf c).toNat)
  case atStart=>exact ⟨0,Nat.zero_le _,rfl,(st.below hb1).congr (fun j=>zsY g a v j),Mv.of_below hb1⟩
  case round=>
    obtain ⟨i,hi,rfl,st',mv⟩:=hrel;by_cases hik:i<k
    · have hc:=st'.full (a+i) (by omega);have hf:=st'.free (a+i) (by omega);have hw8:=wrap_u8 (v/2^(8*i));go_wp2;exact ⟨⟨i+1,by omega,by push_cast;rfl,(st'.setB (a+i) (by omega) _ (Int.emod_nonneg _ (by omega)) (Int.emod_lt_of_pos _ (by omega))).congr (fun j=>zsX g a i v j),mv.setCell _ _ _ (Or.inl rfl)⟩,by simp only [RowKit.intOf];omega⟩
    · have hik':i=k:=by omega
      subst hik';go_wp2;go_ret;exact ⟨rfl,st',mv⟩
theorem Tryz.zti:(prog.info? 5).map (fun i=>(i.zero,i.size,i.bytes))=some (some (.int .u8 0),1,1):=by kernel_rfl
theorem Tryz.zae {w w':World} {b o:Nat} {cs:List Value} (h:w.rangeAt b o cs) (e:w'.heap[b]? =w.heap[b]?):w'.rangeAt b o cs:=fun j v hv=>by
 rw [World.cell?_of_block (a:=⟨b,o+j,none⟩) e];exact h j v hv
set_option maxRecDepth 100000 in
theorem Tryz.ztm (n:Nat) (w:World) (h1:1≤n) (hn:n≤1048576):
  Calls prog 126 #[.slice none 0 0,.int .i64 n] w fun e w'=> ∃cap,e= .returned (.slice (some ⟨w.heap.size,0,none⟩) 0 cap)∧w'.ownsRow w.heap.size 5 1 (.slice (some ⟨w.heap.size,0,none⟩) 0 cap) 0 []∧Below w.heap.size w w':=by
 obtain ⟨i0,hi0,hz0,hz1,hzb⟩:=info_parts zti;have hnc:Builtin.nextslicecap n 0=n:=nextslicecap_zero (by omega);have hb1:t5.bytes=1:=rfl;go_enter func126,ntmps126;go_wp2;refine bodyPost_ret (results_tmp rfl _ _ _) rfl ?_;have hge:=grownCap_ge w n 0 5;have hle:=grownCap_le_maxLen w n 0 5 (by unfold maxLen;omega);refine ⟨_,rfl,⟨by simp,Or.inr ⟨w.heap.size,grownCap w n 0 5,_,rfl,Nat.le_refl _,heap_alloc_last w _,Nat.zero_le _,hle,?_,by simp⟩⟩,((Below.refl _ w).alloc (Nat.le_refl _) _).drew⟩;simp only [Array.size_append,size_zeroCells];show n*1+(grownCap w n 0 5-n)*1=_;omega
def Tryz.row (g:Nat→Int) (a n:Nat):List Value:=(List.range n).map fun j=> .int .u8 (g (a+j))
theorem Tryz.zfl (g:Nat→Int) (a n:Nat):(row g a n).length=n:=by simp [row]
theorem Tryz.row_one (g:Nat→Int) (a n:Nat): ∀v∈row g a n,v.oneCell'=true:=fun v hv=>by
 obtain ⟨j,_,rfl⟩:=List.mem_map.1 hv;rfl
theorem Tryz.GM.range {w:World} {P L Bs B N:Nat} {g:Nat→Int} (h:GM w P L Bs B N g) (a n:Nat) (hn:a+n≤N):w.rangeAt B a (row g a n):=by
 intro j v hv;simp only [row,List.getElem?_map,Option.map_eq_some_iff] at hv;obtain ⟨k,hk,rfl⟩:=hv;rw [List.getElem?_eq_some_iff] at hk;obtain ⟨h1,h2⟩:=hk;simp at h1 h2;subst h2;exact h.full (a+j) (by omega)
set_option maxRecDepth 100000 in
theorem Tryz.zo1 (P L Bs B N:Nat) (g:Nat→Int) (w:World) (st:GM w P L Bs B N g) (h1:1≤N) (hN:N≤1048576):
    Calls prog 85 #[.slice (some ⟨Bs,0,none⟩) 1 2] w fun e w'=> ∃v,e= .returned v∧w'.ownsRow w.heap.size 5 1 v N (row g 0 N)∧Below w.heap.size w w':=by
  obtain ⟨i0,hi0,hz0,hz1,hzb⟩:=info_parts zti;have hgr:=fun w=>ztm N w h1 hN;have c0:=st.b0;go_enter func85,ntmps85;go_wp2;go_loopw [3,11] (fun s i wr=>wr=w∧((i= .int .i64 0∧s= .int .i64 0)∨(i= .int .i64 1∧s= .int .i64 N))) (fun _ i _=>1-(RowKit.intOf i).toNat)
  case atStart=>exact ⟨rfl,Or.inl ⟨rfl,rfl⟩⟩
  case round=>
    obtain ⟨hw,hrel⟩:=hrel;have hw:=hw.symm;subst hw;rcases hrel with ⟨rfl,rfl⟩|⟨rfl,rfl⟩
    · go_wp2;exact ⟨⟨trivial,Or.inr ⟨rfl,rfl⟩⟩,by simp [RowKit.intOf]⟩
    · go_wp2_with (first
        | (go_at_call 126;refine (hgr _).mono ?_;rintro e w1 ⟨cap1,rfl,hrow1,hb1⟩)
        | go_in)
      go_loopw [6,27] (fun v i w2=>(i= .int .i64 0∧v= .slice (some ⟨w.heap.size,0,none⟩) 0 cap1∧w2=w1)∨(i= .int .i64 1∧w2.ownsRow w.heap.size 5 1 v N (row g 0 N)∧Below w.heap.size w w2)) (fun _ i _=>1-(RowKit.intOf i).toNat)
      case atStart=>exact Or.inl ⟨rfl,rfl,rfl⟩
      case round=>
        have c1:=(st.below hb1).b0;have hr1:=(st.below hb1).range 0 N (by omega);have hbl:=st.bl;rcases hrel with ⟨rfl,rfl,rfl⟩|⟨rfl,hrow2,hb2⟩
        · go_wp2_with (first
            | (at_builtin;go_loud (refine wpList_append_own _ rfl _ _ 85 rfl w.heap.size 5 i0 (.int .u8 0) 1 1 underlying85 hi0 hz0 hz1 hzb rfl (by decide) _ _ _ rfl hrow1 ⟨B,0,none⟩ N N (row g 0 N) rfl (by rw [zfl];simp) (fun j v hv=>by rw [Addr.add_mid];exact hr1 j v hv) (row_one g 0 N) (by unfold maxLen;omega) (by omega) hb1.size ?_);intro v' w3 hown' hg3 hnil3;go_frame)
            | go_in)
          exact ⟨Or.inr ⟨rfl,by simpa using hown',hb1.grown hg3 hb1.size (fun j hj=>(hrow1.lt j hj).1)⟩,by simp [RowKit.intOf]⟩
        · go_wp2;go_ret;exact ⟨_,rfl,hrow2,hb2⟩
set_option maxRecDepth 100000 in
theorem Tryz.zq4 (P L Bs B N:Nat) (g:Nat→Int) (w:World) (st:GM w P L Bs B N g) (h1:1≤N) (hN:N≤1048576):
    Calls prog 35 #[.pointer (some ⟨P,0,none⟩)] w fun e w'=> ∃v,e= .returned v∧w'.ownsRow w.heap.size 5 1 v N (row g 0 N)∧Below w.heap.size w w':=by
  have hm:=zd9 P L Bs B N g w st;have hc:=zo1 P L Bs B N g w st h1 hN;have c1:=st.p1;go_enter func35,ntmps35;go_wp2_with (first
    | (go_at_call 77;refine hm.mono ?_;rintro e w' ⟨rfl,hw⟩;have hw:=hw.symm;subst hw)
    | (go_at_call 85;refine hc.mono ?_;rintro e w1 ⟨v1,rfl,hrow1,hb1⟩)
    | go_in)
  go_ret;exact ⟨_,rfl,hrow1,hb1⟩
set_option maxRecDepth 100000 in
theorem Tryz.zgP (P L Bs B N:Nat) (a:Int) (g:Nat→Int) (w:World) (st:GM w P L Bs B N g):
    Calls prog 49 #[.pointer (some ⟨P,0,none⟩),.int .u64 a,.int .i64 0] w fun e w'=>e= .returned (.tuple #[.slice none 0 0,.int .i64 0])∧w'=w:=by
  have hm:=zd9 P L Bs B N g w st;go_enter func49,ntmps49;go_wp2_with (first
    | (go_at_call 77;refine hm.mono ?_;rintro e w' ⟨rfl,hw⟩;have hw:=hw.symm;subst hw)
    | go_in)
  go_ret2;exact ⟨rfl,rfl⟩
set_option maxRecDepth 100000 in
theorem Tryz.zl4 (P L Bs B N:Nat) (a n:Int) (g:Nat→Int) (w:World) (st:GM w P L Bs B N g) (hN:N≤1048576) (h1:1≤N) (ha0:0≤a) (ha1:a<18446744073709551616) (hn:0≤n):
    Calls prog 51 #[.pointer (some ⟨P,0,none⟩),.int .u64 a,.int .u64 n] w fun e w'=>e= .returned (.bool (decide (1≤n∧a+n≤N)))∧Below w.heap.size w w':=by
  have hm:=zd9 P L Bs B N g w st;by_cases hin:1≤n∧a+n≤N
  · rw [decide_eq_true hin];obtain ⟨a',rfl⟩:=Int.eq_ofNat_of_zero_le ha0;obtain ⟨n',rfl⟩:=Int.eq_ofNat_of_zero_le hn;have hby:=zgv P L Bs B N a' n' g w st hN (by omega) (by omega);go_enter func51,ntmps51;go_wp2_with (first
      | (go_at_call 77;refine hm.mono ?_;rintro e w' ⟨rfl,hw⟩;have hw:=hw.symm;subst hw)
      | (go_at_call 79;refine hby.mono ?_;rintro e w1 ⟨rfl,hb1⟩)
      | go_in)
    go_ret;exact ⟨rfl,hb1⟩
  · rw [decide_eq_false hin];have hby:=zrG P L Bs B N a n g w st hN h1 ha0 ha1 hn hin;go_enter func51,ntmps51;go_wp2_with (first
      | (go_at_call 77;refine hm.mono ?_;rintro e w' ⟨rfl,hw⟩;have hw:=hw.symm;subst hw)
      | (go_at_call 79;refine hby.mono ?_;rintro e w1 ⟨rfl,hb1⟩)
      | go_in)
    go_ret;exact ⟨rfl,hb1⟩
def Tryz.putL (g:Nat→Int) (a:Nat):List Int→Nat→Int
 | [] => g
 | x::r=>putL (fun q=>if q=a then x else g q) (a+1) r
theorem Tryz.zgR: ∀(xs:List Int) (g:Nat→Int) (a j:Nat),putL g a xs j=if a≤j∧j<a+xs.length then xs.getD (j-a) 0 else g j
 | [], g,a,j=>by
  rw [if_neg (by simp)];rfl
 | x::r,g,a,j=>by
  rw [putL,zgR r];by_cases h:a+1≤j∧j<a+1+r.length
  ·rw [if_pos h,if_pos (by simp;omega),show j-a=(j-(a+1))+1 by omega,List.getD_cons_succ]
  ·rw [if_neg h];by_cases h2:j=a
   ·subst h2;rw [if_pos rfl,if_pos (by simp),Nat.sub_self,List.getD_cons_zero]
   ·rw [if_neg h2,if_neg (by simp;omega)]
theorem Tryz.GM.setL {P L Bs B N:Nat}: ∀(xs:List Int) (a:Nat) (g:Nat→Int) (w:World),GM w P L Bs B N g→a+xs.length≤N→(∀x∈xs,0≤x∧x<256)→GM (w.setCells B a (xs.map (Value.int .u8))) P L Bs B N (putL g a xs)
 | [], _,_,_,h,_,_=>h
 | x::r,a,g,w,h,hl,hb=>by
  rw [List.map_cons,World.setCells,putL];rw [List.length_cons] at hl;have hx:=hb x (by simp);exact GM.setL r (a+1) _ _ (h.setB a (by omega) x hx.1 hx.2) (by omega) (fun y hy=>hb y (by simp [hy]))
theorem Tryz.zcH (b:Nat): ∀(vs:List Value) (o:Nat) (w:World),w.grownBy (w.setCells b o vs) (some b)
 | [], _,w=>⟨rfl,rfl,rfl,Nat.le_refl _,fun _ _ _=>rfl⟩
 | v::r,o,w=>by
  rw [World.setCells];have h2:=zcH b r (o+1) (w.setCell ⟨b,o,none⟩ v);exact ⟨h2.os,h2.tape,h2.output,Nat.le_trans (by simp) h2.size,fun k hk hne=>(h2.block k (by simpa using hk) hne).trans (Below.heap_setCell w _ _ k (fun e=>hne (by rw [e])))⟩
set_option maxRecDepth 100000 in
theorem Tryz.ziF (P L Bs B N a R o c:Nat) (xs:List Int) (g:Nat→Int) (w:World) (st:GM w P L Bs B N g) (hN:N≤1048576) (hn:1≤xs.length) (hin:a+xs.length≤N) (hb: ∀x∈xs,0≤x∧x<256)
    (hr:w.rangeAt R o (xs.map (Value.int .u8))) (hR:R<w.heap.size):
    Calls prog 100 #[.pointer (some ⟨P,0,none⟩),.int .u64 a,.slice (some ⟨R,o,none⟩) xs.length c] w fun e w'=>e= .returned (.int .i64 0)∧GM w' P L Bs B N (putL g a xs)∧Mv (· =B) w w':=by
  have hq:=ziT;have hm:=zd9 P L Bs B N g w st;have hby:=zgv P L Bs B N a xs.length g w st hN (by omega) hin;have hwk:IntKind.wrap .u64 (xs.length:Int)=xs.length:=wrap_u64 _ (by omega) (by omega);have hcp:=fun w1 (h:Below w.heap.size w w1)=>run_copy_cells (P:=prog) w1 85 85 3 5 B a xs.length (N-a) ⟨R,o,none⟩ xs.length c (xs.map (Value.int .u8)) underlying85 (by kernel_rfl) (by simp) (fun j v hv=>by rw [Addr.add_mid];exact (zae hr (h.block R hR)) j v hv)
    (fun j hj=>by rw [(st.below h).full (a+j) (by simp at hj;omega)];rfl) (fun j hj=>(st.below h).free (a+j) (by simp at hj;omega)) (fun v hv=>by obtain ⟨x,_,rfl⟩:=List.mem_map.1 hv;rfl)
  rw [List.length_map] at hcp;go_enter func100,ntmps100;go_wp2_with (first
    | (go_at_call 77;refine hm.mono ?_;rintro e w' ⟨rfl,hw⟩;have hw:=hw.symm;subst hw)
    | (go_at_call 79;refine hby.mono ?_;rintro e w1 ⟨rfl,hb1⟩;have hcp1:=hcp _ hb1)
    | go_in)
  go_ret;exact ⟨rfl,(st.below hb1).setL xs a g _ hin hb,(Mv.of_below hb1).grown (zcH B _ _ _) (Or.inl rfl)⟩
set_option maxRecDepth 100000 in
theorem Tryz.zrA (R N c:Nat) (w:World) (c0:w.cell? ⟨R,0,none⟩=some (.int .u64 0)) (c1:w.cell? ⟨R,1,none⟩=some (.int .u64 N)) (h1:1≤N) (hN:N≤1048576):
  Calls prog 46 #[.slice (some ⟨R,0,none⟩) 1 c] w fun e w'=>e= .returned (.int .i64 0)∧Below w.heap.size w w':=by
 have hR:=World.block_lt_of_cell? w _ c0;have e1:IntKind.wrap .u64 ((N:Int)-1)=N-1:=wrap_u64 _ (by omega) (by omega);have e2:IntKind.wrap .u64 (1048576-(N:Int))=1048576-N:=wrap_u64 _ (by omega) (by omega);go_enter func46,ntmps46;go_wp2;go_loopw [3,12] (fun r i w2=>(i= .int .i64 0∧r= .int .u64 1048576∧w2=w)∨(i= .int .i64 1∧Below w.heap.size w w2)) (fun _ i _=>1-(RowKit.intOf i).toNat)
 case atStart=>exact Or.inl ⟨rfl,rfl,rfl⟩
 case round=>
  rcases hrel with ⟨rfl,rfl,hw⟩|⟨rfl,hb⟩
  ·have hw:=hw.symm;subst hw;go_wp2;exact ⟨Or.inr ⟨rfl,(Below.refl _ w).alloc (Nat.le_refl _) _⟩,by simp [RowKit.intOf]⟩
  ·go_wp2;go_ret;exact ⟨rfl,hb⟩
theorem Tryz.zvE:(prog.info? 39).map (fun i=>(i.zero,i.size,i.bytes))=some (some (.agg #[.int .u64 0,.int .u64 0]),2,16):=by kernel_rfl
theorem Tryz.zvD:(prog.info? 85).map (fun i=>(i.zero,i.size,i.bytes))=some (some (.slice none 0 0),1,24):=by kernel_rfl
theorem Tryz.zsL (a:Option Addr) (n c:Nat) (w:World):(binOp .eql 40 (.slice a n c) (.slice none 0 0)).run prog w= .ok (.bool a.isNone) w:=by
 simp only [binOp];simp [run_equal_slice_nil w 40 39 _ _ _ underlying40]
theorem Tryz.zil (w:World) (cs:Array Value) (t:TypeId) (o:Nat):(w.alloc (.cells cs t)).frozen? ⟨w.heap.size,o,none⟩=false:=by
 have e:=heap_alloc_last w (.cells cs t);simp only [World.frozen?,e];simp
set_option maxRecDepth 100000 in
theorem Tryz.zir (R N c:Nat) (w:World) (c0:w.cell? ⟨R,0,none⟩=some (.int .u64 0)) (c1:w.cell? ⟨R,1,none⟩=some (.int .u64 N)):
    Calls prog 47 #[.slice (some ⟨R,0,none⟩) 1 c] w fun e w'=> ∃L cap,e= .returned (.slice (some ⟨L,0,none⟩) 1 cap)∧w.heap.size≤L∧w'.cell? ⟨L,0,none⟩=some (.int .u64 0)∧w'.cell? ⟨L,1,none⟩=some (.int .u64 N)∧Below w.heap.size w w':=by
  have hq:=zsL;have hR:=World.block_lt_of_cell? w _ c0;obtain ⟨i0,hi0,hz0,hz1,hzb⟩:=info_parts zvE;have hmade:=World.ownsRow_made (base:=w.heap.size) (e:=39) (size:=2) w #[] 0 (Nat.le_refl _) (by unfold maxLen;omega) rfl;have hb0:=(Below.refl w.heap.size w).alloc (Nat.le_refl _) (.cells #[] 39);have hr:(w.alloc (.cells #[] 39)).rangeAt R 0 [.int .u64 0,.int .u64 N]:=by
    refine zae (w:=w) ?_ (Below.heap_alloc w _ R hR);intro j v hv
    match j with
    | 0=>cases hv;exact c0
    | 1=>cases hv;exact c1
    | j+2=>cases hv
  go_enter func47,ntmps47;go_wp2_with (first
    | (at_builtin;go_loud (refine wpList_append_own _ rfl _ _ 40 rfl w.heap.size 39 i0 (.agg #[.int .u64 0,.int .u64 0]) 2 16 underlying40 hi0 hz0 hz1 hzb rfl (by decide) _ _ _ rfl hmade ⟨R,0,none⟩ 1 c [.int .u64 0,.int .u64 N] rfl rfl (fun j v hv=>by rw [Addr.add_mid];exact hr j v hv) (by simp [Value.oneCell']) (by unfold maxLen;omega) (by omega) (by simp) ?_);intro v' w3 hown' hg3 hnil3;go_frame)
    | go_in)
  go_ret;rcases hown'.2 with ⟨_,h⟩|⟨L,cap,cur,rfl,hL,hblk,h1,h2,h3,h4⟩
  · omega
  · have e0:cur[0]? =some (.int .u64 0):=by
      have:=congrArg (fun l:List Value=>l[0]?) h4;simpa using this
    have e1:cur[1]? =some (.int .u64 N):=by
      have:=congrArg (fun l:List Value=>l[1]?) h4;simpa using this
    refine ⟨L,⟨cap,rfl⟩,hL,?_,?_,hb0.grown hg3 (by simp) (fun j hj=>(hmade.lt j hj).1)⟩
    · rw [cell_of_row _ L 0 cur _ (0,0) hblk];exact e0
    · rw [cell_of_row _ L 1 cur _ (0,0) hblk];exact e1
set_option maxRecDepth 100000 in
theorem Tryz.zvu (R N c:Nat) (w:World) (c0:w.cell? ⟨R,0,none⟩=some (.int .u64 0)) (c1:w.cell? ⟨R,1,none⟩=some (.int .u64 N)) (h1:1≤N) (hN:N≤1048576):
    Calls prog 9 #[.slice (some ⟨R,0,none⟩) 1 c] w fun e w'=> ∃P L Bs B,e= .returned (.tuple #[.pointer (some ⟨P,0,none⟩),.int .i64 0])∧GM w' P L Bs B N (fun _=>0)∧Below w.heap.size w w'∧w.heap.size≤P∧w.heap.size≤L∧w.heap.size≤Bs∧w.heap.size≤B:=by
  obtain ⟨i0,hi0,hz0,hz1,hzb⟩:=info_parts zvD;obtain ⟨i1,hi1,hy0,hy1,hyb⟩:=info_parts zti;have hch:=zrA R N c w c0 c1 h1 hN;have hcl:=fun w1 (h:Below w.heap.size w w1)=>zir R N c w1 ((h.cell (World.block_lt_of_cell? w _ c0)).trans c0) ((h.cell (World.block_lt_of_cell? w _ c1)).trans c1);have hmk:=fun w=>run_makeSlice (P:=prog) w 110 85 i0 (.slice none 0 0) underlying110 hi0 hz0 .i64 .i64 1 2 (by omega) (by omega) (by rw [hz1];decide) (by rw [hzb];decide) (by decide);have hmc:madeCells (Value.slice none 0 0).cells (2*1)= #[.slice none 0 0,.slice none 0 0]:=by kernel_rfl
  simp only [hz1,show (Int.toNat 1)=1 from rfl,show (Int.toNat 2)=2 from rfl,hmc] at hmk;have hw2:IntKind.wrap .i64 2=2:=by decide
  go_enter func9,ntmps9;go_wp2_with (first
    | (go_at_call 46;refine hch.mono ?_;rintro e w1 ⟨rfl,hb1⟩)
    | go_in)
  have d0:=(hb1.cell (World.block_lt_of_cell? w _ c0)).trans c0;have d1:=(hb1.cell (World.block_lt_of_cell? w _ c1)).trans c1;have hR1:R<w1.heap.size:=World.block_lt_of_cell? w1 _ d0;go_cut [5] from 13 to 22 (fun p wx=> ∃P L Bs lc,p= .pointer (some ⟨P,0,none⟩)∧wx.cell? ⟨P,0,none⟩=some (.slice (some ⟨L,0,none⟩) 1 lc)∧wx.cell? ⟨P,1,none⟩=some (.slice (some ⟨Bs,0,none⟩) 1 2)∧
    wx.cell? ⟨L,0,none⟩=some (.int .u64 0)∧wx.cell? ⟨L,1,none⟩=some (.int .u64 N)∧wx.cell? ⟨Bs,0,none⟩=some (.slice none 0 0)∧wx.frozen? ⟨Bs,0,none⟩=false∧w.heap.size≤P∧w.heap.size≤L∧w.heap.size≤Bs∧P≠Bs∧L≠Bs∧Below w.heap.size w wx)
  case first=>
    go_region_with (first
      | (go_at_call 47;refine (zir R N c _ ?_ ?_).mono ?_;exact (by first|exact d0|exact ((World.cell?_of_block (a:=⟨R,0,none⟩) (Below.heap_alloc w1.drew _ R hR1)).trans d0));exact (by first|exact d1|exact ((World.cell?_of_block (a:=⟨R,1,none⟩) (Below.heap_alloc w1.drew _ R hR1)).trans d1));rintro e w2 ⟨L,lc,rfl,hL,hl0,hl1,hb2⟩))
    all_goals (go_wp2_with fail;go_meet)
    · have hLl:L<w2.heap.size:=World.block_lt_of_cell? _ _ hl0;have hbx:=((Below.refl w2.heap.size w2).alloc (Nat.le_refl _) (.cells #[.slice none 0 0,.slice none 0 0] 85)).alloc (by simp) (.cells #[.slice (some ⟨L,0,none⟩) 1 lc,.slice (some ⟨w2.heap.size,0,none⟩) 1 2] 112);have z:=hb2.size;have z1:=hb1.size;have z2:w1.drew.heap.size=w1.heap.size:=rfl;exact ⟨w2.heap.size+1,L,w2.heap.size,lc,rfl,by simp,by simp,(hbx.cell (p:=⟨L,0,none⟩) hLl).trans hl0,(hbx.cell (p:=⟨L,1,none⟩) hLl).trans hl1,by simp,((World.frozen?_of_block (a:=⟨w2.heap.size,0,none⟩) (Below.heap_alloc _ _ _ (by simp))).trans (zil w2 _ _ 0)),by omega,by omega,by omega,by omega,by omega,
        (hb1.trans (((Below.refl _ w1).drew.trans hb2).mono hb1.size)).trans (hbx.mono (by omega))⟩
    · have hLl:L<w2.heap.size:=World.block_lt_of_cell? _ _ hl0;have hbx:=(Below.refl w2.heap.size w2).alloc (Nat.le_refl _) (.cells #[.slice (some ⟨L,0,none⟩) 1 lc,.slice (some ⟨w1.heap.size,0,none⟩) 1 2] 112);have z:=hb2.size;have z1:=hb1.size;have z2:w1.drew.heap.size=w1.heap.size:=rfl;have z3:(w1.alloc (.cells #[.slice none 0 0,.slice none 0 0] 85)).drew.heap.size=w1.heap.size+1:=by simp
      rw [z3] at z hL hb2;have q0:(w1.alloc (.cells #[.slice none 0 0,.slice none 0 0] 85)).drew.cell? ⟨w1.heap.size,0,none⟩=some (.slice none 0 0):=by simp
      have q1:(w1.alloc (.cells #[.slice none 0 0,.slice none 0 0] 85)).drew.frozen? ⟨w1.heap.size,0,none⟩=false:=zil w1 _ _ 0;exact ⟨w2.heap.size,L,w1.heap.size,lc,rfl,by simp,by simp,(hbx.cell (p:=⟨L,0,none⟩) hLl).trans hl0,(hbx.cell (p:=⟨L,1,none⟩) hLl).trans hl1,
        (hbx.cell (p:=⟨w1.heap.size,0,none⟩) (by show w1.heap.size<_;omega)).trans ((hb2.cell (p:=⟨w1.heap.size,0,none⟩) (by show w1.heap.size<_;omega)).trans q0),
        (hbx.frozen (p:=⟨w1.heap.size,0,none⟩) (by show w1.heap.size<_;omega)).trans ((hb2.frozen (p:=⟨w1.heap.size,0,none⟩) (by show w1.heap.size<_;omega)).trans q1),by omega,by omega,by omega,by omega,by omega,
        (hb1.trans ((((Below.refl _ w1).alloc (Nat.le_refl _) _).drew).mono hb1.size)).trans ((hb2.mono (by omega)).trans (hbx.mono (by omega)))⟩
  case rest=>
    obtain ⟨P,L,Bs,lc,rfl,d0,d1,d2,d3,d4,d5,d6,d7,d8,d9,d10,hbx⟩:=hcut;have hmk2:=fun w=>run_makeSlice (P:=prog) w 85 5 i1 (.int .u8 0) underlying85 hi1 hy0 .u64 .u64 N N (by omega) (Int.le_refl _) (by rw [hy1];omega) (by rw [hyb];omega) (by omega);simp only [hy1,Int.toNat_natCast] at hmk2;have hR2:R<w.heap.size:=World.block_lt_of_cell? w _ c0;have r0:=(hbx.cell (p:=⟨R,0,none⟩) hR2).trans c0;have r1:=(hbx.cell (p:=⟨R,1,none⟩) hR2).trans c1;have lP:P<wc.heap.size:=World.block_lt_of_cell? wc _ d0;have lL:L<wc.heap.size:=World.block_lt_of_cell? wc _ d2;have lB:Bs<wc.heap.size:=World.block_lt_of_cell? wc _ d4;have hb3:=(Below.refl wc.heap.size wc).alloc (Nat.le_refl _) (.cells #[.int .u64 0,.int .u64 N] 39);have f1:=(hb3.cell (p:=⟨P,1,none⟩) lP).trans d1;have f4:=(hb3.cell (p:=⟨Bs,0,none⟩) lB).trans d4;have f5:=(hb3.frozen (p:=⟨Bs,0,none⟩) lB).trans d5;go_wp2;go_loopw [25] (fun i wr=>(i= .int .i64 0∧wr=wc)∨(i= .int .i64 1∧ ∃B,GM wr P L Bs B N (fun _=>0)∧Below w.heap.size w wr∧w.heap.size≤B)) (fun i _=>1-(RowKit.intOf i).toNat)
    case atStart=>exact Or.inl ⟨rfl,rfl⟩
    case round=>
      rcases hrel with ⟨rfl,hw⟩|⟨rfl,B,st,hb,hB⟩
      · have hw:=hw.symm;subst hw;go_wp2;go_region;go_wp2_with fail;obtain ⟨C,hC⟩: ∃C,madeCells #[Value.int .u8 0] N=C:=⟨_,rfl⟩;have h1C: ∀j,j<N→C[j]? =some (.int .u8 0):=by
          intro j hj;rw [←hC];simp [madeCells,hj,Nat.mod_one]
        rw [hC];obtain ⟨w4,h4⟩: ∃w4,wc.setCell ⟨Bs,0,none⟩ (.slice (some ⟨wc.heap.size+1,0,none⟩) N N)=w4:=⟨_,rfl⟩;have z4:w4.heap.size=wc.heap.size:=by rw [←h4];simp
        have k4: ∀(a:Addr),a.block≠Bs→w4.cell? a=wc.cell? a:=fun a ha=>by rw [←h4];exact World.cell?_setCell_other wc ⟨Bs,0,none⟩ a _ (fun e=>ha (congrArg Addr.block e).symm)
        have b4:w4.cell? ⟨Bs,0,none⟩=some (.slice (some ⟨wc.heap.size+1,0,none⟩) N N):=by rw [←h4];exact World.cell?_setCell_same' _ _ _ (by rw [d4];rfl)
        have v4:Mv (· =Bs) wc w4:=by rw [←h4];exact (Mv.refl _ wc).setCell _ _ _ (Or.inl rfl)
        rw [h4];clear h4;have hb6:=((Below.refl w4.heap.size w4).alloc (Nat.le_refl _) (.cells #[.int .u64 0,.int .u64 N] 39)).alloc (by simp) (.cells C 5);have q6:(((w4.alloc (.cells #[.int .u64 0,.int .u64 N] 39)).alloc (.cells C 5)).drew).heap[wc.heap.size+1]? =some (.cells C 5 (0,0)):=by
          have:=heap_alloc_last (w4.alloc (.cells #[.int .u64 0,.int .u64 N] 39)) (.cells C 5);rw [show (w4.alloc (.cells #[.int .u64 0,.int .u64 N] 39)).heap.size=wc.heap.size+1 by simp [z4]] at this;exact this
        have hcell: ∀(a:Addr) v,a.block≠Bs→wc.cell? a=some v→(((w4.alloc (.cells #[.int .u64 0,.int .u64 N] 39)).alloc (.cells C 5)).drew).cell? a=some v:=fun a v ha hv=>
          (hb6.cell (p:=a) (by rw [z4];exact World.block_lt_of_cell? wc _ hv)).trans ((k4 a ha).trans hv)
        refine ⟨Or.inr ⟨rfl,wc.heap.size+1,⟨⟨lc,hcell _ _ d9 d0⟩,hcell _ _ d9 d1,hcell _ _ d10 d2,hcell _ _ d10 d3,(hb6.cell (p:=⟨Bs,0,none⟩) (by rw [z4];exact lB)).trans b4,fun j hj=> ?_,fun j hj=> ?_,fun j=>⟨Int.le_refl _,by omega⟩,by omega,by omega,by omega,?_⟩,?_,?_⟩,by simp [RowKit.intOf]⟩
        · rw [cell_of_row _ _ j C _ (0,0) q6];exact h1C j hj
        · simp [World.frozen?,q6]
        · simp [z4]
        · exact hbx.trans ((v4.below (fun k hk=>by rw [hk];exact d8) (hbx.size)).trans ((hb6.mono (by rw [z4];exact hbx.size)).drew))
        · have:=hbx.size;omega
      · go_wp2;go_ret2;exact ⟨P,L,Bs,B,rfl,st,hb,d6,d7,d8,hB⟩
end Go.Proofs
namespace Go.Dw
inductive T (α:Type) where
 | leaf
 | node (l:T α) (v:Option α) (r:T α)
namespace T
variable {α:Type}
noncomputable def get (t:T α):Nat→Option α:=
 T.rec (motive:=fun _=>Nat→Option α) (fun _=>none)
  (fun _ v _ il ir n=>Nat.casesOn n v (fun m=>Nat.casesOn (Nat.mod m 2) (il (Nat.div m 2)) (fun _=>ir (Nat.div m 2)))) t
noncomputable def mkL (v:Option α) (r l:T α):T α:=T.casesOn l (.node .leaf v r) (fun a b c=> .node (.node a b c) v r)
noncomputable def mkR (v:Option α) (l r:T α):T α:=T.casesOn r (.node l v .leaf) (fun a b c=> .node l v (.node a b c))
noncomputable def zuU (ih:T α→Nat→α→T α) (n:Nat) (x:α):T α:=
 Nat.casesOn n (.node .leaf (some x) .leaf)
  (fun m=>Nat.casesOn (Nat.mod m 2) (mkL none .leaf (ih .leaf (Nat.div m 2) x)) (fun _=>mkR none .leaf (ih .leaf (Nat.div m 2) x)))
noncomputable def setNode (ih:T α→Nat→α→T α) (n:Nat) (x:α) (l:T α) (v:Option α) (r:T α):T α:=
 Nat.casesOn n (.node l (some x) r)
  (fun m=>Nat.casesOn (Nat.mod m 2) (mkL v r (ih l (Nat.div m 2) x)) (fun _=>mkR v l (ih r (Nat.div m 2) x)))
noncomputable def setF (f:Nat):T α→Nat→α→T α:=
 Nat.rec (motive:=fun _=>T α→Nat→α→T α) (fun t _ _=>t)
  (fun _ ih t n x=>T.casesOn t (zuU ih n x) (fun l v r=>setNode ih n x l v r)) f
noncomputable def set (t:T α) (n:Nat) (x:α):T α:=setF (Nat.succ n) t n x
end T
structure Fld where
 i:Nat
 lo:Nat
 hi:Nat
 fr:Nat
 n:Nat
 sh:Nat
inductive SE where
 | lit (n:Int)
 | var (i:Nat)
 | bin (o:BinOp) (k:IntKind) (a b:SE)
 | wrap (k:IntKind) (a:SE)
 | flds (l:List Fld) (c:Nat)
inductive SB where
 | lit (b:Bool)
 | var (i:Nat)
 | cmp (o:BinOp) (a b:SE)
 | not (a:SB)
 | beq (a b:SB)
 | and (a b:SB)
structure Val where
 i:Nat→Int
 b:Nat→Bool
 v:Nat→Value
def Val.zero:Val:=⟨fun _=>0,fun _=>false,fun _=> .bool false⟩
def zct (o:BinOp) (k:IntKind) (x y:Int):Int:=
 let a:=BitVec.ofInt k.bits x
 let b:=BitVec.ofInt k.bits y
 match o with
 | .and=>k.wrap (a&&&b).toNat
 | .or=>k.wrap (a|||b).toNat
 | .xor=>k.wrap (a^^^b).toNat
 | _=>k.wrap (a&&& ~~~b).toNat
def zcq (o:BinOp) (k:IntKind) (x y:Int):Int:=
 match o with
 | .add=>k.wrap (x+y)
 | .sub=>k.wrap (x-y)
 | .mul=>k.wrap (x*y)
 | .quo=>k.wrap (x.tdiv y)
 | .rem=>x.tmod y
 | .shl=>k.wrap (x*2^(min y.toNat k.bits))
 | .shr=>x.fdiv (2^(min y.toNat k.bits))
 | o=>zct o k x y
def zem (o:BinOp) (x y:Int):Bool:=
 match o with
 | .eql=>x==y
 | .neq=>x !=y
 | .lss=>x<y
 | .leq=>x≤y
 | .gtr=>x>y
 | _=>x≥y
def Fld.den (ρ:Val) (f:Fld):Nat:=(((max f.lo (min (ρ.i f.i).toNat f.hi))>>>f.fr)%2^f.n)<<<f.sh
def zab (ρ:Val):List Fld→Nat→Nat
 | [], c=>c
 | f::l,c=>f.den ρ|||zab ρ l c
def SE.den (ρ:Val):SE→Int
 | .lit n=>n
 | .var i=>ρ.i i
 | .bin o k a b=>zcq o k (a.den ρ) (b.den ρ)
 | .wrap k a=>k.wrap (a.den ρ)
 | .flds l c=>Int.ofNat (zab ρ l c)
def SB.den (ρ:Val):SB→Bool
 | .lit b=>b
 | .var i=>ρ.b i
 | .cmp o a b=>zem o (a.den ρ) (b.den ρ)
 | .not a=> !(a.den ρ)
 | .beq a b=>a.den ρ==b.den ρ
 | .and a b=>a.den ρ&&b.den ρ
def Fld.beq (f g:Fld):Bool:=
 match Nat.beq f.i g.i,Nat.beq f.lo g.lo,Nat.beq f.hi g.hi,Nat.beq f.fr g.fr,Nat.beq f.n g.n,Nat.beq f.sh g.sh with
 | true,true,true,true,true,true=>true
 | _,_,_,_,_,_=>false
def zji:List Fld→List Fld→Bool
 | [], [] => true
 | f::l,g::m=>match f.beq g with|true=>zji l m|false=>false
 | _,_=>false
def SE.beq:SE→SE→Bool
 | .lit a,.lit b=>match a,b with
  | .ofNat x,.ofNat y=>Nat.beq x y
  | .negSucc x,.negSucc y=>Nat.beq x y
  | _,_=>false
 | .var i,.var j=>Nat.beq i j
 | .bin o k a b,.bin o' k' a' b'=>if o=o' then (if k=k' then (match SE.beq a a' with|true=>SE.beq b b'|false=>false) else false) else false
 | .wrap k a,.wrap k' a'=>if k=k' then SE.beq a a' else false
 | .flds l c,.flds l' c'=>match zji l l' with|true=>Nat.beq c c'|false=>false
 | _,_=>false
def SB.eqv:SB→SB→Bool
 | .lit a,.lit b=>a==b
 | .var i,.var j=>Nat.beq i j
 | .cmp o a b,.cmp o' a' b'=>if o=o' then (match SE.beq a a' with|true=>SE.beq b b'|false=>false) else false
 | .not a,.not b=>SB.eqv a b
 | .beq a b,.beq a' b'=>match SB.eqv a a' with|true=>SB.eqv b b'|false=>false
 | .and a b,.and a' b'=>match SB.eqv a a' with|true=>SB.eqv b b'|false=>false
 | _,_=>false
def zcR:IntKind→Nat
 | .i8=>128| .i16=>32768| .i32=>2147483648| .i64=>9223372036854775808
 | .u8=>256| .u16=>65536| .u32=>4294967296| .u64=>18446744073709551616
def zgz (k:IntKind) (n:Int):Int:=
 match n with
 | .ofNat m=>match Nat.blt m (zcR k) with
  | true=> .ofNat m
  | false=>k.wrap n
 | .negSucc m=>match k.signed with
  | true=>match Nat.blt m (zcR k) with
   | true=> .negSucc m
   | false=>k.wrap n
  | false=>k.wrap n
def ltI:Int→Int→Bool
 | .ofNat a,.ofNat b=>Nat.blt a b
 | .negSucc _,.ofNat _=>true
 | .ofNat _,.negSucc _=>false
 | .negSucc a,.negSucc b=>Nat.blt b a
def eqI:Int→Int→Bool
 | .ofNat a,.ofNat b=>Nat.beq a b
 | .negSucc a,.negSucc b=>Nat.beq a b
 | _,_=>false
def cmpF (o:BinOp) (x y:Int):Bool:=
 match o with
 | .eql=>eqI x y
 | .neq=>match eqI x y with|true=>false|false=>true
 | .lss=>ltI x y
 | .leq=>match ltI y x with|true=>false|false=>true
 | .gtr=>ltI y x
 | _=>match ltI x y with|true=>false|false=>true
def bitsF.nat (o:BinOp) (a b:Nat):Int:=
 match o with
 | .and=> .ofNat (Nat.land a b)
 | .or=> .ofNat (Nat.lor a b)
 | .xor=> .ofNat (Nat.xor a b)
 | _=> .ofNat (Nat.xor a (Nat.land a b))
def bitsF (o:BinOp) (k:IntKind) (x y:Int):Int:=
 match x,y with
 | .ofNat a,.ofNat b=>
  match Nat.blt a (zcR k),Nat.blt b (zcR k) with
  | true,true=>bitsF.nat o a b
  | _,_=>zct o k x y
 | _,_=>zct o k x y
def shrF (k:IntKind) (x:Int) (y:Nat):Int:=
 match x with
 | .ofNat a=> .ofNat (Nat.div a (Nat.pow 2 (match Nat.blt y k.bits with|true=>y|false=>k.bits)))
 | .negSucc _=>x.fdiv (2^(min y k.bits))
def shlF (k:IntKind) (x:Int) (y:Nat):Int:=
 match x with
 | .ofNat a=>zgz k (.ofNat (Nat.mul a (Nat.pow 2 (match Nat.blt y k.bits with|true=>y|false=>k.bits))))
 | .negSucc _=>k.wrap (x*2^(min y k.bits))
def addI:Int→Int→Int
 | .ofNat a,.ofNat b=> .ofNat (Nat.add a b)
 | x,y=>x+y
def subI:Int→Int→Int
 | .ofNat a,.ofNat b=>match Nat.ble b a with|true=> .ofNat (Nat.sub a b)|false=> .negSucc (Nat.sub (Nat.sub b a) 1)
 | x,y=>x-y
def mulI:Int→Int→Int
 | .ofNat a,.ofNat b=> .ofNat (Nat.mul a b)
 | x,y=>x*y
def divI:Int→Int→Int
 | .ofNat a,.ofNat b=> .ofNat (Nat.div a b)
 | x,y=>x.tdiv y
def modI:Int→Int→Int
 | .ofNat a,.ofNat b=> .ofNat (Nat.mod a b)
 | x,y=>x.tmod y
def intF (o:BinOp) (k:IntKind) (x y:Int):Option Int:=
 match o with
 | .add=>some (zgz k (addI x y))
 | .sub=>some (zgz k (subI x y))
 | .mul=>some (zgz k (mulI x y))
 | .quo=>match eqI y 0 with|true=>none|false=>some (zgz k (divI x y))
 | .rem=>match eqI y 0 with|true=>none|false=>some (modI x y)
 | .shl=>match y with| .ofNat n=>some (shlF k x n)|_=>none
 | .shr=>match y with| .ofNat n=>some (shrF k x n)|_=>none
 | .and=>some (bitsF .and k x y)
 | .or=>some (bitsF .or k x y)
 | .xor=>some (bitsF .xor k x y)
 | .andNot=>some (bitsF .andNot k x y)
 | _=>none
def zdA {β:Type} (n:Nat) (k:Nat→β):β:=Nat.casesOn n (k 0) (fun m=>k (Nat.succ m))
def kn:IntKind→Nat
 | .i8=>0| .i16=>1| .i32=>2| .i64=>3| .u8=>4| .u16=>5| .u32=>6| .u64=>7
def wOf:IntKind→Nat
 | .i8=>7| .i16=>15| .i32=>31| .i64=>63| .u8=>8| .u16=>16| .u32=>32| .u64=>64
def sgn:IntKind→Bool
 | .i8| .i16| .i32| .i64=>true
 | _=>false
def zcQ (W:Nat):List Fld→List Fld
 | [] => []
 | f::l=>match Nat.blt f.sh W with
  | false=>zcQ W l
  | true=>match Nat.ble (Nat.add f.sh f.n) W with
   | true=>f::zcQ W l
   | false=>⟨f.i,f.lo,f.hi,f.fr,Nat.sub W f.sh,f.sh⟩::zcQ W l
def zf6 (m:Nat):List Fld→List Fld
 | [] => []
 | f::l=>match Nat.ble m f.sh with
  | true=>⟨f.i,f.lo,f.hi,f.fr,f.n,Nat.sub f.sh m⟩::zf6 m l
  | false=>match Nat.blt m (Nat.add f.sh f.n) with
   | true=>⟨f.i,f.lo,f.hi,Nat.add f.fr (Nat.sub m f.sh),Nat.sub f.n (Nat.sub m f.sh),0⟩::zf6 m l
   | false=>zf6 m l
def zpN (m:Nat):List Fld→List Fld
 | [] => []
 | f::l=>⟨f.i,f.lo,f.hi,f.fr,f.n,Nat.add f.sh m⟩::zpN m l
def fuse (g f:Fld):Option Fld:=
 match Nat.beq g.i f.i,Nat.beq g.lo f.lo,Nat.beq g.hi f.hi,Nat.beq (Nat.add g.fr g.n) f.fr,Nat.beq (Nat.add g.sh g.n) f.sh with
 | true,true,true,true,true=>some ⟨g.i,g.lo,g.hi,g.fr,Nat.add g.n f.n,g.sh⟩
 | _,_,_,_,_=>none
def zkF:List Fld→Fld→List Fld
 | [], f=> [f]
 | g::l,f=>match fuse g f with
  | some h=>zkF l h
  | none=>match fuse f g with
   | some h=>zkF l h
   | none=>g::zkF l f
def zdP (l:List Fld):List Fld→List Fld
 | [] => l
 | f::m=>zdP (zkF l f) m
def pieces (keep:Nat→Bool) (f:Fld):Nat→List Fld
 | 0=> []
 | b+1=>match keep (Nat.add f.sh b) with
  | true=>⟨f.i,f.lo,f.hi,Nat.add f.fr b,1,Nat.add f.sh b⟩::pieces keep f b
  | false=>pieces keep f b
def zfW (keep:Nat→Bool):List Fld→List Fld
 | [] => []
 | f::l=>zdP (zfW keep l) (pieces keep f f.n)
def fits (W:Nat):List Fld→Bool
 | [] => true
 | f::l=>match Nat.ble (Nat.add f.sh f.n) W with|true=>fits W l|false=>false
def zfy (W:Nat) (l:List Fld) (c:Nat):Bool:=match Nat.blt c (Nat.pow 2 W) with|true=>fits W l|false=>false
def toF:SE→Option (List Fld×Nat)
 | .lit (.ofNat n)=>some ([],n)
 | .flds l c=>some (l,c)
 | _=>none
def ofF (l:List Fld) (c:Nat):SE:=
 match l with
 | [] => zdA c fun c=> .lit (.ofNat c)
 | f::l=>zdA c fun c=> .flds (f::l) c
def topB (k:IntKind):Option (Nat×Nat):=match sgn k with|true=>none|false=>some (0,Nat.sub (Nat.pow 2 (wOf k)) 1)
def bnd (a:SE):Option (Nat×Nat):=
 match a with
 | .lit (.ofNat n)=>some (n,n)
 | .flds [f] 0=>(match Nat.beq f.fr 0,Nat.beq f.sh 0,Nat.blt (Nat.max f.lo f.hi) (Nat.pow 2 f.n) with
  | true,true,true=>some (f.lo,Nat.max f.lo f.hi)
  | _,_,_=>match zfy 64 [f] 0 with|true=>some (0,18446744073709551615)|false=>none)
 | .bin .add k x y=>(match bnd x,bnd y with
  | some (p,q),some (r,s)=>(match Nat.blt (Nat.add q s) (Nat.pow 2 (wOf k)) with
   | true=>some (Nat.add p r,Nat.add q s)
   | false=>topB k)
  | _,_=>topB k)
 | .bin .sub k x y=>(match bnd x,bnd y with
  | some (p,q),some (r,s)=>(match Nat.ble s p,Nat.blt q (Nat.pow 2 (wOf k)) with
   | true,true=>some (Nat.sub p s,Nat.sub q r)
   | _,_=>(match Nat.blt q r,Nat.ble s (Nat.pow 2 (wOf k)),sgn k with
    | true,true,false=>some (Nat.sub (Nat.add (Nat.pow 2 (wOf k)) p) s,Nat.sub (Nat.add (Nat.pow 2 (wOf k)) q) r)
    | _,_,_=>topB k))
  | _,_=>topB k)
 | .bin .mul k x y=>(match bnd x,bnd y with
  | some (p,q),some (r,s)=>(match Nat.blt (Nat.mul q s) (Nat.pow 2 (wOf k)) with
   | true=>some (Nat.mul p r,Nat.mul q s)
   | false=>topB k)
  | _,_=>topB k)
 | .bin .rem _ x y=>(match bnd x,bnd y with
  | some (_,q),some (r,s)=>(match Nat.blt 0 r with
   | true=>some (0,Nat.min q (Nat.sub s 1))
   | false=>none)
  | _,_=>none)
 | .wrap k _=>topB k
 | _=>none
def zpV (k:IntKind) (a:SE):SE:=
 match bnd a with
 | some (_,q)=>(match Nat.blt q (Nat.pow 2 (wOf k)) with|true=>a|false=> .wrap k a)
 | none=> .wrap k a
def zuV (k:IntKind) (a:SE):SE:=
 match a with
 | .flds l c=>(match sgn k with
  | true=>(match zfy (wOf k) l c with|true=> .flds l c|false=> .wrap k (.flds l c))
  | false=>ofF (zcQ (wOf k) l) (Nat.mod c (Nat.pow 2 (wOf k))))
 | a=>zpV k a
def sOr (k:IntKind) (a b:SE) (l:List Fld) (c:Nat) (l':List Fld) (c':Nat):SE:=
 match zfy (wOf k) l c,zfy (wOf k) l' c' with
 | true,true=>ofF (zdP l l') (Nat.lor c c')
 | _,_=> .bin .or k a b
def sAnd (k:IntKind) (a b:SE) (l:List Fld) (c m:Nat):SE:=
 match zfy (wOf k) l c,Nat.blt m (Nat.pow 2 (wOf k)) with
 | true,true=>ofF (zfW (Nat.testBit m) l) (Nat.land c m)
 | _,_=> .bin .and k a b
def zly (k:IntKind) (a b:SE) (l:List Fld) (c m:Nat):SE:=
 match zfy (wOf k) l c,Nat.blt m (Nat.pow 2 (wOf k)) with
 | true,true=>ofF (zfW (fun i=>match Nat.testBit m i with|true=>false|false=>true) l) (Nat.xor c (Nat.land c m))
 | _,_=> .bin .andNot k a b
def sShl (k:IntKind) (a b:SE) (l:List Fld) (c n:Nat):SE:=
 match Nat.ble n k.bits,sgn k with
 | true,false=>ofF (zcQ (wOf k) (zpN n l)) (Nat.mod (Nat.mul c (Nat.pow 2 n)) (Nat.pow 2 (wOf k)))
 | _,_=> .bin .shl k a b
def sShr (k:IntKind) (a b:SE) (l:List Fld) (c n:Nat):SE:=
 match Nat.ble n k.bits with
 | true=>ofF (zf6 n l) (Nat.div c (Nat.pow 2 n))
 | false=> .bin .shr k a b
def ztG (m:Nat):List Fld→Bool
 | [] => true
 | f::l=>match Nat.ble m f.sh with|true=>ztG m l|false=>false
def width (l:List Fld) (c:Nat):Nat:=
 match l with
 | [] => (match c with|0=>0|c+1=>Nat.succ (Nat.log2 (Nat.succ c)))
 | f::l=>Nat.max (Nat.add f.sh f.n) (width l c)
def sAdd (k:IntKind) (a b:SE) (l:List Fld) (c:Nat) (l':List Fld) (c':Nat):SE:=
 match zfy (wOf k) l c,zfy (wOf k) l' c' with
 | true,true=>(match zfy (width l c) l c,ztG (width l c) l',Nat.beq (Nat.mod c' (Nat.pow 2 (width l c))) 0 with
  | true,true,true=>ofF (zdP l l') (Nat.lor c c')
  | _,_,_=> .bin .add k a b)
 | _,_=> .bin .add k a b
def sQuo (k:IntKind) (a b:SE) (l:List Fld) (c n:Nat):SE:=
 match zfy (wOf k) l c,Nat.beq n (Nat.pow 2 (Nat.log2 n)) with
 | true,true=>ofF (zf6 (Nat.log2 n) l) (Nat.div c (Nat.pow 2 (Nat.log2 n)))
 | _,_=> .bin .quo k a b
def sRem (k:IntKind) (a b:SE) (l:List Fld) (c n:Nat):SE:=
 match Nat.beq n (Nat.pow 2 (Nat.log2 n)) with
 | true=>ofF (zcQ (Nat.log2 n) l) (Nat.mod c (Nat.pow 2 (Nat.log2 n)))
 | false=> .bin .rem k a b
def sId (o:BinOp) (k:IntKind) (a b:SE) (l:List Fld) (c:Nat) (l':List Fld) (c':Nat):SE:=
 match l' with
 | [] => (match Nat.beq c' 0,zfy (wOf k) l c with
  | true,true=>ofF l c
  | _,_=> .bin o k a b)
 | _=> .bin o k a b
def sBin (o:BinOp) (k:IntKind) (a b:SE):SE:=
 match toF a,toF b with
 | some (l,c),some (l',c')=>(match o with
  | .or=>sOr k a b l c l' c'
  | .and=>(match l' with
   | [] => sAnd k a b l c c'
   | _=>(match l with
    | [] => sAnd k b a l' c' c
    | _=> .bin .and k a b))
  | .andNot=>(match l' with| []=>zly k a b l c c'|_=> .bin .andNot k a b)
  | .shl=>(match l' with| []=>sShl k a b l c c'|_=> .bin .shl k a b)
  | .shr=>(match l' with| []=>sShr k a b l c c'|_=> .bin .shr k a b)
  | .add=>sAdd k a b l c l' c'
  | .quo=>(match l' with| []=>sQuo k a b l c c'|_=> .bin .quo k a b)
  | .rem=>(match l' with| []=>sRem k a b l c c'|_=> .bin .rem k a b)
  | .sub=>sId .sub k a b l c l' c'
  | o=> .bin o k a b)
 | _,_=> .bin o k a b
def zpP (o:BinOp):Bool:=
 match o with
 | .neq| .lss| .gtr=>false
 | _=>true
def zuY (o:BinOp) (a b:SE):SB:=
 match bnd a,bnd b with
 | some (p,q),some (r,s)=>(match o with
  | .eql=>(match Nat.blt q r,Nat.blt s p with|false,false=> .cmp .eql a b|_,_=> .lit false)
  | .neq=>(match Nat.blt q r,Nat.blt s p with|false,false=> .cmp .neq a b|_,_=> .lit true)
  | .lss=>(match Nat.blt q r,Nat.ble s p with|true,_=> .lit true|_,true=> .lit false|_,_=> .cmp .lss a b)
  | .gtr=>(match Nat.blt s p,Nat.ble q r with|true,_=> .lit true|_,true=> .lit false|_,_=> .cmp .gtr a b)
  | .leq=>(match Nat.ble q r,Nat.blt s p with|true,_=> .lit true|_,true=> .lit false|_,_=> .cmp .leq a b)
  | .geq=>(match Nat.ble s p,Nat.blt q r with|true,_=> .lit true|_,true=> .lit false|_,_=> .cmp .geq a b)
  | o=> .cmp o a b)
 | _,_=> .cmp o a b
def sCmp (o:BinOp) (a b:SE):SB:=
 match SE.beq a b with
 | true=> .lit (zpP o)
 | false=>zuY o a b
inductive CapI where
 | known (c:Nat)
 | upto (skip:Nat)
inductive AV where
 | bool (b:SB)
 | int (k:IntKind) (n:SE)
 | str (s:List Nat)
 | nilp
 | ptr (n off:Nat)
 | nils
 | sl (n off len:Nat) (cap:CapI)
 | emp
 | slu (n:SE)
 | sla
 | nilm
 | map (n:Nat)
 | func (f:FuncId) (first cap:List AV)
 | nilf
 | nili
 | iface (t:TypeId) (v:AV)
 | agg (l:List AV)
 | tup (l:List AV)
 | cst (i:Nat) (len:Option SE)
 | opq (n:Nat) (len:Option SE)
 | nun (c:SB) (w:Bool)
 | junk
 | sx (i:Nat) (n:SE) (sz:Nat) (l:List (SE×Nat))
def zsa:List (SE×Nat)→List (SE×Nat)→Bool
 | [], [] => true
 | a::l,b::m=>match SE.beq a.1 b.1,Nat.beq a.2 b.2 with|true,true=>zsa l m|_,_=>false
 | _,_=>false
def zno:Option SE→Option SE→Bool
 | none,none=>true
 | some a,some b=>SE.beq a b
 | _,_=>false
def CapI.beq:CapI→CapI→Bool
 | .known a,.known b=>Nat.beq a b
 | .upto a,.upto b=>Nat.beq a b
 | _,_=>false
def zcL:List Nat→List Nat→Bool
 | [], [] => true
 | a::l,b::m=>match Nat.beq a b with|true=>zcL l m|false=>false
 | _,_=>false
mutual
def AV.beq:AV→AV→Bool
 | .bool a,.bool b=>SB.eqv a b
 | .int k n,.int k' n'=>match SE.beq n n' with|true=>(if k=k' then true else false)|false=>false
 | .str a,.str b=>zcL a b
 | .nilp,.nilp=>true
 | .ptr a b,.ptr c d=>match Nat.beq a c with|true=>Nat.beq b d|false=>false
 | .nils,.nils=>true
 | .sl a b c d,.sl a' b' c' d'=>match Nat.beq a a',Nat.beq b b',Nat.beq c c' with|true,true,true=>CapI.beq d d'|_,_,_=>false
 | .emp,.emp=>true
 | .slu a,.slu b=>SE.beq a b
 | .sla,.sla=>true
 | .nilm,.nilm=>true
 | .map a,.map b=>Nat.beq a b
 | .func f l l',.func g m m'=>match Nat.beq f g,AV.beqL l m with|true,true=>AV.beqL l' m'|_,_=>false
 | .nilf,.nilf=>true
 | .nili,.nili=>true
 | .iface t v,.iface u w=>match Nat.beq t u with|true=>AV.beq v w|false=>false
 | .agg l,.agg m=>AV.beqL l m
 | .tup l,.tup m=>AV.beqL l m
 | .cst i l,.cst i' l'=>match Nat.beq i i' with|true=>zno l l'|false=>false
 | .opq i l,.opq i' l'=>match Nat.beq i i' with|true=>zno l l'|false=>false
 | .junk,.junk=>true
 | .sx i n s l,.sx i' n' s' l'=>match Nat.beq i i',SE.beq n n',Nat.beq s s' with|true,true,true=>zsa l l'|_,_,_=>false
 | .nun c w,.nun c' w'=>match SB.eqv c c' with|true=>(match w,w' with|true,true=>true|false,false=>true|_,_=>false)|false=>false
 | _,_=>false
def AV.beqL:List AV→List AV→Bool
 | [], [] => true
 | a::l,b::m=>match AV.beq a b with|true=>AV.beqL l m|false=>false
 | _,_=>false
end
def zbq:AV:= .tup []
def znn:Value→Option AV
 | .bool b=>some (.bool (.lit b))
 | .int k n=>some (.int k (.lit n))
 | .string s=>some (.str (s.data.toList.map (·.toNat)))
 | .pointer none=>some .nilp
 | .slice none 0 0=>some .nils
 | .map none=>some .nilm
 | .nilFunc=>some .nilf
 | .nilIface=>some .nili
 | _=>none
def zfq:List Value→Option (List AV)
 | [] => some []
 | v::l=>match znn v with
  | none=>none
  | some a=>match zfq l with
   | none=>none
   | some m=>some (a::m)
def ofValue (v:Value):Option AV:=
 match v with
 | .agg cs=>match zfq cs.toList with|some l=>some (.agg l)|none=>none
 | .tuple vs=>match zfq vs.toList with|some l=>some (.tup l)|none=>none
 | v=>znn v
def AV.cells:AV→List AV
 | .agg l=>l
 | v=> [v]
structure Vec where
 t:T AV
 n:Nat
 d:AV
def Vec.get (v:Vec) (i:Nat):AV:=match v.t.get i with|some x=>x|none=>v.d
def Vec.set (v:Vec) (i:Nat) (x:AV):Vec:=match v with|⟨t,n,d⟩=>match t.set i x with| .leaf=>⟨.leaf,n,d⟩| .node a b c=>⟨.node a b c,n,d⟩
def Vec.list (v:Vec) (i:Nat):Nat→List AV
 | 0=> []
 | n+1=>v.get i::Vec.list v (Nat.succ i) n
def Vec.put (v:Vec) (i:Nat):List AV→Vec
 | [] => v
 | x::l=>Vec.put (v.set i x) (Nat.succ i) l
def Vec.ofList (l:List AV):Vec:=Vec.put ⟨.leaf,l.length,zbq⟩ 0 l
structure ME where
 key:AV
 val:AV
 born:Nat
inductive Obj where
 | cells (v:Vec) (esz grp:Nat) (closed:Option Nat) (shared own:Bool)
 | map (es:List ME) (clock:Nat)
 | iter (m:Option Nat) (since:Nat) (seen:List Nat) (stepped:Nat)
 | mapu (es:List ME)
 | mapx (kn:List (AV×Option AV)) (log:List (AV×Option AV))
 | opq
 | gs (k:Nat)
structure Heap where
 m:T Obj
 nx:Nat
 gw:T Nat
def Heap.alloc (H:Heap) (o:Obj):Heap:=
 match H with
 | ⟨m,nx,gw⟩=>match m.set nx o with
  | .leaf=>⟨.leaf,nx+1,gw⟩
  | .node a b c=>zdA (nx+1) fun x=>⟨.node a b c,x,gw⟩
def Heap.upd (H:Heap) (n:Nat) (o:Obj):Heap:=
 match H with
 | ⟨m,nx,gw⟩=>match m.set n o with
  | .leaf=>⟨.leaf,nx,gw⟩
  | .node a b c=>⟨.node a b c,nx,gw⟩
def Heap.wrote (H:Heap) (g:Nat):Heap:=match H with|⟨m,nx,gw⟩=>⟨m,nx,gw.set g nx⟩
def alive (gw:T Nat) (g:Nat) (closed:Option Nat):Bool:=
 match closed with
 | none=>true
 | some t=>match gw.get g with
  | none=>true
  | some w=>Nat.blt w t
def Heap.row (H:Heap) (n:Nat):Option Vec:=
 match H.m.get n with
 | some (.cells v _ g closed _ _)=>match alive H.gw g closed with
  | true=>some v
  | false=>none
 | _=>none
def zqZ:AV→Bool
 | .agg _=>false
 | .tup _=>false
 | .nun _ _=>false
 | .junk=>false
 | _=>true
def zdz:List AV→Bool
 | [] => true
 | a::l=>match zqZ a with|true=>zdz l|false=>false
def Heap.store (H:Heap) (n off:Nat) (l:List AV):Option Heap:=
 match H.m.get n with
 | some (.cells v esz g none sh true)=>
  match Nat.ble (Nat.add off l.length) v.n,zdz l with
  | true,true=>match sh with
   | false=>some (H.upd n (.cells (v.put off l) esz g none false true))
   | true=>some ((H.upd n (.cells (v.put off l) esz g none false true)).wrote g)
  | _,_=>none
 | _=>none
def Heap.mapAt (H:Heap) (n:Nat):Option (List ME×Nat):=
 match H.m.get n with
 | some (.map es c)=>some (es,c)
 | _=>none
def Heap.mapxAt (H:Heap) (n:Nat):Option (List (AV×Option AV)×List (AV×Option AV)):=
 match H.m.get n with
 | some (.mapx kn log)=>some (kn,log)
 | _=>none
def Heap.gs (H:Heap):Nat:=
 match H.m.get 0 with
 | some (.gs k)=>k
 | _=>0
end Go.Dw
namespace Go.Dw
inductive Ob where
 | ok
 | bad (n:Nat) (s:String)
 | all (l:List Ob)
 | ite (c:SB) (t e:Ob)
mutual
def Ob.den (ρ:Val):Ob→Prop
 | .ok=>True
 | .bad _ _=>False
 | .all l=>Ob.denL ρ l
 | .ite c t e=>(c.den ρ=true→t.den ρ)∧(c.den ρ=false→e.den ρ)
def Ob.denL (ρ:Val):List Ob→Prop
 | [] => True
 | o::l=>o.den ρ∧Ob.denL ρ l
end
mutual
def Ob.good:Ob→Bool
 | .ok=>true
 | .bad _ _=>false
 | .all l=>Ob.goodL l
 | .ite _ t e=>match t.good with|true=>e.good|false=>false
def Ob.goodL:List Ob→Bool
 | [] => true
 | o::l=>match o.good with|true=>Ob.goodL l|false=>false
end
inductive Ex where
 | normal
 | exit (id:Nat)
 | ret
section
variable (P:Program)
def zaZ:Nat:=1000000
def opd (env:T AV):Operand→Option AV
 | .tmp t=>match Nat.blt t zaZ with
  | true=>(match env.get t with|some .junk=>none|some v=>some v|none=>some zbq)
  | false=>none
 | .const v=>ofValue v
 | .func f=>some (.func f [] [])
 | .global _=>none
def opds (env:T AV):List Operand→Option (List AV)
 | [] => some []
 | x::l=>match opd env x with
  | none=>none
  | some a=>match opds env l with
   | none=>none
   | some m=>some (a::m)
def szOf (t:TypeId):Option Nat:=match P.info? t with|some i=>some i.size|none=>none
def znz (t:TypeId):Option Bool:=
 match P.underlying t with
 | some (.struct _)=>some true
 | some (.array _ _)=>some true
 | some _=>some false
 | none=>none
def zgy (t:TypeId):Option AV:=
 match P.info? t with
 | some i=>(match i.zero with|some v=>ofValue v|none=>none)
 | none=>none
def zmb:Nat→List AV→List AV
 | 0,l=>l
 | _+1,[]=> []
 | n+1,_::l=>zmb n l
def takeN:Nat→List AV→Option (List AV)
 | 0,_=>some []
 | _+1,[]=>none
 | n+1,a::l=>match takeN n l with|some m=>some (a::m)|none=>none
def zf8 (t:TypeId) (cs:List AV) (off:Nat):Option AV:=
 match znz P t,szOf P t with
 | some true,some n=>match takeN n (zmb off cs) with|some l=>some (.agg l)|none=>none
 | some false,_=>match zmb off cs with|a::_=>some a| []=>none
 | _,_=>none
def zqF (o:BinOp) (a b:SE):SB:=
 match a,b with
 | .lit x,.lit y=> .lit (cmpF o x y)
 | a,b=>sCmp o a b
def mkNot:SB→SB
 | .lit true=> .lit false
 | .lit false=> .lit true
 | .not b=>b
 | b=> .not b
def zvx (a b:SB):SB:=
 match a,b with
 | .lit true,b=>b
 | .lit false,b=>mkNot b
 | a,.lit true=>a
 | a,.lit false=>mkNot a
 | a,b=> .beq a b
def mkInt (o:BinOp) (k:IntKind) (a b:SE):Option SE:=
 match a,b with
 | .lit x,.lit y=>match intF o k x y with
  | some (.ofNat m)=>zdA m fun m=>some (.lit (.ofNat m))
  | some (.negSucc m)=>zdA m fun m=>some (.lit (.negSucc m))
  | none=>none
 | a,.lit y=>match o with
  | .add=>some (sBin .add k a (.lit y))| .sub=>some (sBin .sub k a (.lit y))| .mul=>some (sBin .mul k a (.lit y))
  | .and=>some (sBin .and k a (.lit y))| .or=>some (sBin .or k a (.lit y))| .xor=>some (sBin .xor k a (.lit y))| .andNot=>some (sBin .andNot k a (.lit y))
  | .quo=>match eqI y 0 with|true=>none|false=>some (sBin .quo k a (.lit y))
  | .rem=>match eqI y 0 with|true=>none|false=>some (sBin .rem k a (.lit y))
  | .shl=>match y with| .ofNat _=>some (sBin .shl k a (.lit y))|_=>none
  | .shr=>match y with| .ofNat _=>some (sBin .shr k a (.lit y))|_=>none
  | _=>none
 | a,b=>match o with
  | .quo=>(match bnd b with|some (q,_)=>(match Nat.blt 0 q with|true=>some (sBin .quo k a b)|false=>none)|none=>none)
  | .rem=>(match bnd b with|some (q,_)=>(match Nat.blt 0 q with|true=>some (sBin .rem k a b)|false=>none)|none=>none)
  | .add=>some (sBin .add k a b)| .sub=>some (sBin .sub k a b)| .mul=>some (sBin .mul k a b)
  | .and=>some (sBin .and k a b)| .or=>some (sBin .or k a b)| .xor=>some (sBin .xor k a b)| .andNot=>some (sBin .andNot k a b)
  | _=>none
def mkWrap (k:IntKind) (a:SE):SE:=
 match a with
 | .lit x=>match zgz k x with
  | .ofNat m=>zdA m fun m=> .lit (.ofNat m)
  | .negSucc m=>zdA m fun m=> .lit (.negSucc m)
 | a=>zuV k a
def zl0:BinOp→Bool
 | .eql| .neq| .lss| .leq| .gtr| .geq=>true
 | _=>false
def zhf:BinOp→Bool
 | .shl| .shr=>true
 | _=>false
def apartA (H:Heap) (n m:Nat):Bool:=
 match H.m.get n,H.m.get m with
 | some (.cells _ _ g _ _ true),some (.cells _ _ g' _ _ true)=>
  match Nat.beq g g' with
  | true=>false
  | false=>match H.row n,H.row m with
   | some _,some _=>true
   | _,_=>false
 | _,_=>false
def mkAnd (a b:SB):SB:=
 match a,b with
 | .lit true,b=>b
 | .lit false,_=> .lit false
 | a,.lit true=>a
 | _,.lit false=> .lit false
 | a,b=> .and a b
def eqFields (eq:TypeId→AV→AV→Option SB):List Field→List AV→List AV→Option SB
  | [], _,_=>some (.lit true)
  | fd::l,xs,ys=>
    if fd.name = "_" then eqFields eq l xs ys else
    match zf8 P fd.type xs fd.offset,zf8 P fd.type ys fd.offset with
    | some a,some b=>match eq fd.type a b with
      | none=>none
      | some c=>match eqFields eq l xs ys with
        | some d=>some (mkAnd c d)
        | none=>none
    | _,_=>none
def zdt (eq:AV→AV→Option SB) (e:TypeId) (s:Nat):Nat→Nat→List AV→List AV→Option SB
 | 0,_,_,_=>some (.lit true)
 | n+1,i,xs,ys=>
  match zf8 P e xs (i*s),zf8 P e ys (i*s) with
  | some a,some b=>match eq a b with
   | none=>none
   | some c=>match zdt eq e s n (i+1) xs ys with
    | some d=>some (mkAnd c d)
    | none=>none
  | _,_=>none
def eqA (H:Heap):Nat→TypeId→AV→AV→Option SB
 | 0,_,_,_=>none
 | f+1,t,x,y=>
  match P.underlying t with
  | some .bool=>match x,y with
   | .bool a,.bool b=>some (zvx a b)
   | _,_=>none
  | some (.int _)=>match x,y with
   | .int k a,.int k' b=>match Nat.beq (kn k) (kn k') with|true=>some (zqF .eql a b)|false=>none
   | _,_=>none
  | some (.pointer e)=>match x,y with
   | .nilp,.nilp=>some (.lit true)
   | .nilp,.ptr _ _=>some (.lit false)
   | .ptr _ _,.nilp=>some (.lit false)
   | .ptr n o,.ptr m p=>match szOf P e with
    | some (_+1)=>match Nat.beq n m with
     | true=>some (.lit (Nat.beq o p))
     | false=>match apartA H n m with
      | true=>some (.lit false)
      | false=>none
    | _=>none
   | _,_=>none
  | some (.slice _)=>match x,y with
   | .nils,.nils=>some (.lit true)
   | .nils,.sl _ _ _ _=>some (.lit false)
   | .nils,.emp=>some (.lit false)
   | .sl _ _ _ _,.nils=>some (.lit false)
   | .emp,.nils=>some (.lit false)
   | .nils,.sla=>some (.lit false)
   | .sla,.nils=>some (.lit false)
   | _,_=>none
  | some (.map _ _)=>match x,y with
   | .nilm,.nilm=>some (.lit true)
   | .nilm,.map _=>some (.lit false)
   | .map _,.nilm=>some (.lit false)
   | _,_=>none
  | some (.func _ _ _)=>match x,y with
   | .nilf,.nilf=>some (.lit true)
   | .nilf,.func _ _ _=>some (.lit false)
   | .func _ _ _,.nilf=>some (.lit false)
   | _,_=>none
  | some (.struct fs)=>match x,y with
   | .agg xs,.agg ys=>match P.stoodInHeld t with
    | true=>none
    | false=>eqFields P (eqA H f) fs.toList xs ys
   | _,_=>none
  | some (.array len e)=>match x,y with
   | .agg xs,.agg ys=>match szOf P e with
    | some s=>zdt P (eqA H f e) e s len 0 xs ys
    | none=>none
   | _,_=>none
  | _=>none
def zrL (o:BinOp) (k k':IntKind) (a b:SE):Option AV:=
 match zhf o with
 | true=>(match mkInt o k a b with|some c=>some (.int k c)|none=>none)
 | false=>match Nat.beq (kn k) (kn k') with
  | true=>(match zl0 o with
   | true=>some (.bool (zqF o a b))
   | false=>match mkInt o k a b with|some c=>some (.int k c)|none=>none)
  | false=>none
def zuh (_:BinOp) (_ _:List Nat):Option AV:=none
def binEq (H:Heap) (o:BinOp) (t:TypeId) (x y:AV):Option AV:=
 match o with
 | .eql=>(match eqA P H 8 t x y with|some b=>some (.bool b)|none=>none)
 | .neq=>(match eqA P H 8 t x y with|some b=>some (.bool (mkNot b))|none=>none)
 | _=>none
def binA (H:Heap) (c:Bool) (o:BinOp) (t:TypeId) (x y:AV):Option AV:=
 match x with
 | .int k a=>(match y with| .int k' b=>zrL o k k' a b|_=>none)
 | .str a=>(match y with| .str b=>zuh o a b|_=>none)
 | .nili=>(match c with|true=>binEq P H o t .nili y|false=>none)
 | .agg l=>(match P.eqGuardType P.depth t with|true=>none|false=>binEq P H o t (.agg l) y)
 | x=>binEq P H o t x y
def unA (o:UnOp) (x:AV):Option AV:=
 match o,x with
 | .not,.bool b=>some (.bool (mkNot b))
 | .neg,.int k n=>match mkInt .sub k (.lit 0) n with|some c=>some (.int k c)|none=>none
 | .xor,.int k n=>match mkInt .xor k n (.lit (if k.signed then-1 else k.max)) with|some c=>some (.int k c)|none=>none
 | _,_=>none
def zmh:List Nat→List AV
 | [] => []
 | b::l=> .int .u8 (.lit (.ofNat b))::zmh l
def zhy (H:Heap) (sz n:Nat) (x:AV):Option (List AV):=
 match x with
 | .nils=>(match n with|0=>some []|_+1=>none)
 | .emp=>(match n with|0=>some []|_+1=>none)
 | .sl b off len _=>(match Nat.ble n len with
  | false=>none
  | true=>match H.row b with
   | none=>none
   | some v=>match Nat.ble (Nat.add off (Nat.mul n sz)) v.n with
    | true=>some (v.list off (Nat.mul n sz))
    | false=>none)
 | .str s=>(match Nat.beq sz 1 with|true=>takeN n (zmh s)|false=>none)
 | _=>none
def lenA (x:AV):Option Nat:=
 match x with
 | .nils=>some 0
 | .emp=>some 0
 | .sl _ _ len _=>some len
 | .str s=>some s.length
 | _=>none
def zrn (_:Heap) (_:TypeId) (_:AV):Option AV:=none
def zw6 (H:Heap) (src dst:TypeId) (x:AV):Option AV:=
 match P.underlying src with
 | none=>none
 | some s=>match P.underlying dst with
  | some (.int k)=>(match x with| .int _ n=>some (.int k (mkWrap k n))|_=>none)
  | some .string=>(match s with
   | .slice e=>zrn H e x
   | .string=>(match x with| .str s=>some (.str s)|_=>none)
   | _=>none)
  | _=>none
def natA (env:T AV) (x:Operand):Option Nat:=
 match opd env x with
 | some (.int _ (.lit (.ofNat n)))=>some n
 | _=>none
def natO (env:T AV) (x:Option Operand) (d:Nat):Option Nat:=
 match x with
 | none=>some d
 | some x=>natA env x
def zfY (t:TypeId):Option Nat:=
 match P.underlying t with
 | some (.slice e)=>szOf P e
 | _=>none
def zo7 (t:TypeId):Option (Nat×TypeId×Nat):=
 match P.underlying t with
 | some (.array len e)=>(match szOf P e with|some s=>some (len,e,s)|none=>none)
 | _=>none
def zqV (t:TypeId):Bool:=
 match P.underlying t with
 | some .string=>true
 | _=>false
def bounds (env:T AV) (len cap:Nat) (lo hi mx:Option Operand):Option (Nat×Nat×Nat):=
 match mx with
 | some m=>(match natA env m with
  | none=>none
  | some m=>(match Nat.ble m cap with
   | false=>none
   | true=>match hi with
    | none=>none
    | some h=>match natA env h with
     | none=>none
     | some h=>match Nat.ble h m with
      | false=>none
      | true=>match natO env lo 0 with
       | none=>none
       | some l=>match Nat.ble l h with
        | true=>some (l,h,m)
        | false=>none))
 | none=>(match natO env hi len with
  | none=>none
  | some h=>(match Nat.ble h cap with
   | false=>none
   | true=>match natO env lo 0 with
    | none=>none
    | some l=>match Nat.ble l h with
     | true=>some (l,h,cap)
     | false=>none))
def cutA (b off s l h m:Nat):AV:=
 match Nat.beq m l with
 | true=> .sl b off (Nat.sub h l) (.known 0)
 | false=> .sl b (Nat.add off (Nat.mul l s)) (Nat.sub h l) (.known (Nat.sub m l))
def cutU (b off s l h len k:Nat):AV:=
 match Nat.beq l 0 with
 | true=> .sl b off h (.upto k)
 | false=>match Nat.blt l len with
  | true=> .sl b (Nat.add off (Nat.mul l s)) (Nat.sub h l) (.upto (Nat.add k l))
  | false=> .emp
def zfJ (env:T AV) (c:Nat) (lo hi:Option Operand):Bool:=
 match natO env lo 0,hi with
 | some l,some h=>(match opd env h with
  | some (.int _ e)=>(match bnd e with
   | some (p,q)=>(match Nat.ble l p,Nat.ble q c with|true,true=>true|_,_=>false)
   | none=>false)
  | _=>false)
 | _,_=>false
def zgG (env:T AV) (s b off len:Nat) (cap:CapI) (lo hi mx:Option Operand):Option AV:=
 match cap with
 | .known c=>(match bounds env len c lo hi mx with
  | some (l,h,m)=>some (cutA b off s l h m)
  | none=>(match mx,zfJ env c lo hi with
   | none,true=>some .sla
   | _,_=>none))
 | .upto k=>(match bounds env len len lo hi mx with
  | some (l,h,m)=>(match mx with
   | some _=>some (cutA b off s l h m)
   | none=>some (cutU b off s l h len k))
  | none=>none)
def zhT (env:T AV) (t:TypeId) (x:AV) (lo hi mx:Option Operand):Option AV:=
 match x with
 | .str s=>(match zqV P t,mx with
  | true,none=>(match bounds env s.length s.length lo hi none with
   | some (l,h,_)=>some (.str ((s.drop l).take (Nat.sub h l)))
   | none=>none)
  | _,_=>none)
 | .nils=>(match zfY P t,bounds env 0 0 lo hi mx with
  | some _,some _=>some .nils
  | _,_=>none)
 | .emp=>(match zfY P t,mx with
  | some _,none=>(match bounds env 0 0 lo hi none with
   | some _=>some .emp
   | none=>none)
  | _,_=>none)
 | .sl b off len cap=>(match zfY P t with
  | some s=>zgG env s b off len cap lo hi mx
  | none=>none)
 | .ptr b off=>(match zo7 P t with
  | some (n,_,s)=>(match bounds env n n lo hi mx with
   | some (l,h,m)=>some (cutA b off s l h m)
   | none=>none)
  | none=>none)
 | _=>none
def zhm (t:TypeId) (f:Nat):Option Field:=
 match P.underlying t with
 | some (.struct fs)=>fs[f]?
 | _=>none
def zlv (x y:SE):Option Bool:=
 match x,y with
 | .lit x,.lit y=>some (eqI x y)
 | x,y=>match SE.beq x y with
  | true=>some true
  | false=>match bnd x,bnd y with
   | some (p,q),some (r,s)=>(match Nat.blt q r,Nat.blt s p with
    | false,false=>none
    | _,_=>some false)
   | _,_=>none
def ztg (kd:TypeDesc) (a b:AV):Option Bool:=
 match kd with
 | .int _=>(match a,b with
  | .int k x,.int k' y=>(match Nat.beq (kn k) (kn k') with|true=>zlv x y|false=>none)
  | _,_=>none)
 | .string=>(match a,b with
  | .str x,.str y=>some (zcL x y)
  | _,_=>none)
 | _=>none
def zkP (kd:TypeDesc) (k:AV):List ME→Nat→Option (Option (Nat×AV))
 | [], _=>some none
 | e::l,i=>match ztg kd k e.key with
  | some true=>some (some (i,e.val))
  | some false=>zkP kd k l (Nat.succ i)
  | none=>none
def mapOf (t:TypeId):Option (TypeDesc×TypeId):=
 match P.underlying t with
 | some (.map kt et)=>(match P.underlying kt with
  | some (.int k)=>some (.int k,et)
  | some .string=>some (.string,et)
  | _=>none)
 | _=>none
def isKey (kd:TypeDesc) (k:AV):Bool:=
 match kd with
 | .int _=>(match k with| .int _ _=>true|_=>false)
 | .string=>(match k with| .str _=>true|_=>false)
 | _=>false
def entriesA (H:Heap) (m:AV):Option (List ME):=
 match m with
 | .nilm=>some []
 | .map n=>(match H.mapAt n with|some (es,_)=>some es|none=>none)
 | _=>none
def zvC:AV→Bool
 | .tup _=>true
 | _=>false
def zcJ:List (AV×Option AV)→List (AV×Option AV)
 | [] => []
 | e::l=>match zvC e.1 with|true=>zcJ l|false=>e::zcJ l
def zoX (kd:TypeDesc) (k:AV):List (AV×Option AV)→Option (Option AV)
 | [] => none
 | e::l=>match ztg kd k e.1 with
  | some true=>some e.2
  | some false=>zoX kd k l
  | none=>none
def lookupX (H:Heap) (kd:TypeDesc) (et:TypeId) (m k:AV) (ok:Bool):Option AV:=
 match m with
 | .map n=>(match H.mapxAt n,isKey kd k with
  | some (kn,_),true=>(match zoX kd k (zcJ kn) with
   | none=>none
   | some (some v)=>some (match ok with|true=> .tup [v,.bool (.lit true)]|false=>v)
   | some none=>match zgy P et with
    | none=>none
    | some z=>some (match ok with|true=> .tup [z,.bool (.lit false)]|false=>z))
  | _,_=>none)
 | _=>none
def lookupA (H:Heap) (t:TypeId) (m k:AV) (ok:Bool):Option AV:=
 match mapOf P t with
 | none=>none
 | some (kd,et)=>match entriesA H m with
  | none=>lookupX P H kd et m k ok
  | some es=>match isKey kd k with
   | false=>none
   | true=>match zkP kd k es 0 with
    | none=>none
    | some (some (_,v))=>some (match ok with|true=> .tup [v,.bool (.lit true)]|false=>v)
    | some none=>match zgy P et with
     | none=>none
     | some z=>some (match ok with|true=> .tup [z,.bool (.lit false)]|false=>z)
def nthA:List AV→Nat→Option AV
 | [], _=>none
 | a::l,n=>match n with|0=>some a|m+1=>nthA l m
abbrev L:=T AV→Heap→Option AV
def lNo:L:=fun _ _=>none
def zvB (x:Operand):L:=fun env _=>opd env x
def given (s:SB) (w:Bool) (y:AV):AV:=
 match y with
 | .bool t=>(match SB.eqv t s with|true=> .bool (.lit w)|false=> .bool t)
 | y=>y
def zvl (s x y:SB):SB:=
 match SB.eqv y s with
 | true=>mkAnd s x
 | false=>match SB.eqv x s with
  | true=>mkNot (mkAnd (mkNot s) (mkNot y))
  | false=>mkNot (mkAnd (mkNot (mkAnd s x)) (mkNot (mkAnd (mkNot s) y)))
def zvn (s:SB) (x y:AV):Option AV:=
 match x with
 | .nun c w=>(match SB.eqv c s,w with|true,true=>some (given s false y)|_,_=>none)
 | x=>match y with
  | .nun c w=>(match SB.eqv c s,w with|true,false=>some (given s true x)|_,_=>none)
  | .bool q=>(match x with| .bool p=>some (.bool (zvl s p q))|_=>none)
  | _=>none
def ztd (c a b:Operand):L:=fun env _=>
 match opd env c with
 | some (.bool (.lit true))=>opd env a
 | some (.bool (.lit false))=>opd env b
 | some (.bool s)=>(match opd env a,opd env b with
  | some x,some y=>zvn s x y
  | _,_=>none)
 | _=>none
def zgr (x:Operand) (i:Nat):L:=fun env _=>
 match opd env x with
 | some (.tup l)=>nthA l i
 | _=>none
def ze3 (x:Operand):L:=fun env _=>
 match opd env x with
 | some .nilp=>none
 | some .nili=>none
 | some .nilf=>none
 | some (.cst _ _)=>none
 | some (.opq _ _)=>none
 | some (.nun _ _)=>none
 | some (.sx _ _ _ _)=>none
 | x=>x
def znF (t:TypeId) (f:Nat):Option Nat:=
 match zhm P t f with
 | some fd=>match szOf P fd.type with
  | some (_+1)=>some fd.offset
  | _=>none
 | none=>none
def zed (t:TypeId) (x:Operand) (f:Nat):L:=fun env _=>
 match znF P t f,opd env x with
 | some o,some (.ptr n off)=>some (.ptr n (Nat.add off o))
 | _,_=>none
def zi9 (t:TypeId):Option (Option Nat):=
 match znz P t,szOf P t with
 | some false,some _=>some none
 | some true,some s=>some (some s)
 | _,_=>none
def loadAt (k:Option (Option Nat)) (v:Vec) (off:Nat):Option AV:=
 match k with
 | some none=>match Nat.blt off v.n with|true=>some (v.get off)|false=>none
 | some (some s)=>match Nat.ble (Nat.add off s) v.n with|true=>some (.agg (v.list off s))|false=>none
 | none=>none
def zqR (t:TypeId) (x:Operand):L:=fun env H=>
 match opd env x with
 | some (.ptr n off)=>match H.row n with
  | some v=>loadAt (zi9 P t) v off
  | none=>none
 | _=>none
def isC:Operand→Bool
 | .const _=>true
 | _=>false
def zkC (o:BinOp) (t:TypeId) (x y:Operand) (_:TypeId):L:=fun env H=>
 match opd env x,opd env y with
 | some a,some b=>binA P H (match isC x with|true=>true|false=>isC y) o t a b
 | _,_=>none
def ztc (o:UnOp) (_:TypeId) (x:Operand):L:=fun env _=>
 match opd env x with
 | some a=>unA o a
 | none=>none
def zgs (s d:TypeId) (x:Operand):L:=fun env H=>
 match opd env x with
 | some a=>zw6 P H s d a
 | none=>none
def zkO (e:SE):List (SE×Nat)→Option Nat
 | [] => none
 | p::l=>match SE.beq p.1 e with|true=>some p.2|false=>zkO e l
def zgq (t:TypeId) (x i:Operand):L:=fun env _=>
 match opd env x,opd env i with
 | some (.sx _ _ sz l),some (.int _ e)=>(match zfY P t with
  | some s=>(match Nat.beq s sz with
   | true=>(match zkO e l with
    | some n=>some (.ptr n 0)
    | none=>none)
   | false=>none)
  | none=>none)
 | _,_=>none
def zec (t:TypeId) (x i:Operand):L:=fun env H=>
 match opd env x,natA env i with
 | some (.sl n off len _),some i=>(match zfY P t with
  | some s=>(match Nat.blt i len with
   | true=>some (.ptr n (Nat.add off (Nat.mul i s)))
   | false=>none)
  | none=>none)
 | some (.ptr n off),some i=>(match zo7 P t with
  | some (len,_,s)=>(match Nat.blt i len with
   | true=>some (.ptr n (Nat.add off (Nat.mul i s)))
   | false=>none)
  | none=>none)
 | _,_=>zgq P t x i env H
def znv (t:TypeId) (x i:Operand):L:=fun env _=>
 match opd env x,natA env i with
 | some (.agg cs),some i=>(match zo7 P t with
  | some (len,e,s)=>(match Nat.blt i len with
   | true=>zf8 P e cs (Nat.mul i s)
   | false=>none)
  | none=>none)
 | _,_=>none
def znw (t:TypeId) (x:Operand) (f:Nat):L:=fun env _=>
 match zhm P t f,opd env x with
 | some fd,some (.agg cs)=>zf8 P fd.type cs fd.offset
 | _,_=>none
def znu (t:TypeId) (x:Operand) (lo hi mx:Option Operand):L:=fun env _=>
 match opd env x with
 | some a=>zhT P env t a lo hi mx
 | none=>none
def zje (t:TypeId) (x:Operand):L:=fun env _=>
 match zo7 P t,opd env x with
 | some (n,_,_),some (.sl b off len _)=>(match Nat.ble n len with
  | true=>some (.ptr b off)
  | false=>none)
 | some (n,_,_),some (.sx _ (.lit (.ofNat len)) _ l)=>(match Nat.ble n len,zkO (.lit (.ofNat 0)) l with
  | true,some m=>some (.ptr m 0)
  | _,_=>none)
 | _,_=>none
def ze4 (fn:Fn) (first cap:Array Operand):L:=fun env _=>
 match fn with
 | .func f=>match opds env first.toList,opds env cap.toList with
  | some l,some m=>some (.func f l m)
  | _,_=>none
 | _=>none
def zhe (t:TypeId) (x i:Operand) (ok:Bool):L:=fun env H=>
 match opd env x,opd env i with
 | some m,some k=>lookupA P H t m k ok
 | _,_=>none
def natV (n:Nat):Option AV:=zdA n fun n=>some (.int .i64 (.lit (.ofNat n)))
def lenOfA (d:Option TypeDesc) (H:Heap) (x:AV):Option AV:=
 match d with
 | some (.slice _)=>(match x with
  | .nils=>natV 0
  | .emp=>natV 0
  | .sl _ _ n _=>natV n
  | .slu n=>some (.int .i64 n)
  | .cst _ (some n)=>some (.int .i64 n)
  | .opq _ (some n)=>some (.int .i64 n)
  | .sx _ n _ _=>some (.int .i64 n)
  | _=>none)
 | some .string=>(match x with
  | .str s=>natV s.length
  | _=>none)
 | some (.array n _)=>natV n
 | some (.map _ _)=>(match x with
  | .nilm=>natV 0
  | .map m=>(match H.mapAt m with
   | some (es,_)=>natV es.length
   | none=>none)
  | _=>none)
 | _=>none
def lLen (ts:List TypeId) (xs:List Operand):L:=fun env H=>
 match ts,xs with
 | t::_,[x]=>match opd env x with
  | some a=>lenOfA (P.underlying t) H a
  | none=>none
 | _,_=>none
def zjc (c:Call):L:=
 match c.callee with
 | .builtin .len=>lLen P c.argTypes.toList c.args.toList
 | _=>lNo
def putL:List AV→Nat→List AV→List AV
 | [], _,_=> []
 | c::cs,off,vs=>match off with
  | 0=>(match vs with
   | [] => c::cs
   | v::vs=>v::putL cs 0 vs)
  | o+1=>c::putL cs o vs
def zl7 (place:Nat→Option (Nat×Nat)):List AV→List (Nat×AV)→Option (List AV)
 | cells,[]=>some cells
 | cells,p::rest=>match place p.1 with
  | none=>none
  | some (off,size)=>match Nat.beq p.2.cells.length size,Nat.ble (Nat.add off size) cells.length with
   | true,true=>zl7 place (putL cells off p.2.cells) rest
   | _,_=>none
def partsOf (env:T AV):List (Nat×Operand)→Option (List (Nat×AV))
 | [] => some []
 | p::l=>match opd env p.2 with
  | none=>none
  | some a=>match partsOf env l with
   | some m=>some ((p.1,a)::m)
   | none=>none
def repL:Nat→List AV→List AV
 | 0,_=> []
 | n+1,l=>l++repL n l
def uniform:List AV→Option AV
 | [] => none
 | a::l=>match go a l with|true=>some a|false=>none
where
 go (a:AV):List AV→Bool
  | [] => true
  | b::l=>match AV.beq b a with|true=>go a l|false=>false
def zgV:List Field→Option (List (Nat×Nat))
 | [] => some []
 | f::l=>match szOf P f.type with
  | none=>none
  | some s=>match zgV l with
   | some m=>some ((f.offset,s)::m)
   | none=>none
def nthP:List (Nat×Nat)→Nat→Option (Nat×Nat)
 | [], _=>none
 | a::l,n=>match n with|0=>some a|m+1=>nthP l m
def zn3 (env:T AV) (t:TypeId) (parts:List (Nat×Operand)):Option AV:=
 match zgy P t,partsOf env parts with
 | some z,some ps=>match P.underlying t with
  | some (.struct fs)=>(match zgV P fs.toList with
   | some pl=>(match zl7 (nthP pl) z.cells ps with|some l=>some (.agg l)|none=>none)
   | none=>none)
  | some (.array _ e)=>(match szOf P e with
   | some s=>(match zl7 (fun i=>some (Nat.mul i s,s)) z.cells ps with|some l=>some (.agg l)|none=>none)
   | none=>none)
  | _=>none
 | _,_=>none
def zqS (t:TypeId) (parts:Array (Nat×Operand)):L:=fun env _=>zn3 P env t parts.toList
def light (o:Op):L:=
 Op.casesOn (motive:=fun _=>L) o zvB zvB ztd (fun _=>lNo) (fun _ _=>lNo) (zqS P) (fun _ _ _=>lNo) (fun _ _ _ _=>lNo) (zqR P)
  (fun _ _ _=>lNo) (fun _=>lNo) (fun _=>lNo) ze3 (zkC P) (ztc) (zgs P) (zje P) (fun _ _=>lNo) ze4 (fun _ _=>lNo) (fun _ _=>lNo)
  (fun _ _ _=>lNo) (znu P) (zed P) (znw P) (zec P) (znv P) (zhe P) (fun _ _ _ _=>lNo) (fun _ _ _=>lNo) (fun _ _ _ _=>lNo)
  (fun _ _=>lNo) (fun _ _=>lNo) (fun _=>lNo) (fun _ _ _ _=>lNo) zgr (zjc P) (fun _=>lNo) (fun _=>lNo) (fun _=>lNo) (fun _ _=>lNo) (fun _ _ _=>lNo) (fun _ _=>lNo)
def zbZ (l:List AV) (s nx:Nat):Obj:= .cells (Vec.ofList l) s nx none false true
def zld (t:TypeId) (nx:Nat):Option (AV×Obj):=
 match zgy P t,szOf P t with
 | some z,some _=>some (.ptr nx 0,zbZ z.cells 0 nx)
 | _,_=>none
def aBox (t:TypeId) (x:Operand) (env:T AV) (nx:Nat):Option (AV×Obj):=
 match opd env x,szOf P t with
 | some v,some _=>some (.ptr nx 0,zbZ v.cells 0 nx)
 | _,_=>none
def zbW (t:TypeId) (len:Nat) (parts:Array (Nat×Operand)) (env:T AV) (nx:Nat):Option (AV×Obj):=
 match P.underlying t with
 | some (.slice e)=>(match szOf P e,zgy P e,partsOf env parts.toList with
  | some s,some z,some ps=>(match Nat.ble (Nat.mul len s) 16777216,Nat.beq z.cells.length s with
   | true,true=>(match zl7 (fun i=>some (Nat.mul i s,s)) (repL len z.cells) ps with
    | some l=>some (.sl nx 0 len (.known len),zbZ l s nx)
    | none=>none)
   | _,_=>none)
  | _,_,_=>none)
 | _=>none
def zei (t:TypeId) (r:Option Operand) (env:T AV) (nx:Nat):Option (AV×Obj):=
 match r with
 | none=>some (.map nx,.map [] 0)
 | some r=>(match P.underlying t,natA env r with
  | some (.map _ _),some _=>some (.map nx,.map [] 0)
  | _,_=>none)
def rowOf (z:List AV) (c s:Nat):Option Vec:=
 match uniform z with
 | some u=>some ⟨.leaf,Nat.mul c s,u⟩
 | none=>(match Nat.ble (Nat.mul c s) 100000 with
  | true=>some (Vec.ofList (repL c z))
  | false=>none)
def zck (t:TypeId) (l c:Operand) (env:T AV) (nx:Nat):Option (AV×Obj):=
 match P.underlying t,natA env l,natA env c with
 | some (.slice e),some l,some c=>(match P.info? e,zgy P e with
  | some inf,some z=>(match Nat.ble l c,Nat.ble (Nat.mul inf.bytes c) 140737488355328,Nat.blt c 4611686018427387904,Nat.beq z.cells.length inf.size with
   | true,true,true,true=>(match rowOf z.cells c inf.size with
    | some r=>some (.sl nx 0 l (.known c),.cells r inf.size nx none false true)
    | none=>none)
   | _,_,_,_=>none)
  | _,_=>none)
 | _,_,_=>none
abbrev A:=T AV→Nat→Option (AV×Obj)
def aNo:A:=fun _ _=>none
def zcu (o:Op):A:=
 match o with
 | .alloc t=>fun _ nx=>zld P t nx
 | .box t x=>aBox P t x
 | .buildSlice t len parts=>zbW P t len parts
 | .makeMap t r=>zei P t r
 | .makeSlice t l c=>zck P t l c
 | _=>aNo
def ztT (H:Heap) (t:TypeId) (n off:Nat) (v:AV):Option Heap:=
 match szOf P t with
 | some s=>match Nat.beq v.cells.length s with
  | true=>H.store n off v.cells
  | false=>none
 | none=>none
def zjM (es:List ME) (i:Nat) (e:ME):List ME:=
 match es with
 | [] => []
 | x::l=>match i with|0=>e::l|j+1=>x::zjM l j e
def zfz (es:List ME) (i:Nat):List ME:=
 match es with
 | [] => []
 | x::l=>match i with|0=>l|j+1=>x::zfz l j
def nthM:List ME→Nat→Option ME
 | [], _=>none
 | a::l,n=>match n with|0=>some a|m+1=>nthM l m
def zoS:AV→Bool
 | .int .i64 _=>true
 | _=>false
def zlM (H:Heap) (kd:TypeDesc) (n:Nat) (k v:AV):Option Heap:=
 match kd with
 | .int _=>(match zoS k,H.mapxAt n with
  | true,some (_,log)=>some (H.upd n (.mapx [(k,some v)] ((k,some v)::log)))
  | _,_=>none)
 | _=>none
def zi3 (H:Heap) (t:TypeId) (m k v:AV):Option Heap:=
 match mapOf P t with
 | none=>none
 | some (kd,_)=>match m with
  | .map n=>(match isKey kd k,H.mapAt n with
   | true,some (es,clock)=>(match zkP kd k es 0 with
    | none=>none
    | some (some (i,_))=>(match nthM es i with
     | none=>none
     | some e=>match AV.beq e.key k with
      | true=>some (H.upd n (.map (zjM es i ⟨k,v,e.born⟩) clock))
      | false=>none)
    | some none=>some (H.upd n (.map (es++ [⟨k,v,clock⟩]) (Nat.succ clock))))
   | _,_=>zlM H kd n k v)
  | _=>none
def zqK (H:Heap) (kd:TypeDesc) (n:Nat) (k:AV):Option Heap:=
 match kd with
 | .int _=>(match zoS k,H.mapxAt n with
  | true,some (_,log)=>some (H.upd n (.mapx [(k,none)] ((k,none)::log)))
  | _,_=>none)
 | _=>none
def zlO (H:Heap) (t:TypeId) (m k:AV):Option Heap:=
 match mapOf P t with
 | none=>none
 | some (kd,_)=>match isKey kd k with
  | false=>none
  | true=>match m with
   | .nilm=>some H
   | .map n=>(match H.mapAt n with
    | none=>zqK H kd n k
    | some (es,clock)=>match zkP kd k es 0 with
     | none=>none
     | some (some (i,_))=>some (H.upd n (.map (zfz es i) clock))
     | some none=>some H)
   | _=>none
def ze1 (H:Heap) (kd:TypeDesc) (et:TypeId) (n:Nat) (k:AV):Option (AV×Heap):=
 match kd with
 | .int _=>(match zoS k,H.mapxAt n with
  | true,some (kn,log)=>(match zoX kd k (zcJ kn),zgy P et with
   | some none,some z=>some (.tup [z,.opq H.nx none],(H.alloc .opq).upd n (.mapx [(k,some z),(.tup [.opq H.nx none,k],none)] ((k,some z)::log)))
   | _,_=>none)
  | _,_=>none)
 | _=>none
def zks (H:Heap) (t:TypeId) (m k:AV):Option (AV×Heap):=
 match mapOf P t with
 | none=>none
 | some (kd,et)=>match m with
  | .map n=>(match isKey kd k,H.mapAt n with
   | true,some (es,clock)=>(match zkP kd k es 0 with
    | none=>none
    | some (some (i,v))=>(match nthM es i with
     | none=>none
     | some e=>match AV.beq e.key k with
      | true=>some (.tup [v,.int .i64 (.lit (.ofNat e.born))],H)
      | false=>none)
    | some none=>match zgy P et with
     | none=>none
     | some z=>some (.tup [z,.int .i64 (.lit (.ofNat clock))],H.upd n (.map (es++ [⟨k,z,clock⟩]) (Nat.succ clock))))
   | _,_=>ze1 P H kd et n k)
  | _=>none
def ziQ (b:Nat) (v:AV):List ME→Option (List ME)
 | [] => none
 | e::l=>match Nat.beq e.born b with
  | true=>some (⟨e.key,v,e.born⟩::l)
  | false=>match ziQ b v l with|some m=>some (e::m)|none=>none
def zkh (s:AV):List (AV×Option AV)→Option AV
 | [] => none
 | e::l=>match e.1 with
  | .tup [s',k]=>(match AV.beq s' s with|true=>some k|false=>zkh s l)
  | _=>zkh s l
def zdu (H:Heap) (n q:Nat) (v:AV):Option Heap:=
 match H.mapxAt n with
 | some (kn,log)=>(match zkh (.opq q none) kn with
  | some k=>some (H.upd n (.mapx [(k,some v)] ((k,some v)::log)))
  | none=>none)
 | none=>none
def zhq (H:Heap) (m s v:AV):Option Heap:=
 match m,s with
 | .map n,.int _ (.lit (.ofNat b))=>match H.mapAt n with
  | none=>none
  | some (es,clock)=>match ziQ b v es with
   | some l=>some (H.upd n (.map l clock))
   | none=>none
 | .map n,.opq q none=>zdu H n q v
 | _,_=>none
def zgt (t:TypeId):Option (Nat×Nat):=
 match P.underlying t with
 | some (.slice e)=>(match P.info? e,zgy P e with
  | some inf,some z=>(match Nat.beq z.cells.length inf.size,inf.size with
   | true,s+1=>some (inf.bytes,s+1)
   | _,_=>none)
  | _,_=>none)
 | _=>none
def zlZ (t:TypeId):Bool:=
 match P.underlying t with
 | some (.slice _)=>true
 | some .string=>true
 | _=>false
def isSl:AV→Bool
 | .nils=>true
 | .emp=>true
 | .sl _ _ _ _=>true
 | _=>false
def zgw (H:Heap) (bytes sz need:Nat) (l:List AV):Option (AV×Heap):=
 match Nat.ble (Nat.mul need bytes) 35184372088832,Nat.ble (Nat.mul need sz) 35184372088832 with
 | true,true=>(match H with
  | ⟨m,nx,gw⟩=>some (.sl nx 0 need (.upto 0),Heap.alloc ⟨m,nx,gw⟩ (.cells (Vec.ofList l) sz nx none false true)))
 | _,_=>none
def extended (v:Vec) (off n:Nat) (new:List AV):Vec:=
 match Nat.beq off 0 with
 | true=>(match v with|⟨t,m,d⟩=>Vec.put ⟨t,Nat.add m new.length,d⟩ m new)
 | false=>Vec.ofList (v.list off n++new)
def zmm (H:Heap) (bytes sz n:Nat) (new:List AV) (b off len k:Nat):Option (AV×Heap):=
 match H.m.get b with
 | some (.cells v esz g none _ true)=>(match Nat.beq esz sz,Nat.beq off (Nat.mul k sz),zdz new with
  | true,true,true=>(match Nat.beq (Nat.add off (Nat.mul len sz)) v.n with
   | true=>(match Nat.ble (Nat.mul (Nat.add len n) bytes) 35184372088832,Nat.ble (Nat.mul (Nat.add len n) sz) 35184372088832 with
    | true,true=>(match H with
     | ⟨m,nx,gw⟩=>some (.sl nx 0 (Nat.add len n) (.upto 0),Heap.alloc (Heap.upd ⟨m,nx,gw⟩ b (.cells v sz g (some (Nat.succ nx)) true true)) (.cells (extended v off (Nat.mul len sz) new) sz g none true true)))
    | _,_=>none)
   | false=>(match Nat.ble (Nat.add off (Nat.mul (Nat.add len n) sz)) v.n with
    | true=>(match H.store b (Nat.add off (Nat.mul len sz)) new with
     | some H'=>some (.sl b off (Nat.add len n) (.upto k),H')
     | none=>none)
    | false=>none))
  | _,_,_=>none)
 | _=>none
def zxa (H:Heap) (bytes sz n:Nat) (new:List AV) (s:AV):Option (AV×Heap):=
 match s with
 | .nils=>zgw H bytes sz n new
 | .sl b off len cap=>(match cap with
  | .known c=>(match Nat.ble (Nat.add len n) c with
   | true=>(match H.store b (Nat.add off (Nat.mul len sz)) new with
    | some H'=>some (.sl b off (Nat.add len n) (.known c),H')
    | none=>none)
   | false=>(match zhy H sz len (.sl b off len (.known c)) with
    | some old=>zgw H bytes sz (Nat.add len n) (old++new)
    | none=>none))
  | .upto k=>zmm H bytes sz n new b off len k)
 | _=>none
def zml (H:Heap) (ts tx:TypeId) (s x:AV):Option (AV×Heap):=
 match zgt P ts,zlZ P tx with
 | some (bytes,sz),true=>(match lenA x with
  | none=>none
  | some n=>(match zhy H sz n x with
   | none=>none
   | some new=>(match n with
    | 0=>(match isSl s with|true=>some (s,H)|false=>none)
    | m+1=>zxa H bytes sz (Nat.succ m) new s)))
 | _,_=>none
def znS (H:Heap) (sz c:Nat) (d s:AV):Option (AV×Heap):=
 match c with
 | 0=>(match isSl d with|true=>some (.int .i64 (.lit 0),H)|false=>none)
 | c+1=>(match zhy H sz (Nat.succ c) s,d with
  | some l,.sl b off _ _=>(match H.store b off l with
   | some H'=>some (.int .i64 (.lit (.ofNat (Nat.succ c))),H')
   | none=>none)
  | _,_=>none)
def minN (m n:Nat):Nat:=match Nat.ble m n with|true=>m|false=>n
def zvV (H:Heap) (td:TypeId) (d s:AV):Option (AV×Heap):=
 match zfY P td,lenA d,lenA s with
 | some sz,some n,some m=>znS H sz (minN m n) d s
 | _,_,_=>none
def leftOf (seen:List Nat):List ME→List ME
 | [] => []
 | e::l=>match seen.any (Nat.beq e.born) with|true=>leftOf seen l|false=>e::leftOf seen l
end
end Go.Dw
namespace Go.Dw
inductive zhC where
 | run (o:Oper)
 | chk (l:List Oper)
inductive Task where
 | code (c:Code) (p:List Nat) (N:Nat) (env:T AV) (H:Heap) (k:Ex→T AV→Heap→Ob)
 | ops (all:Array Oper) (l:List Oper) (N:Nat) (env:T AV) (H:Heap) (k:T AV→Heap→Ob)
 | call (f:FuncId) (args:List AV) (H:Heap) (k:AV→Heap→Ob)
 | app (t:TypeId) (s:AV) (n:Nat) (xs:List AV) (H:Heap) (k:AV→Heap→Ob)
inductive Cls where
 | light|alloc|heavy|defr
def zfD (o:Op):Cls:=
 match o with
 | .alloc _| .box _ _| .buildSlice _ _ _| .makeMap _ _| .makeSlice _ _ _=> .alloc
 | .store _ _ _| .mapUpdate _ _ _ _| .insert _ _ _ _| .mapEntry _ _ _| .entryStore _ _ _ _| .range _ _| .next _ _=> .heavy
 | .call c=>match c.callee with
  | .builtin .len| .builtin .cap| .builtin .min| .builtin .max=> .light
  | _=> .heavy
 | .defer _=> .defr
 | _=> .light
def za5 (ms:List Nat):List Edge→Nat
 | [] => 0
 | e::l=>match Region.binds .any e with
  | true=>Nat.lor (Nat.lor (2^e.on) (ms.getD e.on 0)) (za5 ms l)
  | false=>za5 ms l
def zbI:List Oper→List Nat→List Nat
 | [], ms=>ms
 | o::l,ms=>zbI l (ms++ [za5 ms o.after.toList])
def zdm (l:List Oper):List Nat:=zbI l []
def zaW (o:Oper):Bool:=match zfD o.op with| .heavy=>true| .defr=>true|_=>false
def zhh (o:Oper):Bool:=match zfD o.op with| .defr=>true|_=>false
def zhg (o:Oper):Bool:=match zfD o.op with| .light=>true|_=>false
structure PO where
 o:Oper
 i:Nat
 m:Nat
 s:Nat
def zbO (m:Nat):List Nat→Nat→Nat→Nat
 | [], _,acc=>acc
 | h::l,t,acc=>match m.testBit h with
  | true=>zbO m l (Nat.succ t) (Nat.succ t)
  | false=>zbO m l (Nat.succ t) acc
def zb9:List Oper→Nat→List Nat
 | [], _=> []
 | o::l,i=>match zaW o with
  | true=>i::zb9 l (Nat.succ i)
  | false=>zb9 l (Nat.succ i)
def posOf (hs:List Nat):List Oper→List Nat→Nat→List PO
 | o::l,m::ms,i=>⟨o,i,m,zbO m hs 0 0⟩::posOf hs l ms (Nat.succ i)
 | _,_,_=> []
def chained (ms:List Nat):List Nat→Bool
 | [] => true
 | h::l=>match l with
  | [] => true
  | h'::_=>match (ms.getD h' 0).testBit h with|true=>chained ms l|false=>false
def zhr:List PO→Bool
 | [] => true
 | p::l=>match p.o.after.toList.all (fun e=>match Region.binds .any e with|true=>Nat.blt e.on p.i|false=>true) with
  | true=>zhr l
  | false=>false
def looks (ops:Array Oper) (o:Oper):List Tmp:=
 o.op.operands.toList.filterMap (fun x=>match x with| .tmp t=>some t|_=>none)++(match o.guard with
  | some (g,_)=>(match ops[g]? with|some q=>(match q.dst with|some t=> [t]|none=> [])|none=> [])
  | none=> [])
def zqd (ops:Array Oper) (all:List PO) (p:PO):Bool:=
 all.all fun q=>match q.o.dst with
  | none=>true
  | some t=>match (looks ops p.o).any (Nat.beq t),p.m.testBit q.i||q.m.testBit p.i with
   | true,false=>false
   | _,_=>match Nat.beq p.i q.i,p.o.dst with
    | false,some u=>(match Nat.beq t u with|true=>false|false=>true)
    | _,_=>true
def zgM (s:Nat):List PO→List zhC
 | [] => []
 | p::l=>match zaW p.o,Nat.beq p.s s with
  | false,true=> .run p.o::zgM s l
  | _,_=>zgM s l
def zcy (s hm:Nat):List PO→List PO
 | [] => []
 | p::l=>match zhg p.o,Nat.ble p.s s,hm.testBit p.i with
  | true,true,false=>p::zcy s hm l
  | _,_,_=>zcy s hm l
def zg0:List PO→List Oper
 | [] => []
 | p::l=>p.o::zg0 l
def zdN (s hm:Nat) (l:List PO):List Oper:=zg0 (zcy s hm l)
def ziY (ops:Array Oper) (all:List PO) (s:Nat) (p:PO):Bool:=
 all.all fun q=>match q.o.dst with
  | none=>true
  | some t=>match (looks ops p.o).any (Nat.beq t),p.m.testBit q.i||Nat.blt s q.s with
   | true,false=>false
   | _,_=>true
def zdM (ops:Array Oper) (all:List PO):Nat→List PO→Bool
 | _,[]=>true
 | s,h::rest=>match (zcy s h.m all).all (ziY ops all s) with
  | true=>zdM ops all (Nat.succ s) rest
  | false=>false
def zcz (all:List PO):Nat→List PO→List zhC
 | s,[]=>zgM s all
 | s,h::rest=>zgM s all++ .run h.o:: .chk (zdN s h.m all)::zcz all (Nat.succ s) rest
def zqs (ops:Array Oper):Option (List zhC):=
 let ms:=zdm ops.toList
 let hs:=zb9 ops.toList 0
 let all:=posOf hs ops.toList ms 0
 let hp:=all.filter fun p=>zaW p.o
 match chained ms hs&&zhr all&&all.all (zqd ops all)&& !(ops.toList.any zhh)&&zdM ops all 0 hp with
 | true=>some (zcz all 0 hp)
 | false=>none
section
variable (P:Program)
inductive G where
 | yes|no
 | test (t:Nat) (b:SB) (want:Bool)
 | none
def zb4 (all:Array Oper) (env:T AV) (o:Oper):G:=
 match o.guard with
 | none=> .yes
 | some (j,want)=>match all[j]? with
  | none=> .no
  | some oj=>match oj.dst with
   | none=> .no
   | some t=>match env.get t with
    | none=> .no
    | some (.bool (.lit true))=>(match want with|true=> .yes|false=> .no)
    | some (.bool (.lit false))=>(match want with|true=> .no|false=> .yes)
    | some (.bool b)=> .test t b want
    | some (.tup [])=> .no
    | some (.nun _ _)=> .no
    | _=> .none
def zdi (H:Heap) (env:T AV):List ResultVar→Option (List AV)
 | [] => some []
 | .tmp t::l=>match opd env (.tmp t),zdi H env l with
  | some v,some m=>some (v::m)
  | _,_=>none
 | .cell a t::l=>match light P (.load t (.tmp a)) env H,zdi H env l with
  | some v,some m=>some (v::m)
  | _,_=>none
def zlB (fn:Func) (H:Heap) (env:T AV):Option AV:=
 match zdi P H env fn.results.toList with
 | some [v]=>some v
 | some l=>some (.tup l)
 | none=>none
def zkR:List AV→Nat→T AV→T AV
 | [], _,env=>env
 | a::l,i,env=>zkR l (Nat.succ i) (env.set i a)
def zrd (k:AV→Heap→Ob):List (AV×Heap)→Ob
  | [] => .bad 90 "no way"
  | [(v,H)]=>k v H
  | l=> .all (l.map fun x=>k x.1 x.2)
abbrev K:=AV→Heap→Ob
abbrev D:=T AV→Heap→K→Ob
def dNo : D := fun _ _ _ => .bad 29 ""
def okH (k:K):Option Heap→Ob
  | some H=>k zbq H
  | none => .bad 3 ""
def okVH (k:K):Option (AV×Heap)→Ob
  | some (v,H)=>k v H
  | none => .bad 4 ""
def znQ (t:TypeId) (a v:Operand):D:=fun env H k=>
  match opd env a,opd env v with
  | some (.ptr n off),some x=>okH k (ztT P H t n off x)
  | _, _ => .bad 5 ""
def zfC (t:TypeId) (m kk v:Operand):D:=fun env H k=>
  match opd env m,opd env kk,opd env v with
  | some m,some kk,some v=>okH k (zi3 P H t m kk v)
  | _, _, _ => .bad 6 ""
def zfa (t:TypeId) (m kk:Operand):D:=fun env H k=>
  match opd env m,opd env kk with
  | some m,some kk=>okVH k (zks P H t m kk)
  | _, _ => .bad 9 ""
def zdx (_:TypeId) (m s v:Operand):D:=fun env H k=>
  match opd env m,opd env s,opd env v with
  | some m,some s,some v=>okH k (zhq H m s v)
  | _, _, _ => .bad 11 ""
def znR (rec:Task→Ob) (f:Operand) (args:List Operand):D:=fun env H k=>
  match opd env f,opds env args with
  | some (.func g first cap),some args=>match first,cap with
    | [], [] => rec (.call g args H k)
    | _,_=>rec (.call g (first++(args++cap)) H k)
  | _, _ => .bad 17 ""
def appX (rec:Task→Ob) (ts tx:TypeId) (rest:List TypeId) (s x:AV) (H:Heap) (k:K):Ob:=
  match rest,Nat.beq tx ts,zgt P ts,x with
  | [], true,some (_,sz),.sl b off len _=>(match H.row b with
    | some v=>(match Nat.ble (Nat.add off (Nat.mul len sz)) v.n with
      | true=>rec (.app ts s len (v.list off (Nat.mul len sz)) H k)
      | false => .bad 4 "")
    | none => .bad 4 "")
  | _, _, _, _ => .bad 4 ""
def zjr (rec:Task→Ob) (ts:List TypeId) (args:List Operand):D:=fun env H k=>
  match ts,opds env args with
  | ts::tx::rest,some [s,x]=>(match zml P H ts tx s x with
    | some q=>k q.1 q.2
    | none=>appX P rec ts tx rest s x H k)
  | _, _ => .bad 21 ""
def zts (ts:List TypeId) (args:List Operand):D:=fun env H k=>
  match ts,opds env args with
  | td::_,some [d,s]=>okVH k (zvV P H td d s)
  | _, _ => .bad 23 ""
def zjq (ts:List TypeId) (args:List Operand):D:=fun env H k=>
  match ts,opds env args with
  | t::_,some [m,kk]=>okH k (zlO P H t m kk)
  | _, _ => .bad 25 ""
def zgu (rec:Task→Ob) (b:Builtin) (c:Call):D:=
 match b with
 | .append=>zjr P rec c.argTypes.toList c.args.toList
 | .copy=>zts P c.argTypes.toList c.args.toList
 | .delete=>zjq P c.argTypes.toList c.args.toList
 | _=>dNo
def zvT (rec:Task→Ob) (c:Call):D:=
 match c.callee with
 | .value f=>znR rec f c.args.toList
 | .invoke _ _=>dNo
 | .builtin b=>zgu P rec b c
def heavy (rec:Task→Ob) (o:Op):D:=
 Op.casesOn (motive:=fun _=>D) o (fun _=>dNo) (fun _=>dNo) (fun _ _ _=>dNo) (fun _=>dNo) (fun _ _=>dNo) (fun _ _=>dNo) (fun _ _ _=>dNo) (zfC P) (fun _ _=>dNo)
  (znQ P) (fun _=>dNo) (fun _=>dNo) (fun _=>dNo) (fun _ _ _ _ _=>dNo) (fun _ _ _=>dNo) (fun _ _ _=>dNo) (fun _ _=>dNo) (fun _ _=>dNo) (fun _ _ _=>dNo) (fun _ _=>dNo) (fun _ _=>dNo)
  (fun _ _ _=>dNo) (fun _ _ _ _ _=>dNo) (fun _ _ _=>dNo) (fun _ _ _=>dNo) (fun _ _ _=>dNo) (fun _ _ _=>dNo) (fun _ _ _ _=>dNo) (zfC P) (zfa P) (zdx)
  (fun _ _=>dNo) (fun _ _=>dNo) (fun _=>dNo) (fun _ _ _ _=>dNo) (fun _ _=>dNo) (zvT P rec) (fun _=>dNo) (fun _=>dNo) (fun _=>dNo) (fun _ _=>dNo) (fun _ _ _=>dNo) (fun _ _=>dNo)
def okL (o:Oper) (H:Heap) (k:K):Option AV→Ob
 | some v=>k v H
 | none=> .bad 1 o.pos
def okA (o:Oper) (H:Heap) (k:K):Option (AV×Obj)→Ob
 | some (v,ob)=>k v (H.alloc ob)
 | none=> .bad 2 o.pos
abbrev K3:=T AV→AV→Heap→Ob
abbrev D3:=T AV→Heap→K3→Ob
def zvO (_:Task→Ob) (o:Oper):D3:=fun env H k=>okL o H (k env) (light P o.op env H)
def zvQ (_:Task→Ob) (o:Oper):D3:=fun env H k=>match H with|⟨m,nx,gw⟩=>okA o ⟨m,nx,gw⟩ (k env) (zcu P o.op env nx)
def zvP (rec:Task→Ob) (o:Oper):D3:=fun env H k=>heavy P rec o.op env H (k env)
def zmd (_:Task→Ob) (o:Oper):D3:=fun env H k=>
 match o.op with
 | .defer c=>match c.callee with
  | .value f=>match opd env f,opds env c.args.toList with
   | some (.func g first cap),some args=>k (env.set zaZ (.tup [.func g [] (first++(args++cap)),match env.get zaZ with|some v=>v|none=>zbq])) zbq H
   | _,_=> .bad 60 o.pos
  | _=> .bad 61 o.pos
 | _=> .bad 62 o.pos
def doOp (rec:Task→Ob) (o:Oper):D3:=
 Cls.casesOn (motive:=fun _=>(Task→Ob)→Oper→D3) (zfD o.op) (zvO P) (zvQ P) (zvP P) zmd rec o
def putA (dst:Option Tmp) (N:Nat) (env:T AV) (v:AV) (k:T AV→Ob):Ob:=
  match dst with
  | none=>k env
  | some d=>match Nat.blt d N with
    | true=>k (env.set d v)
    | false => .bad 30 ""
def zeI (c:SB):List (SB×Bool)→Option Bool
 | [] => none
 | p::l=>match SB.eqv c p.1 with|true=>some p.2|false=>zeI c l
def ze7 (fs:List (SB×Bool)) (all:Array Oper) (env:T AV) (o:Oper):G:=
 match zb4 all env o with
 | .test t b want=>(match zeI b fs with
  | some true=>(match want with|true=> .yes|false=> .no)
  | some false=>(match want with|true=> .no|false=> .yes)
  | none=> .test t b want)
 | g=>g
def zvs (all:Array Oper) (env:T AV) (o:Oper):AV:=
 match zb4 all env o with
 | .test _ b want=> .nun b want
 | _=>zbq
def chkA (fs:List (SB×Bool)) (all:Array Oper) (env:T AV) (H:Heap):List Oper→Bool
 | [] => true
 | o::l=>match ze7 fs all env o with
  | .no=>chkA fs all env H l
  | .yes=>match light P o.op env H,o.dst with
   | some v,some d=>match env.get d with
    | some u=>match AV.beq v u with|true=>chkA fs all env H l|false=>false
    | none=>false
   | some _,none=>chkA fs all env H l
   | none,_=>false
  | _=>false
def zkd (rec:Task→Ob) (o:Oper) (N:Nat) (kk:T AV→Heap→Ob) (env:T AV) (H:Heap) (b:Bool) (z:AV):Ob:=
 match b with
 | true=>doOp P rec o env H fun env v H=>putA o.dst N env v fun env'=>kk env' H
 | false=>putA o.dst N env z fun env'=>kk env' H
def zaM (rec:Task→Ob) (all:Array Oper) (N:Nat) (k:T AV→Heap→Ob):List zhC→List (SB×Bool)→T AV→Heap→Ob
  | [], _,env,H=>k env H
  | .run o::rest,fs,env,H=>(match ze7 fs all env o with
    | .yes=>zkd P rec o N (zaM rec all N k rest fs) env H true zbq
    | .no=>zkd P rec o N (zaM rec all N k rest fs) env H false (zvs all env o)
    | .test _ b want=> .ite b (zkd P rec o N (zaM rec all N k rest ((b,true)::fs)) env H want (.nun b want)) (zkd P rec o N (zaM rec all N k rest ((b,false)::fs)) env H (match want with|true=>false|false=>true) (.nun b want))
    | .none=> .bad 47 o.pos)
  | .chk os::rest,fs,env,H=>(match chkA P fs all env H os with
    | true=>zaM rec all N k rest fs env H
    | false => .bad 48 (match os with | o :: _ => o.pos | [] => ""))
abbrev KC:=Ex→T AV→Heap→Ob
abbrev SC:=(Task→Ob)→List Nat→Nat→T AV→Heap→KC→Ob
def sNo : SC := fun _ _ _ _ _ _ => .bad 43 "a statement"
def zwE:SC:=fun _ _ _ env H k=>k .normal env H
def zlw (_:Nat) (ops:Array Oper) (draw:Bool):SC:=fun rec _ N env H k=>
  match draw with
  | false=>rec (.ops ops ops.toList N env H (k .normal))
  | true=>match zqs ops with
    | some l=>zaM P rec ops N (k .normal) l [] env H
    | none => .bad 40 "a region without a plan"
def zr8 (rec:Task→Ob) (b:Code) (p:List Nat) (N:Nat) (k:KC):KC:=fun e env H=>
 Ex.casesOn e (rec (.code b p N env H k)) (fun id=>k (.exit id) env H) (k .ret env H)
def sSeq (a b:Code):SC:=fun rec p N env H k=>rec (.code a (0::p) N env H (zr8 rec b (1::p) N k))
def zwH (c:Operand) (a b:Code):SC:=fun rec p N env H k=>
  match opd env c with
  | some (.bool s)=>match s with
    | .lit true=>rec (.code a (0::p) N env H k)
    | .lit false=>rec (.code b (1::p) N env H k)
    | s=>match c with
      | .tmp t=>match Nat.blt t N with
        | true=> .ite s (rec (.code a (0::p) N (env.set t (.bool (.lit true))) H k)) (rec (.code b (1::p) N (env.set t (.bool (.lit false))) H k))
        | false => .bad 41 ""
      | _ => .bad 41 ""
  | _ => .bad 42 "a test"
def zug (id:Nat) (k:KC):KC:=fun e env H=>
 match e with
 | .exit id'=>match Nat.beq id' id with
  | true=>k .normal env H
  | false=>k (.exit id') env H
 | e=>k e env H
def zwI (id:Nat) (c:Code):SC:=fun rec p N env H k=>rec (.code c (0::p) N env H (zug id k))
abbrev LAns:=List (SB×Ex×T AV×Heap)
abbrev LOrc:=List Nat→Nat→T AV→Heap→Option LAns
def noL:LOrc:=fun _ _ _ _=>none
abbrev AOrc:=TypeId→AV→Nat→List AV→Heap→Option (AV×Heap)
def noA:AOrc:=fun _ _ _ _ _=>none
def zrc (k:KC):LAns→Ob
  | [] => .bad 91 "no end"
  | (b,x,env,H)::l=>match b with
    | .lit true=>k x env H
    | b=> .ite b (k x env H) (zrc k l)
def zeb:List Nat→List Nat
 | 2::i::q=>i::q
 | p=>p
def zso (lorc:LOrc) (c:Code):SC:=fun rec p N env H k=>
 match lorc p N env H with
 | some l=>zrc k l
 | none=>rec (.code c (0::zeb p) N env H (zr8 rec (.loop c) (2::zeb p) N k))
def zwF (lorc:LOrc) (a b:Code):SC:=fun rec p N env H k=>
 match lorc p N env H with
 | some l=>zrc k l
 | none=>sSeq a b rec p N env H k
def zxg (id:Nat):SC:=fun _ _ _ env H k=>k (.exit id) env H
def zwG (_:Nat):SC:=zwE
def sRet:SC:=fun _ _ _ env H k=>k .ret env H
def ziK (lorc:LOrc) (rec:Task→Ob) (c:Code) (p:List Nat) (N:Nat) (env:T AV) (H:Heap) (k:KC):Ob:=
 Code.casesOn (motive:=fun _=>SC) c zwE (zlw P) (zwF lorc) zwH zwI (zso lorc) (fun _ _ _ _=>sNo) zxg (fun _=>sNo) zwG (fun _=>sNo) sRet (fun _=>sNo) rec p N env H k
def opsK (rec:Task→Ob) (all:Array Oper) (rest:List Oper) (N:Nat) (k:T AV→Heap→Ob) (o:Oper):K3:=fun env v H=>
 putA o.dst N env v fun env'=>rec (.ops all rest N env' H k)
def zln (rec:Task→Ob) (all:Array Oper) (l:List Oper) (N:Nat) (env:T AV) (H:Heap) (k:T AV→Heap→Ob):Ob:=
  match l with
  | [] => k env H
  | o::rest=>match zb4 all env o with
    | .yes=>doOp P rec o env H (opsK rec all rest N k o)
    | .no=>putA o.dst N env zbq fun env'=>rec (.ops all rest N env' H k)
    | .test t b _=>match Nat.blt t N with
      | true=> .ite b (rec (.ops all l N (env.set t (.bool (.lit true))) H k)) (rec (.ops all l N (env.set t (.bool (.lit false))) H k))
      | false => .bad 44 ""
    | .none=> .bad 45 o.pos
def ziB (f:FuncId):Option (Func×Code):=
  match P.funcs[f]? with
  | none=>none
  | some fn=>match fn.body with
    | none=>none
    | some c => if fn.name = "runtime.NumGoroutine" then none else some (fn, c)
def leave (fn:Func) (env:T AV) (k:K):Heap→Ob:=fun H=>
 match zlB P fn H env with
 | some v=>k v H
 | none=> .bad 54 fn.name
def zw5 (fn:Func) (k:K):KC:=fun e env H=>
 match e with
 | .exit _=> .bad 56 fn.name
 | _=>match env.get zaZ with
  | none=>leave P fn env k H
  | some _=> .bad 57 fn.name
def zcW (rec:Task→Ob) (fin:Heap→Ob):Nat→AV→Heap→Ob
  | 0, _, _ => .bad 70 ""
  | n+1,d,H=>match d with
    | .tup []=>fin H
    | .tup [.func g [] args,rest]=>(match ziB P g with
      | none => .bad 72 ""
      | some (fn,c)=>(match Nat.ble args.length fn.ntmps&&Nat.ble fn.ntmps zaZ with
        | true=>rec (.code c [g] fn.ntmps (zkR args 0 .leaf) H (zw5 P fn fun _ H'=>zcW rec fin n rest H'))
        | false=> .bad 73 fn.name))
    | _ => .bad 71 ""
def zxs (rec:Task→Ob) (fn:Func) (k:K):KC:=fun e env H=>
 match e with
 | .exit _=> .bad 53 fn.name
 | _=>match env.get zaZ with
  | none=>leave P fn env k H
  | some d=>zcW P rec (leave P fn env k) 8 d H
def ziL (orc:FuncId→List AV→Heap→Option (List (AV×Heap))) (rec:Task→Ob) (f:FuncId) (args:List AV) (H:Heap) (k:K):Ob:=
  match orc f args H with
  | some l=>zrd k l
  | none=>match ziB P f with
    | none => .bad 50 ""
    | some (fn,c)=>match Nat.ble args.length fn.ntmps&&Nat.ble fn.ntmps zaZ with
      | true=>rec (.code c [f] fn.ntmps (zkR args 0 .leaf) H (zxs P rec fn k))
      | false=> .bad 55 fn.name
def zlo (aorc:AOrc) (t:TypeId) (s:AV) (n:Nat) (xs:List AV) (H:Heap) (k:K):Ob:=
  match aorc t s n xs H with
  | some q=>k q.1 q.2
  | none => .bad 4 "append"
def step (orc:FuncId→List AV→Heap→Option (List (AV×Heap))) (lorc:LOrc) (aorc:AOrc) (rec:Task→Ob) (t:Task):Ob:=
 Task.casesOn (motive:=fun _=>Ob) t (ziK P lorc rec) (zln P rec) (ziL P orc rec) (zlo aorc)
noncomputable def evL (orc:FuncId→List AV→Heap→Option (List (AV×Heap))) (lorc:LOrc) (aorc:AOrc) (n:Nat):Task→Ob:=
  Nat.rec (motive := fun _ => Task → Ob) (fun _ => .bad 0 "no fuel") (fun _ ih => step P orc lorc aorc ih) n
noncomputable def ev (orc:FuncId→List AV→Heap→Option (List (AV×Heap))) (n:Nat):Task→Ob:=evL P orc noL noA n
def zad (i:Nat):Code→Code
 | .seq a b=>(match i with|0=>a|1=>b|_=> .skip)
 | .cond _ a b=>(match i with|0=>a|1=>b|_=> .skip)
 | .block _ c=>(match i with|0=>c|_=> .skip)
 | .loop c=>(match i with|0=>c|2=> .loop c|_=> .skip)
 | _=> .skip
def zbf:List Nat→Code
 | [] => .skip
 | i::p=>match p with
  | [] => (match ziB P i with|some (_,c)=>c|none=> .skip)
  | _::_=>zad i (zbf p)
def heap0:Heap:=⟨.leaf,1,.leaf⟩
def zs8:FuncId→List AV→Heap→Option (List (AV×Heap)):=fun _ _ _=>none
end
end Go.Dw
end
