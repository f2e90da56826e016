/-
  Proved: laws on the way to 'PserveTakesProof' (texts Laid SvA SvB SvC SvD SvE SvF SvG SvH SvI DwBase DwEv DwRun DwLaw DwRel DwMem DwMap); no condition.
-/
import Derived.Test.YtfoggkodmjnmcaaGreatRows
import Derived.KernelRfl
import Derived.ProofKit
import Derived.Test.YtfoggkodmjnmcaaGreatProg
import Derived.Sort.OwnSortedInts
import Derived.Sort.AtCall
import Derived.Maps.AppendAt
import Derived.Maps.RangeWalk
import Derived.Deep.MidRow
import Derived.Deep.WholeRow
import Derived.StillTailTactics
import Derived.Deep.QuietTactic
import Derived.BigQuiet
import Derived.WalkKit
import Derived.Laws.Cover3
import Derived.Laws.CopyOwn
import Derived.Laws.CopyRow
import Derived.Laws.IdiomCopy
import Derived.Deep.RegionWith
import Derived.Deep.CutRange
import Derived.Calls
import Derived.Orders
import Derived.Laws.Cells
import Derived.Laws.AppendOwn
import Derived.LoopN
import Derived.RowKit3
import Derived.Below
set_option linter.unusedSimpArgs false
set_option linter.unusedVariables false
set_option maxHeartbeats 4000000
noncomputable section
namespace Go.Proofs.YtfoggkodmjnmcaaGreat
theorem laidOutAll:laidOutB Tryz.prog=true:=by kernel_rfl
end Go.Proofs.YtfoggkodmjnmcaaGreat
namespace Go.Proofs
open Go.RowKit Go.Maps Go.Sort
structure Tryz.GM (w:World) (P L Bs B N:Nat) (g:Nat→Int):Prop where
 p0: ∃c,w.cell? ⟨P,0,none⟩=some (.slice (some ⟨L,0,none⟩) 1 c)
 p1:w.cell? ⟨P,1,none⟩=some (.slice (some ⟨Bs,0,none⟩) 1 2)
 l0:w.cell? ⟨L,0,none⟩=some (.int .u64 0)
 l1:w.cell? ⟨L,1,none⟩=some (.int .u64 N)
 b0:w.cell? ⟨Bs,0,none⟩=some (.slice (some ⟨B,0,none⟩) N N)
 full: ∀j,j<N→w.cell? ⟨B,j,none⟩=some (.int .u8 (g j))
 free: ∀j,j<N→w.frozen? ⟨B,j,none⟩=false
 byte: ∀j,0≤g j∧g j<256
 pb:P≠B
 lb:L≠B
 sb:Bs≠B
 bl:B<w.heap.size
theorem Tryz.GM.pl {w:World} {P L Bs B N:Nat} {g:Nat→Int} (h:GM w P L Bs B N g):P<w.heap.size:=World.block_lt_of_cell? w _ h.p1
theorem Tryz.GM.ll {w:World} {P L Bs B N:Nat} {g:Nat→Int} (h:GM w P L Bs B N g):L<w.heap.size:=World.block_lt_of_cell? w _ h.l0
theorem Tryz.GM.sl {w:World} {P L Bs B N:Nat} {g:Nat→Int} (h:GM w P L Bs B N g):Bs<w.heap.size:=World.block_lt_of_cell? w _ h.b0
theorem Tryz.GM.kept {w w':World} {P L Bs B N:Nat} {g:Nat→Int} (h:GM w P L Bs B N g) (hg: ∀k,k<w.heap.size→(k=P∨k=L∨k=Bs∨k=B)→w'.heap[k]? =w.heap[k]?) (hs:w.heap.size≤w'.heap.size):GM w' P L Bs B N g:=by
 have eP:=hg P h.pl (Or.inl rfl)
 have eL:=hg L h.ll (Or.inr (Or.inl rfl))
 have eS:=hg Bs h.sl (Or.inr (Or.inr (Or.inl rfl)))
 have eB:=hg B h.bl (Or.inr (Or.inr (Or.inr rfl)))
 refine ⟨?_,?_,?_,?_,?_,fun j hj=> ?_,fun j hj=> ?_,h.byte,h.pb,h.lb,h.sb,Nat.lt_of_lt_of_le h.bl hs⟩
 ·obtain ⟨c,h0⟩:=h.p0
  exact ⟨c,by rw [World.cell?_of_block (a:=⟨P,0,none⟩) eP];exact h0⟩
 ·rw [World.cell?_of_block (a:=⟨P,1,none⟩) eP];exact h.p1
 ·rw [World.cell?_of_block (a:=⟨L,0,none⟩) eL];exact h.l0
 ·rw [World.cell?_of_block (a:=⟨L,1,none⟩) eL];exact h.l1
 ·rw [World.cell?_of_block (a:=⟨Bs,0,none⟩) eS];exact h.b0
 ·rw [World.cell?_of_block (a:=⟨B,j,none⟩) eB];exact h.full j hj
 ·rw [World.frozen?_of_block (a:=⟨B,j,none⟩) eB];exact h.free j hj
theorem Tryz.GM.below {w w':World} {P L Bs B N:Nat} {g:Nat→Int} (h:GM w P L Bs B N g) (hb:Below w.heap.size w w'):GM w' P L Bs B N g:=h.kept (fun k hk _=>hb.block k hk) hb.size
theorem Tryz.wrap_u64 (k:Int) (h:0≤k) (h':k<18446744073709551616):IntKind.wrap .u64 k=k:=by unfold IntKind.wrap;simp [IntKind.signed,IntKind.bits];omega
set_option maxRecDepth 100000 in
theorem Tryz.zvX (P L Bs B N X Y:Nat) (at1:Int) (g:Nat→Int) (w:World) (st:GM w P L Bs B N g) (hN:N≤1048576) (h1:1≤N) (hX:w.cell? ⟨X,0,none⟩=some (.pointer (some ⟨P,0,none⟩))) (hY:w.cell? ⟨Y,0,none⟩=some (.int .u64 at1)):
  Calls prog 86 #[.int .i64 0,.pointer (some ⟨X,0,none⟩),.pointer (some ⟨Y,0,none⟩)] w fun e w'=>e= .returned (.bool (decide (at1≤N-1)))∧ ∃q,w'=w.drewN q:=by
 obtain ⟨lc,c0⟩:=st.p0
 have c2:=st.l0
 have c3:=st.l1
 have hs:IntKind.wrap .u64 ((N:Int)-1)=N-1:=wrap_u64 _ (by omega) (by omega)
 go_enter func86,ntmps86
 go_wp2_with fail
 go_quiet (fail)
 go_wp2
 go_ret
 exact ⟨rfl,nq,rfl⟩
theorem Tryz.below_drewN {B:Nat} {a w:World} (h:Below B a w) (q:Nat):Below B a (w.drewN q):=⟨h.os,h.tape,h.output,h.size,h.block⟩
theorem Tryz.GM.drewN {w:World} {P L Bs B N:Nat} {g:Nat→Int} (h:GM w P L Bs B N g) (q:Nat):GM (w.drewN q) P L Bs B N g:=h.kept (fun _ _ _=>rfl) (Nat.le_refl _)
set_option maxRecDepth 100000 in
theorem Tryz.zph (P L Bs B N X Y:Nat) (at1:Int) (g:Nat→Int) (w:World) (st:GM w P L Bs B N g) (hN:N≤1048576) (h1:1≤N) (hX:w.cell? ⟨X,0,none⟩=some (.pointer (some ⟨P,0,none⟩))) (hY:w.cell? ⟨Y,0,none⟩=some (.int .u64 at1)) (ha:at1≤N-1):
    Calls prog 85 #[.int .i64 1,.func (.func 86) #[] #[.pointer (some ⟨X,0,none⟩),.pointer (some ⟨Y,0,none⟩)]] w fun e w'=>e= .returned (.int .i64 0)∧ ∃q,w'=w.drewN q:=by
  have he:=zvX P L Bs B N X Y at1 g w st hN h1 hX hY
  rw [decide_eq_true ha] at he
  go_enter func85,ntmps85
  go_wp2_with fail
  go_loopw [5,6] (fun i j wr=>(i= .int .i64 0∧j= .int .i64 1∧wr=w)∨(i= .int .i64 0∧j= .int .i64 0∧ ∃q,wr=w.drewN q)) (fun _ j _=>(RowKit.intOf j).toNat)
  case atStart=>exact Or.inl ⟨rfl,rfl,rfl⟩
  case round=>
    rcases hrel with ⟨rfl,rfl,rfl⟩|⟨rfl,rfl,q,rfl⟩
    · go_wp2_with (first
        | (go_at_call 86;refine he.mono ?_;rintro e w' ⟨rfl,q,rfl⟩)
        | go_in)
      exact ⟨Or.inr ⟨rfl,rfl,q,rfl⟩,by simp [RowKit.intOf]⟩
    · go_wp2
      go_ret
      exact ⟨rfl,q,rfl⟩
set_option maxRecDepth 100000 in
theorem Tryz.zwN (P L Bs B N X Y:Nat) (at1:Int) (g:Nat→Int) (w:World) (st:GM w P L Bs B N g) (hN:N≤1048576) (h1:1≤N) (hX:w.cell? ⟨X,0,none⟩=some (.pointer (some ⟨P,0,none⟩))) (hY:w.cell? ⟨Y,0,none⟩=some (.int .u64 at1)) (ha: ¬at1≤N-1):
    Calls prog 85 #[.int .i64 1,.func (.func 86) #[] #[.pointer (some ⟨X,0,none⟩),.pointer (some ⟨Y,0,none⟩)]] w fun e w'=>e= .returned (.int .i64 1)∧ ∃q,w'=w.drewN q:=by
  have he:=zvX P L Bs B N X Y at1 g w st hN h1 hX hY
  rw [decide_eq_false ha] at he
  go_enter func85,ntmps85
  go_wp2_with fail
  go_loopw [5,6] (fun i j wr=>(i= .int .i64 0∧j= .int .i64 1∧wr=w)∨(i= .int .i64 1∧j= .int .i64 1∧ ∃q,wr=w.drewN q)) (fun i j _=>(RowKit.intOf j-RowKit.intOf i).toNat)
  case atStart=>exact Or.inl ⟨rfl,rfl,rfl⟩
  case round=>
    rcases hrel with ⟨rfl,rfl,rfl⟩|⟨rfl,rfl,q,rfl⟩
    · go_wp2_with (first
        | (go_at_call 86;refine he.mono ?_;rintro e w' ⟨rfl,q,rfl⟩)
        | go_in)
      exact ⟨Or.inr ⟨rfl,rfl,q,rfl⟩,by simp [RowKit.intOf]⟩
    · go_wp2
      go_ret
      exact ⟨rfl,q,rfl⟩
set_option maxRecDepth 100000 in
theorem Tryz.zgU (P L Bs B N a k:Nat) (g:Nat→Int) (w:World) (st:GM w P L Bs B N g) (hN:N≤1048576) (hk:1≤k) (hin:a+k≤N):
    Calls prog 60 #[.pointer (some ⟨P,0,none⟩),.int .u64 a,.int .u64 k] w fun e w'=>e= .returned (.slice (some ⟨B,a,none⟩) k (N-a))∧Below w.heap.size w w':=by
  have hb2:=((Below.refl _ w).alloc (Nat.le_refl _) (.cells #[.pointer (some ⟨P,0,none⟩)] 27)).alloc (by simp) (.cells #[.int .u64 a] 29)
  have st2:=st.below hb2
  have hX:((w.alloc (.cells #[.pointer (some ⟨P,0,none⟩)] 27)).alloc (.cells #[.int .u64 a] 29)).cell? ⟨w.heap.size,0,none⟩=some (.pointer (some ⟨P,0,none⟩)):=by simp
  have hY:((w.alloc (.cells #[.pointer (some ⟨P,0,none⟩)] 27)).alloc (.cells #[.int .u64 a] 29)).cell? ⟨w.heap.size+1,0,none⟩=some (.int .u64 a):=by simp
  have hse:=zph P L Bs B N w.heap.size (w.heap.size+1) a g _ st2 hN (by omega) hX hY (by omega)
  go_enter func60,ntmps60
  generalize hw2:(w.alloc (.cells #[.pointer (some ⟨P,0,none⟩)] 27)).alloc (.cells #[.int .u64 a] 29)=w2 at*
  obtain ⟨lc,c0⟩:=st2.p0
  have c1:=st2.p1
  have c2:=st2.l0
  have c3:=st2.l1
  have c4:=st2.b0
  have ha:IntKind.wrap .u64 ((N:Int)-a)=N-a:=wrap_u64 _ (by omega) (by omega)
  have hak:IntKind.wrap .u64 ((a:Int)+k)=a+k:=wrap_u64 _ (by omega) (by omega)
  have hkk:a+k-a=k:=by omega
  go_wp2_with (first
    | (go_at_call 85;refine hse.mono ?_;rintro e w' ⟨rfl,q,rfl⟩)
    | go_in)
  go_quiet (fail)
  go_wp2
  go_quiet (fail)
  go_wp2
  go_ret
  exact ⟨(by show Ending.returned (.slice (some ⟨B,a,none⟩) (a+k-a) (N-a))=_;rw [hkk]),below_drewN hb2 _⟩
set_option maxRecDepth 100000 in
theorem Tryz.zCa (P L Bs B N:Nat) (a k:Int) (g:Nat→Int) (w:World) (st:GM w P L Bs B N g) (hN:N≤1048576) (h1:1≤N) (ha0:0≤a) (ha1:a<18446744073709551616) (hk0:0≤k) (hout: ¬(1≤k∧a+k≤N)):
    Calls prog 60 #[.pointer (some ⟨P,0,none⟩),.int .u64 a,.int .u64 k] w fun e w'=>e= .returned (.slice none 0 0)∧Below w.heap.size w w':=by
  have hb2:=((Below.refl _ w).alloc (Nat.le_refl _) (.cells #[.pointer (some ⟨P,0,none⟩)] 27)).alloc (by simp) (.cells #[.int .u64 a] 29)
  have st2:=st.below hb2
  have hX:((w.alloc (.cells #[.pointer (some ⟨P,0,none⟩)] 27)).alloc (.cells #[.int .u64 a] 29)).cell? ⟨w.heap.size,0,none⟩=some (.pointer (some ⟨P,0,none⟩)):=by simp
  have hY:((w.alloc (.cells #[.pointer (some ⟨P,0,none⟩)] 27)).alloc (.cells #[.int .u64 a] 29)).cell? ⟨w.heap.size+1,0,none⟩=some (.int .u64 a):=by simp
  have hsi:=zph P L Bs B N w.heap.size (w.heap.size+1) a g _ st2 hN h1 hX hY
  have hso:=zwN P L Bs B N w.heap.size (w.heap.size+1) a g _ st2 hN h1 hX hY
  go_enter func60,ntmps60
  generalize hw2:(w.alloc (.cells #[.pointer (some ⟨P,0,none⟩)] 27)).alloc (.cells #[.int .u64 a] 29)=w2 at*
  obtain ⟨lc,c0⟩:=st2.p0
  have c1:=st2.p1
  have c2:=st2.l0
  have c3:=st2.l1
  have c4:=st2.b0
  by_cases hk1:1≤k
  · by_cases ha:a≤N-1
    · have hsi:=hsi ha
      have hwa:IntKind.wrap .u64 ((N:Int)-a)=N-a:=wrap_u64 _ (by omega) (by omega)
      have hkn: ¬k≤N-a:=by omega
      go_wp2_with (first
        | (go_at_call 85;refine hsi.mono ?_;rintro e w' ⟨rfl,q,rfl⟩)
        | go_in)
      go_quiet (fail)
      go_wp2
      go_quiet (fail)
      go_wp2
      go_ret
      exact ⟨rfl,below_drewN hb2 _⟩
    · have hso:=hso ha
      go_wp2_with (first
        | (go_at_call 85;refine hso.mono ?_;rintro e w' ⟨rfl,q,rfl⟩)
        | go_in)
      go_quiet (fail)
      go_wp2
      go_ret
      exact ⟨rfl,below_drewN (below_drewN hb2 _) _⟩
  · go_wp2
    go_ret
    exact ⟨rfl,hb2⟩
theorem Tryz.zgh (a:Option Addr) (n c:Nat) (w:World):(binOp .eql 55 (.slice a n c) (.slice none 0 0)).run prog w= .ok (.bool a.isNone) w:=by
 simp only [binOp]
 simp [run_equal_slice_nil w 55 5 _ _ _ underlying55]
set_option maxRecDepth 100000 in
theorem Tryz.zfg (P L Bs B N:Nat) (g:Nat→Int) (w:World) (st:GM w P L Bs B N g):
  Calls prog 59 #[.pointer (some ⟨P,0,none⟩)] w fun e w'=>e= .returned (.bool true)∧w'=w:=by
 have c1:=st.p1
 go_enter func59,ntmps59
 go_wp2
 go_ret
 exact ⟨rfl,rfl⟩
theorem Tryz.zmG (k:Nat) (hk:k=1∨k=2∨k=4∨k=8) (w:World):Calls prog 68 #[.int .i64 k] w fun e w'=>e= .returned (.bool true)∧w'=w:=by
 go_enter func68,ntmps68
 rcases hk with rfl|rfl|rfl|rfl<;>(go_wp2;go_ret;exact ⟨rfl,rfl⟩)
def Tryz.zah (g:Nat→Int) (a:Nat):Nat→Int
 | 0=>0
 | k+1=>zah g a k+g (a+k)*256^k
theorem Tryz.zbt (g:Nat→Int) (hg: ∀j,0≤g j∧g j<256) (a:Nat): ∀k,0≤zah g a k∧zah g a k<256^k
 | 0=>by simp [zah]
 | k+1=>by
  have h:=zbt g hg a k
  have h2:=hg (a+k)
  have h3:(0:Int)<256^k:=Int.pow_pos (by omega)
  have h4:0≤g (a+k)*256^k:=Int.mul_nonneg h2.1 (by omega)
  have h5:g (a+k)*256^k≤255*256^k:=Int.mul_le_mul_of_nonneg_right (by omega) (by omega)
  simp only [zah,Int.pow_succ]
  omega
theorem Tryz.zJL (x y s:Nat) (hx:x<2^s) (hy:y*2^s<2^64) (hs:s≤64):bits .or .u64 (x:Int) ((y*2^s:Nat):Int)=((x+y*2^s:Nat):Int):=by
 have hx':x<2^64:=Nat.lt_of_lt_of_le hx (Nat.pow_le_pow_right (by omega) hs)
 have e:x|||y*2^s=x+y*2^s:=by
  rw [Nat.mul_comm y,Nat.or_comm,←Nat.two_pow_add_eq_or_of_lt hx,Nat.add_comm]
 have hlt:x+y*2^s<2^64:=by rw [←e];exact Nat.or_lt_two_pow hx' hy
 unfold bits
 simp only [BitVec.toNat_or]
 have ex:(BitVec.ofInt IntKind.u64.bits (x:Int)).toNat=x:=by
  rw [BitVec.ofInt_natCast,BitVec.toNat_ofNat]
  exact Nat.mod_eq_of_lt hx'
 have ey:(BitVec.ofInt IntKind.u64.bits ((y*2^s:Nat):Int)).toNat=y*2^s:=by
  rw [BitVec.ofInt_natCast,BitVec.toNat_ofNat]
  exact Nat.mod_eq_of_lt hy
 rw [ex,ey,e]
 exact wrap_u64 _ (by omega) (by omega)
theorem Tryz.pow8 (i:Nat):(256:Int)^i=((2^(8*i):Nat):Int):=by
 rw [Nat.pow_mul,Int.natCast_pow]
 rfl
theorem Tryz.zHR (g:Nat→Int) (hg: ∀j,0≤g j∧g j<256) (a i:Nat) (hi:i<8):bits .or .u64 (zah g a i) (IntKind.wrap .u64 (IntKind.wrap .u64 (g (a+i))*2^(8*i)))=zah g a (i+1):=by
 have hb:=zbt g hg a i
 have h2:=hg (a+i)
 obtain ⟨m,hm⟩:=Int.eq_ofNat_of_zero_le hb.1
 obtain ⟨c,hc⟩:=Int.eq_ofNat_of_zero_le h2.1
 have hlt:c*2^(8*i)<2^64:=by
  have h1:c*2^(8*i)<2^8*2^(8*i):=Nat.mul_lt_mul_of_pos_right (by omega) (Nat.pow_pos (by omega))
  rw [←Nat.pow_add] at h1
  exact Nat.lt_of_lt_of_le h1 (Nat.pow_le_pow_right (by omega) (by omega))
 have hml:m<2^(8*i):=by
  have:=hb.2
  rw [hm,pow8] at this
  exact Int.ofNat_lt.1 this
 simp only [zah]
 rw [hm,hc,pow8]
 have e1:IntKind.wrap .u64 (c:Int)=c:=wrap_u64 _ (by omega) (by omega)
 have e2:((c:Int)*2^(8*i))=((c*2^(8*i):Nat):Int):=by push_cast;rfl
 rw [e1,e2,wrap_u64 _ (by omega) (by omega),zJL m c (8*i) hml hlt (by omega)]
 push_cast
 rfl
set_option maxRecDepth 100000 in
theorem Tryz.zH3 (P L Bs B N a k:Nat) (g:Nat→Int) (w:World) (st:GM w P L Bs B N g) (hN:N≤1048576) (hk:k=1∨k=2∨k=4∨k=8) (hin:a+k≤N):
    Calls prog 53 #[.pointer (some ⟨P,0,none⟩),.int .u64 a,.int .i64 k] w fun e w'=>e= .returned (.tuple #[.int .u64 (zah g a k),.int .i64 0])∧Below w.heap.size w w':=by
  have hq:=zgh
  have hm:=zfg P L Bs B N g w st
  have hby:=zgU P L Bs B N a k g w st hN (by omega) hin
  have hwk:IntKind.wrap .u64 (k:Int)=k:=wrap_u64 _ (by omega) (by omega)
  have hiw:=zmG k hk w
  go_enter func53,ntmps53
  go_wp2_with (first
    | (go_at_call 59;refine hm.mono ?_;rintro e w' ⟨rfl,hw⟩;have hw:=hw.symm;subst hw)
    | (go_at_call 68;refine hiw.mono ?_;rintro e w' ⟨rfl,hw⟩;have hw:=hw.symm;subst hw)
    | (go_at_call 60;refine hby.mono ?_;rintro e w1 ⟨rfl,hb1⟩)
    | go_in)
  go_loopw [9,25] (fun v c wr=> ∃i:Nat,i≤k∧c= .int .i64 i∧v= .int .u64 (zah g a i)∧wr=w1) (fun _ c _=>k-(RowKit.intOf c).toNat)
  case atStart=>exact ⟨0,Nat.zero_le _,rfl,rfl,rfl⟩
  case round=>
    obtain ⟨i,hi,rfl,rfl,rfl⟩:=hrel
    by_cases hik:i<k
    · have hc:=(st.below hb1).full (a+i) (by omega)
      have ho:=zHR g st.byte a i (by omega)
      go_wp2
      exact ⟨⟨i+1,by omega,by push_cast;rfl,rfl,trivial⟩,by simp only [RowKit.intOf];omega⟩
    · have hik':i=k:=by omega
      subst hik'
      go_wp2
      go_ret2
      exact ⟨rfl,hb1⟩
structure Tryz.Mv (S:Nat→Prop) (w w':World):Prop where
 os:w'.os=w.os
 tape:w'.tape=w.tape
 output:w'.output=w.output
 size:w.heap.size≤w'.heap.size
 block: ∀k,k<w.heap.size→ ¬S k→w'.heap[k]? =w.heap[k]?
theorem Tryz.Mv.refl (S:Nat→Prop) (w:World):Mv S w w:=⟨rfl,rfl,rfl,Nat.le_refl _,fun _ _ _=>rfl⟩
theorem Tryz.Mv.of_below {S:Nat→Prop} {w w':World} (h:Below w.heap.size w w'):Mv S w w':=⟨h.os,h.tape,h.output,h.size,fun k hk _=>h.block k hk⟩
theorem Tryz.Mv.setCell {S:Nat→Prop} {a w:World} (h:Mv S a w) (b o:Nat) (v:Value) (hb:S b∨a.heap.size≤b):Mv S a (w.setCell ⟨b,o,none⟩ v):=
 ⟨h.os,h.tape,h.output,Nat.le_trans h.size (by simp),fun k hk h1=>(Below.heap_setCell w _ _ k (fun e=>by
  have e':k=b:=e
  rcases hb with h2|h2
  ·exact h1 (e'▸h2)
  ·omega)).trans (h.block k hk h1)⟩
theorem Tryz.Mv.grown {S:Nat→Prop} {a w w':World} {r:Nat} (h:Mv S a w) (hg:w.grownBy w' (some r)) (hr:S r∨a.heap.size≤r):Mv S a w':=
  ⟨hg.os.trans h.os,hg.tape.trans h.tape,hg.output.trans h.output,Nat.le_trans h.size hg.size,fun k hk h1=>
    (hg.block k (Nat.lt_of_lt_of_le hk h.size) (fun e=>by
      have e':=Option.some.inj e
      rcases hr with h2|h2
      · exact h1 (e'▸h2)
      · omega)).trans (h.block k hk h1)⟩
theorem Tryz.Mv.below {S:Nat→Prop} {base:Nat} {w w':World} (h:Mv S w w') (hS: ∀k,S k→base≤k) (hw:base≤w.heap.size):Below base w w':=
 ⟨h.os,h.tape,h.output,h.size,fun k hk=>h.block k (by omega) (fun h1=>by have:=hS k h1;omega)⟩
theorem Tryz.GM.congr {w:World} {P L Bs B N:Nat} {g g':Nat→Int} (h:GM w P L Bs B N g) (hf: ∀j,g' j=g j):GM w P L Bs B N g':=by
 have:g'=g:=funext hf
 rw [this];exact h
theorem Tryz.GM.setB {w:World} {P L Bs B N:Nat} {g:Nat→Int} (h:GM w P L Bs B N g) (j:Nat) (hj:j<N) (x:Int) (hx0:0≤x) (hx1:x<256):GM (w.setCell ⟨B,j,none⟩ (.int .u8 x)) P L Bs B N (fun q=>if q=j then x else g q):=by
 have hk: ∀k,k≠B→(w.setCell ⟨B,j,none⟩ (.int .u8 x)).heap[k]? =w.heap[k]? :=fun k hk=>Below.heap_setCell w _ _ k hk
 have eP:=hk P h.pb
 have eL:=hk L h.lb
 have eS:=hk Bs h.sb
 refine ⟨?_,?_,?_,?_,?_,fun q hq=> ?_,fun q hq=> ?_,fun q=> ?_,h.pb,h.lb,h.sb,Nat.lt_of_lt_of_le h.bl (by simp)⟩
 ·obtain ⟨c,h0⟩:=h.p0
  exact ⟨c,by rw [World.cell?_of_block (a:=⟨P,0,none⟩) eP];exact h0⟩
 ·rw [World.cell?_of_block (a:=⟨P,1,none⟩) eP];exact h.p1
 ·rw [World.cell?_of_block (a:=⟨L,0,none⟩) eL];exact h.l0
 ·rw [World.cell?_of_block (a:=⟨L,1,none⟩) eL];exact h.l1
 ·rw [World.cell?_of_block (a:=⟨Bs,0,none⟩) eS];exact h.b0
 ·by_cases hqj:q=j
  ·subst hqj
   rw [if_pos rfl]
   exact World.cell?_setCell_same' _ _ _ (by rw [h.full q hq];rfl)
  ·rw [if_neg hqj,World.cell?_setCell_other w ⟨B,j,none⟩ ⟨B,q,none⟩ _ (fun e=>hqj (congrArg Addr.off e).symm)]
   exact h.full q hq
 ·rw [World.frozen?_setCell];exact h.free q hq
 ·by_cases hqj:q=j
  ·rw [if_pos hqj];exact ⟨hx0,hx1⟩
  ·rw [if_neg hqj];exact h.byte q
def Tryz.putW (g:Nat→Int) (a k:Nat) (v:Int) (j:Nat):Int:=if a≤j∧j<a+k then v/2^(8*(j-a))%256 else g j
theorem Tryz.zDs (g:Nat→Int) (a:Nat) (v:Int) (j:Nat):putW g a 0 v j=g j:=by
 unfold putW
 rw [if_neg (by omega)]
theorem Tryz.zDr (g:Nat→Int) (a i:Nat) (v:Int) (j:Nat):putW g a (i+1) v j=if j=a+i then v/2^(8*i)%256 else putW g a i v j:=by
 unfold putW
 by_cases hj:j=a+i
 ·subst hj
  rw [if_pos (by omega),if_pos rfl,show a+i-a=i by omega]
 ·rw [if_neg hj]
  by_cases h2:a≤j∧j<a+i
  ·rw [if_pos (by omega),if_pos h2]
  ·rw [if_neg (by omega),if_neg h2]
theorem Tryz.wrap_u8 (x:Int):IntKind.wrap .u8 x=x%256:=by unfold IntKind.wrap;simp [IntKind.signed,IntKind.bits]
set_option maxRecDepth 100000 in
theorem Tryz.zCO (P L Bs B N a k:Nat) (v:Int) (g:Nat→Int) (w:World) (st:GM w P L Bs B N g) (hN:N≤1048576) (hk:k=1∨k=2∨k=4∨k=8) (hin:a+k≤N):
    Calls prog 25 #[.pointer (some ⟨P,0,none⟩),.int .u64 a,.int .i64 k,.int .u64 v] w fun e w'=>e= .returned (.int .i64 0)∧GM w' P L Bs B N (putW g a k v)∧Mv (· =B) w w':=by
  have hq:=zgh
  have hm:=zfg P L Bs B N g w st
  have hby:=zgU P L Bs B N a k g w st hN (by omega) hin
  have hwk:IntKind.wrap .u64 (k:Int)=k:=wrap_u64 _ (by omega) (by omega)
  have hiw:=zmG k hk w
  go_enter func25,ntmps25
  go_wp2_with (first
    | (go_at_call 59;refine hm.mono ?_;rintro e w' ⟨rfl,hw⟩;have hw:=hw.symm;subst hw)
    | (go_at_call 68;refine hiw.mono ?_;rintro e w' ⟨rfl,hw⟩;have hw:=hw.symm;subst hw)
    | (go_at_call 60;refine hby.mono ?_;rintro e w1 ⟨rfl,hb1⟩)
    | go_in)
  go_loopw [25] (fun c wr=> ∃i:Nat,i≤k∧c= .int .i64 i∧GM wr P L Bs B N (putW g a i v)∧Mv (· =B) w wr) (fun c _=>k-(RowKit.intOf c).toNat)
  case atStart=>exact ⟨0,Nat.zero_le _,rfl,(st.below hb1).congr (fun j=>zDs g a v j),Mv.of_below hb1⟩
  case round=>
    obtain ⟨i,hi,rfl,st',mv⟩:=hrel
    by_cases hik:i<k
    · have hc:=st'.full (a+i) (by omega)
      have hf:=st'.free (a+i) (by omega)
      have hw8:=wrap_u8 (v/2^(8*i))
      go_wp2
      exact ⟨⟨i+1,by omega,by push_cast;rfl,(st'.setB (a+i) (by omega) _ (Int.emod_nonneg _ (by omega)) (Int.emod_lt_of_pos _ (by omega))).congr (fun j=>zDr g a i v j),mv.setCell _ _ _ (Or.inl rfl)⟩,by simp only [RowKit.intOf];omega⟩
    · have hik':i=k:=by omega
      subst hik'
      go_wp2
      go_ret
      exact ⟨rfl,st',mv⟩
theorem Tryz.zJX:(prog.info? 5).map (fun i=>(i.zero,i.size,i.bytes))=some (some (.int .u8 0),1,1):=by kernel_rfl
theorem Tryz.zaV {w w':World} {b o:Nat} {cs:List Value} (h:w.rangeAt b o cs) (e:w'.heap[b]? =w.heap[b]?):w'.rangeAt b o cs:=fun j v hv=>by
 rw [World.cell?_of_block (a:=⟨b,o+j,none⟩) e];exact h j v hv
set_option maxRecDepth 100000 in
theorem Tryz.zty (B a n c:Nat) (us:List Value) (w:World) (hr:w.rangeAt B a us) (hl:us.length=n) (h1: ∀v∈us,v.oneCell'=true) (hn:n≤1048576) (hB:B<w.heap.size):
    Calls prog 61 #[.slice (some ⟨B,a,none⟩) n c] w fun e w'=> ∃v,e= .returned v∧w'.ownsRow w.heap.size 5 1 v n us∧Below w.heap.size w w':=by
  have hq:=zgh
  obtain ⟨i0,hi0,hz0,hz1,hzb⟩:=info_parts zJX
  have hmade:=World.ownsRow_made (base:=w.heap.size) (e:=5) (size:=1) w #[] 0 (Nat.le_refl _) (by unfold maxLen;omega) rfl
  have hr':=zaV (w':=w.alloc (.cells #[] 5)) hr (Below.heap_alloc w _ B hB)
  have hb0:=(Below.refl w.heap.size w).alloc (Nat.le_refl _) (.cells #[] 5)
  go_enter func61,ntmps61
  go_wp2_with (first
    | (at_builtin;go_loud (refine wpList_append_own _ rfl _ _ 55 rfl w.heap.size 5 i0 (.int .u8 0) 1 1 underlying55 hi0 hz0 hz1 hzb rfl (by decide) _ _ _ rfl hmade ⟨B,a,none⟩ n c us rfl (by rw [hl];simp) (fun j v hv=>by rw [Addr.add_mid];exact hr' j v hv) h1 (by unfold maxLen;omega) (by omega) (by simp) ?_);intro v' w3 hown' hg3 hnil3;go_frame)
    | go_in)
  go_ret
  have hown2:w3.ownsRow w.heap.size 5 1 v' n us:=by simpa using hown'
  refine ⟨_,rfl,hown2,hb0.grown hg3 (by simp) (fun j hj=> ?_)⟩
  exact (hmade.lt j hj).1
def Tryz.row (g:Nat→Int) (a n:Nat):List Value:=(List.range n).map fun j=> .int .u8 (g (a+j))
theorem Tryz.zly (g:Nat→Int) (a n:Nat):(row g a n).length=n:=by simp [row]
theorem Tryz.row_one (g:Nat→Int) (a n:Nat): ∀v∈row g a n,v.oneCell'=true:=fun v hv=>by
 obtain ⟨j,_,rfl⟩:=List.mem_map.1 hv
 rfl
theorem Tryz.GM.range {w:World} {P L Bs B N:Nat} {g:Nat→Int} (h:GM w P L Bs B N g) (a n:Nat) (hn:a+n≤N):w.rangeAt B a (row g a n):=by
 intro j v hv
 simp only [row,List.getElem?_map,Option.map_eq_some_iff] at hv
 obtain ⟨k,hk,rfl⟩:=hv
 rw [List.getElem?_eq_some_iff] at hk
 obtain ⟨h1,h2⟩:=hk
 simp at h1 h2
 subst h2
 exact h.full (a+j) (by omega)
set_option maxRecDepth 100000 in
theorem Tryz.zzv (P L Bs B N a n:Nat) (g:Nat→Int) (w:World) (st:GM w P L Bs B N g) (hN:N≤1048576) (hn:1≤n) (hin:a+n≤N):
    Calls prog 17 #[.pointer (some ⟨P,0,none⟩),.int .u64 a,.int .i64 n] w fun e w'=> ∃v,e= .returned (.tuple #[v,.int .i64 0])∧w'.ownsRow w.heap.size 5 1 v n (row g a n)∧Below w.heap.size w w':=by
  have hq:=zgh
  have hm:=zfg P L Bs B N g w st
  have hby:=zgU P L Bs B N a n g w st hN (by omega) hin
  have hcl:=fun w1 (h:Below w.heap.size w w1)=>zty B a n (N-a) (row g a n) w1 ((st.below h).range a n hin) (zly g a n) (row_one g a n) (by omega) (st.below h).bl
  have hwk:IntKind.wrap .u64 (n:Int)=n:=wrap_u64 _ (by omega) (by omega)
  go_enter func17,ntmps17
  go_wp2_with (first
    | (go_at_call 59;refine hm.mono ?_;rintro e w' ⟨rfl,hw⟩;have hw:=hw.symm;subst hw)
    | (go_at_call 60;refine hby.mono ?_;rintro e w1 ⟨rfl,hb1⟩)
    | (go_at_call 61;refine (hcl _ hb1).mono ?_;rintro e w2 ⟨v2,rfl,hrow2,hb2⟩)
    | go_in)
  go_ret2
  refine ⟨_,rfl,⟨hrow2.1,?_⟩,hb1.trans (hb2.mono hb1.size)⟩
  rcases hrow2.2 with h|⟨g0,cap,cur,h0,h2,h3⟩
  · exact Or.inl h
  · exact Or.inr ⟨g0,cap,cur,h0,Nat.le_trans hb1.size h2,h3⟩
set_option maxRecDepth 100000 in
theorem Tryz.zpl (P L Bs B N:Nat) (a:Int) (g:Nat→Int) (w:World) (st:GM w P L Bs B N g):
    Calls prog 17 #[.pointer (some ⟨P,0,none⟩),.int .u64 a,.int .i64 0] w fun e w'=>e= .returned (.tuple #[.slice none 0 0,.int .i64 0])∧w'=w:=by
  have hm:=zfg P L Bs B N g w st
  go_enter func17,ntmps17
  go_wp2_with (first
    | (go_at_call 59;refine hm.mono ?_;rintro e w' ⟨rfl,hw⟩;have hw:=hw.symm;subst hw)
    | go_in)
  go_ret2
  exact ⟨rfl,rfl⟩
set_option maxRecDepth 100000 in
theorem Tryz.zBC (P L Bs B N:Nat) (a n:Int) (g:Nat→Int) (w:World) (st:GM w P L Bs B N g) (hN:N≤1048576) (h1:1≤N) (ha0:0≤a) (ha1:a<18446744073709551616) (hn:0≤n):
    Calls prog 179 #[.pointer (some ⟨P,0,none⟩),.int .u64 a,.int .u64 n] w fun e w'=>e= .returned (.bool (decide (1≤n∧a+n≤N)))∧Below w.heap.size w w':=by
  have hm:=zfg P L Bs B N g w st
  by_cases hin:1≤n∧a+n≤N
  · rw [decide_eq_true hin]
    obtain ⟨a',rfl⟩:=Int.eq_ofNat_of_zero_le ha0
    obtain ⟨n',rfl⟩:=Int.eq_ofNat_of_zero_le hn
    have hby:=zgU P L Bs B N a' n' g w st hN (by omega) (by omega)
    go_enter func179,ntmps179
    go_wp2_with (first
      | (go_at_call 59;refine hm.mono ?_;rintro e w' ⟨rfl,hw⟩;have hw:=hw.symm;subst hw)
      | (go_at_call 60;refine hby.mono ?_;rintro e w1 ⟨rfl,hb1⟩)
      | go_in)
    go_ret
    exact ⟨rfl,hb1⟩
  · rw [decide_eq_false hin]
    have hby:=zCa P L Bs B N a n g w st hN h1 ha0 ha1 hn hin
    go_enter func179,ntmps179
    go_wp2_with (first
      | (go_at_call 59;refine hm.mono ?_;rintro e w' ⟨rfl,hw⟩;have hw:=hw.symm;subst hw)
      | (go_at_call 60;refine hby.mono ?_;rintro e w1 ⟨rfl,hb1⟩)
      | go_in)
    go_ret
    exact ⟨rfl,hb1⟩
def Tryz.putL (g:Nat→Int) (a:Nat):List Int→Nat→Int
 | [] => g
 | x::r=>putL (fun q=>if q=a then x else g q) (a+1) r
theorem Tryz.znl: ∀(xs:List Int) (g:Nat→Int) (a j:Nat),putL g a xs j=if a≤j∧j<a+xs.length then xs.getD (j-a) 0 else g j
 | [], g,a,j=>by
  rw [if_neg (by simp)]
  rfl
 | x::r,g,a,j=>by
  rw [putL,znl r]
  by_cases h:a+1≤j∧j<a+1+r.length
  ·rw [if_pos h,if_pos (by simp;omega),show j-a=(j-(a+1))+1 by omega,List.getD_cons_succ]
  ·rw [if_neg h]
   by_cases h2:j=a
   ·subst h2
    rw [if_pos rfl,if_pos (by simp),Nat.sub_self,List.getD_cons_zero]
   ·rw [if_neg h2,if_neg (by simp;omega)]
theorem Tryz.GM.setL {P L Bs B N:Nat}: ∀(xs:List Int) (a:Nat) (g:Nat→Int) (w:World),GM w P L Bs B N g→a+xs.length≤N→(∀x∈xs,0≤x∧x<256)→GM (w.setCells B a (xs.map (Value.int .u8))) P L Bs B N (putL g a xs)
 | [], _,_,_,h,_,_=>h
 | x::r,a,g,w,h,hl,hb=>by
  rw [List.map_cons,World.setCells,putL]
  rw [List.length_cons] at hl
  have hx:=hb x (by simp)
  exact GM.setL r (a+1) _ _ (h.setB a (by omega) x hx.1 hx.2) (by omega) (fun y hy=>hb y (by simp [hy]))
theorem Tryz.zfu (b:Nat): ∀(vs:List Value) (o:Nat) (w:World),w.grownBy (w.setCells b o vs) (some b)
 | [], _,w=>⟨rfl,rfl,rfl,Nat.le_refl _,fun _ _ _=>rfl⟩
 | v::r,o,w=>by
  rw [World.setCells]
  have h2:=zfu b r (o+1) (w.setCell ⟨b,o,none⟩ v)
  exact ⟨h2.os,h2.tape,h2.output,Nat.le_trans (by simp) h2.size,fun k hk hne=>(h2.block k (by simpa using hk) hne).trans (Below.heap_setCell w _ _ k (fun e=>hne (by rw [e])))⟩
set_option maxRecDepth 100000 in
theorem Tryz.ztL (P L Bs B N a R o c:Nat) (xs:List Int) (g:Nat→Int) (w:World) (st:GM w P L Bs B N g) (hN:N≤1048576) (hn:1≤xs.length) (hin:a+xs.length≤N) (hb: ∀x∈xs,0≤x∧x<256)
    (hr:w.rangeAt R o (xs.map (Value.int .u8))) (hR:R<w.heap.size):
    Calls prog 39 #[.pointer (some ⟨P,0,none⟩),.int .u64 a,.slice (some ⟨R,o,none⟩) xs.length c] w fun e w'=>e= .returned (.int .i64 0)∧GM w' P L Bs B N (putL g a xs)∧Mv (· =B) w w':=by
  have hq:=zgh
  have hm:=zfg P L Bs B N g w st
  have hby:=zgU P L Bs B N a xs.length g w st hN (by omega) hin
  have hwk:IntKind.wrap .u64 (xs.length:Int)=xs.length:=wrap_u64 _ (by omega) (by omega)
  have hcp:=fun w1 (h:Below w.heap.size w w1)=>run_copy_cells (P:=prog) w1 55 55 3 5 B a xs.length (N-a) ⟨R,o,none⟩ xs.length c (xs.map (Value.int .u8)) underlying55 (by kernel_rfl) (by simp) (fun j v hv=>by rw [Addr.add_mid];exact (zaV hr (h.block R hR)) j v hv)
    (fun j hj=>by rw [(st.below h).full (a+j) (by simp at hj;omega)];rfl) (fun j hj=>(st.below h).free (a+j) (by simp at hj;omega)) (fun v hv=>by obtain ⟨x,_,rfl⟩:=List.mem_map.1 hv;rfl)
  rw [List.length_map] at hcp
  go_enter func39,ntmps39
  go_wp2_with (first
    | (go_at_call 59;refine hm.mono ?_;rintro e w' ⟨rfl,hw⟩;have hw:=hw.symm;subst hw)
    | (go_at_call 60;refine hby.mono ?_;rintro e w1 ⟨rfl,hb1⟩;have hcp1:=hcp _ hb1)
    | go_in)
  go_ret
  exact ⟨rfl,(st.below hb1).setL xs a g _ hin hb,(Mv.of_below hb1).grown (zfu B _ _ _) (Or.inl rfl)⟩
set_option maxRecDepth 100000 in
theorem Tryz.zB7 (R N c:Nat) (w:World) (c0:w.cell? ⟨R,0,none⟩=some (.int .u64 0)) (c1:w.cell? ⟨R,1,none⟩=some (.int .u64 N)) (h1:1≤N) (hN:N≤1048576):
  Calls prog 72 #[.slice (some ⟨R,0,none⟩) 1 c] w fun e w'=>e= .returned (.int .i64 0)∧Below w.heap.size w w':=by
 have hR:=World.block_lt_of_cell? w _ c0
 have e1:IntKind.wrap .u64 ((N:Int)-1)=N-1:=wrap_u64 _ (by omega) (by omega)
 have e2:IntKind.wrap .u64 (1048576-(N:Int))=1048576-N:=wrap_u64 _ (by omega) (by omega)
 go_enter func72,ntmps72
 go_wp2
 go_loopw [3,12] (fun r i w2=>(i= .int .i64 0∧r= .int .u64 1048576∧w2=w)∨(i= .int .i64 1∧Below w.heap.size w w2)) (fun _ i _=>1-(RowKit.intOf i).toNat)
 case atStart=>exact Or.inl ⟨rfl,rfl,rfl⟩
 case round=>
  rcases hrel with ⟨rfl,rfl,hw⟩|⟨rfl,hb⟩
  ·have hw:=hw.symm
   subst hw
   go_wp2
   exact ⟨Or.inr ⟨rfl,(Below.refl _ w).alloc (Nat.le_refl _) _⟩,by simp [RowKit.intOf]⟩
  ·go_wp2
   go_ret
   exact ⟨rfl,hb⟩
theorem Tryz.zH8:(prog.info? 86).map (fun i=>(i.zero,i.size,i.bytes))=some (some (.agg #[.int .u64 0,.int .u64 0]),2,16):=by kernel_rfl
theorem Tryz.zH7:(prog.info? 55).map (fun i=>(i.zero,i.size,i.bytes))=some (some (.slice none 0 0),1,24):=by kernel_rfl
theorem Tryz.zDg (a:Option Addr) (n c:Nat) (w:World):(binOp .eql 87 (.slice a n c) (.slice none 0 0)).run prog w= .ok (.bool a.isNone) w:=by
 simp only [binOp]
 simp [run_equal_slice_nil w 87 86 _ _ _ underlying87]
theorem Tryz.zmM (w:World) (cs:Array Value) (t:TypeId) (o:Nat):(w.alloc (.cells cs t)).frozen? ⟨w.heap.size,o,none⟩=false:=by
 have e:=heap_alloc_last w (.cells cs t)
 simp only [World.frozen?,e]
 simp
set_option maxRecDepth 100000 in
theorem Tryz.zmU (R N c:Nat) (w:World) (c0:w.cell? ⟨R,0,none⟩=some (.int .u64 0)) (c1:w.cell? ⟨R,1,none⟩=some (.int .u64 N)):
    Calls prog 73 #[.slice (some ⟨R,0,none⟩) 1 c] w fun e w'=> ∃L cap,e= .returned (.slice (some ⟨L,0,none⟩) 1 cap)∧w.heap.size≤L∧w'.cell? ⟨L,0,none⟩=some (.int .u64 0)∧w'.cell? ⟨L,1,none⟩=some (.int .u64 N)∧Below w.heap.size w w':=by
  have hq:=zDg
  have hR:=World.block_lt_of_cell? w _ c0
  obtain ⟨i0,hi0,hz0,hz1,hzb⟩:=info_parts zH8
  have hmade:=World.ownsRow_made (base:=w.heap.size) (e:=86) (size:=2) w #[] 0 (Nat.le_refl _) (by unfold maxLen;omega) rfl
  have hb0:=(Below.refl w.heap.size w).alloc (Nat.le_refl _) (.cells #[] 86)
  have hr:(w.alloc (.cells #[] 86)).rangeAt R 0 [.int .u64 0,.int .u64 N]:=by
    refine zaV (w:=w) ?_ (Below.heap_alloc w _ R hR)
    intro j v hv
    match j with
    | 0=>cases hv;exact c0
    | 1=>cases hv;exact c1
    | j+2=>cases hv
  go_enter func73,ntmps73
  go_wp2_with (first
    | (at_builtin;go_loud (refine wpList_append_own _ rfl _ _ 87 rfl w.heap.size 86 i0 (.agg #[.int .u64 0,.int .u64 0]) 2 16 underlying87 hi0 hz0 hz1 hzb rfl (by decide) _ _ _ rfl hmade ⟨R,0,none⟩ 1 c [.int .u64 0,.int .u64 N] rfl rfl (fun j v hv=>by rw [Addr.add_mid];exact hr j v hv) (by simp [Value.oneCell']) (by unfold maxLen;omega) (by omega) (by simp) ?_);intro v' w3 hown' hg3 hnil3;go_frame)
    | go_in)
  go_ret
  rcases hown'.2 with ⟨_,h⟩|⟨L,cap,cur,rfl,hL,hblk,h1,h2,h3,h4⟩
  · omega
  · have e0:cur[0]? =some (.int .u64 0):=by
      have:=congrArg (fun l:List Value=>l[0]?) h4
      simpa using this
    have e1:cur[1]? =some (.int .u64 N):=by
      have:=congrArg (fun l:List Value=>l[1]?) h4
      simpa using this
    refine ⟨L,⟨cap,rfl⟩,hL,?_,?_,hb0.grown hg3 (by simp) (fun j hj=>(hmade.lt j hj).1)⟩
    · rw [cell_of_row _ L 0 cur _ (0,0) hblk];exact e0
    · rw [cell_of_row _ L 1 cur _ (0,0) hblk];exact e1
set_option maxRecDepth 100000 in
theorem Tryz.zHY (R N c:Nat) (w:World) (c0:w.cell? ⟨R,0,none⟩=some (.int .u64 0)) (c1:w.cell? ⟨R,1,none⟩=some (.int .u64 N)) (h1:1≤N) (hN:N≤1048576):
    Calls prog 30 #[.slice (some ⟨R,0,none⟩) 1 c] w fun e w'=> ∃P L Bs B,e= .returned (.tuple #[.pointer (some ⟨P,0,none⟩),.int .i64 0])∧GM w' P L Bs B N (fun _=>0)∧Below w.heap.size w w'∧w.heap.size≤P∧w.heap.size≤L∧w.heap.size≤Bs∧w.heap.size≤B:=by
  obtain ⟨i0,hi0,hz0,hz1,hzb⟩:=info_parts zH7
  obtain ⟨i1,hi1,hy0,hy1,hyb⟩:=info_parts zJX
  have hch:=zB7 R N c w c0 c1 h1 hN
  have hcl:=fun w1 (h:Below w.heap.size w w1)=>zmU R N c w1 ((h.cell (World.block_lt_of_cell? w _ c0)).trans c0) ((h.cell (World.block_lt_of_cell? w _ c1)).trans c1)
  have hmk:=fun w=>run_makeSlice (P:=prog) w 135 55 i0 (.slice none 0 0) underlying135 hi0 hz0 .i64 .i64 1 2 (by omega) (by omega) (by rw [hz1];decide) (by rw [hzb];decide) (by decide)
  have hmc:madeCells (Value.slice none 0 0).cells (2*1)= #[.slice none 0 0,.slice none 0 0]:=by kernel_rfl
  simp only [hz1,show (Int.toNat 1)=1 from rfl,show (Int.toNat 2)=2 from rfl,hmc] at hmk
  have hw2:IntKind.wrap .i64 2=2:=by decide
  go_enter func30,ntmps30
  go_wp2_with (first
    | (go_at_call 72;refine hch.mono ?_;rintro e w1 ⟨rfl,hb1⟩)
    | go_in)
  have d0:=(hb1.cell (World.block_lt_of_cell? w _ c0)).trans c0
  have d1:=(hb1.cell (World.block_lt_of_cell? w _ c1)).trans c1
  have hR1:R<w1.heap.size:=World.block_lt_of_cell? w1 _ d0
  go_cut [5] from 13 to 22 (fun p wx=> ∃P L Bs lc,p= .pointer (some ⟨P,0,none⟩)∧wx.cell? ⟨P,0,none⟩=some (.slice (some ⟨L,0,none⟩) 1 lc)∧wx.cell? ⟨P,1,none⟩=some (.slice (some ⟨Bs,0,none⟩) 1 2)∧
    wx.cell? ⟨L,0,none⟩=some (.int .u64 0)∧wx.cell? ⟨L,1,none⟩=some (.int .u64 N)∧wx.cell? ⟨Bs,0,none⟩=some (.slice none 0 0)∧wx.frozen? ⟨Bs,0,none⟩=false∧w.heap.size≤P∧w.heap.size≤L∧w.heap.size≤Bs∧P≠Bs∧L≠Bs∧Below w.heap.size w wx)
  case first=>
    go_region_with (first
      | (go_at_call 73;refine (zmU R N c _ ?_ ?_).mono ?_;exact (by first|exact d0|exact ((World.cell?_of_block (a:=⟨R,0,none⟩) (Below.heap_alloc w1.drew _ R hR1)).trans d0));exact (by first|exact d1|exact ((World.cell?_of_block (a:=⟨R,1,none⟩) (Below.heap_alloc w1.drew _ R hR1)).trans d1));rintro e w2 ⟨L,lc,rfl,hL,hl0,hl1,hb2⟩))
    all_goals (go_wp2_with fail;go_meet)
    · have hLl:L<w2.heap.size:=World.block_lt_of_cell? _ _ hl0
      have hbx:=((Below.refl w2.heap.size w2).alloc (Nat.le_refl _) (.cells #[.slice none 0 0,.slice none 0 0] 55)).alloc (by simp) (.cells #[.slice (some ⟨L,0,none⟩) 1 lc,.slice (some ⟨w2.heap.size,0,none⟩) 1 2] 137)
      have z:=hb2.size
      have z1:=hb1.size
      have z2:w1.drew.heap.size=w1.heap.size:=rfl
      exact ⟨w2.heap.size+1,L,w2.heap.size,lc,rfl,by simp,by simp,(hbx.cell (p:=⟨L,0,none⟩) hLl).trans hl0,(hbx.cell (p:=⟨L,1,none⟩) hLl).trans hl1,by simp,((World.frozen?_of_block (a:=⟨w2.heap.size,0,none⟩) (Below.heap_alloc _ _ _ (by simp))).trans (zmM w2 _ _ 0)),by omega,by omega,by omega,by omega,by omega,
        (hb1.trans (((Below.refl _ w1).drew.trans hb2).mono hb1.size)).trans (hbx.mono (by omega))⟩
    · have hLl:L<w2.heap.size:=World.block_lt_of_cell? _ _ hl0
      have hbx:=(Below.refl w2.heap.size w2).alloc (Nat.le_refl _) (.cells #[.slice (some ⟨L,0,none⟩) 1 lc,.slice (some ⟨w1.heap.size,0,none⟩) 1 2] 137)
      have z:=hb2.size
      have z1:=hb1.size
      have z2:w1.drew.heap.size=w1.heap.size:=rfl
      have z3:(w1.alloc (.cells #[.slice none 0 0,.slice none 0 0] 55)).drew.heap.size=w1.heap.size+1:=by simp
      rw [z3] at z hL hb2
      have q0:(w1.alloc (.cells #[.slice none 0 0,.slice none 0 0] 55)).drew.cell? ⟨w1.heap.size,0,none⟩=some (.slice none 0 0):=by simp
      have q1:(w1.alloc (.cells #[.slice none 0 0,.slice none 0 0] 55)).drew.frozen? ⟨w1.heap.size,0,none⟩=false:=zmM w1 _ _ 0
      exact ⟨w2.heap.size,L,w1.heap.size,lc,rfl,by simp,by simp,(hbx.cell (p:=⟨L,0,none⟩) hLl).trans hl0,(hbx.cell (p:=⟨L,1,none⟩) hLl).trans hl1,
        (hbx.cell (p:=⟨w1.heap.size,0,none⟩) (by show w1.heap.size<_;omega)).trans ((hb2.cell (p:=⟨w1.heap.size,0,none⟩) (by show w1.heap.size<_;omega)).trans q0),
        (hbx.frozen (p:=⟨w1.heap.size,0,none⟩) (by show w1.heap.size<_;omega)).trans ((hb2.frozen (p:=⟨w1.heap.size,0,none⟩) (by show w1.heap.size<_;omega)).trans q1),by omega,by omega,by omega,by omega,by omega,
        (hb1.trans ((((Below.refl _ w1).alloc (Nat.le_refl _) _).drew).mono hb1.size)).trans ((hb2.mono (by omega)).trans (hbx.mono (by omega)))⟩
  case rest=>
    obtain ⟨P,L,Bs,lc,rfl,d0,d1,d2,d3,d4,d5,d6,d7,d8,d9,d10,hbx⟩:=hcut
    have hmk2:=fun w=>run_makeSlice (P:=prog) w 55 5 i1 (.int .u8 0) underlying55 hi1 hy0 .u64 .u64 N N (by omega) (Int.le_refl _) (by rw [hy1];omega) (by rw [hyb];omega) (by omega)
    simp only [hy1,Int.toNat_natCast] at hmk2
    have hR2:R<w.heap.size:=World.block_lt_of_cell? w _ c0
    have r0:=(hbx.cell (p:=⟨R,0,none⟩) hR2).trans c0
    have r1:=(hbx.cell (p:=⟨R,1,none⟩) hR2).trans c1
    have lP:P<wc.heap.size:=World.block_lt_of_cell? wc _ d0
    have lL:L<wc.heap.size:=World.block_lt_of_cell? wc _ d2
    have lB:Bs<wc.heap.size:=World.block_lt_of_cell? wc _ d4
    have hb3:=(Below.refl wc.heap.size wc).alloc (Nat.le_refl _) (.cells #[.int .u64 0,.int .u64 N] 86)
    have f1:=(hb3.cell (p:=⟨P,1,none⟩) lP).trans d1
    have f4:=(hb3.cell (p:=⟨Bs,0,none⟩) lB).trans d4
    have f5:=(hb3.frozen (p:=⟨Bs,0,none⟩) lB).trans d5
    go_wp2
    go_loopw [25] (fun i wr=>(i= .int .i64 0∧wr=wc)∨(i= .int .i64 1∧ ∃B,GM wr P L Bs B N (fun _=>0)∧Below w.heap.size w wr∧w.heap.size≤B)) (fun i _=>1-(RowKit.intOf i).toNat)
    case atStart=>exact Or.inl ⟨rfl,rfl⟩
    case round=>
      rcases hrel with ⟨rfl,hw⟩|⟨rfl,B,st,hb,hB⟩
      · have hw:=hw.symm
        subst hw
        go_wp2
        go_region
        go_wp2_with fail
        obtain ⟨C,hC⟩: ∃C,madeCells #[Value.int .u8 0] N=C:=⟨_,rfl⟩
        have h1C: ∀j,j<N→C[j]? =some (.int .u8 0):=by
          intro j hj
          rw [←hC]
          simp [madeCells,hj,Nat.mod_one]
        rw [hC]
        obtain ⟨w4,h4⟩: ∃w4,wc.setCell ⟨Bs,0,none⟩ (.slice (some ⟨wc.heap.size+1,0,none⟩) N N)=w4:=⟨_,rfl⟩
        have z4:w4.heap.size=wc.heap.size:=by rw [←h4];simp
        have k4: ∀(a:Addr),a.block≠Bs→w4.cell? a=wc.cell? a:=fun a ha=>by rw [←h4];exact World.cell?_setCell_other wc ⟨Bs,0,none⟩ a _ (fun e=>ha (congrArg Addr.block e).symm)
        have b4:w4.cell? ⟨Bs,0,none⟩=some (.slice (some ⟨wc.heap.size+1,0,none⟩) N N):=by rw [←h4];exact World.cell?_setCell_same' _ _ _ (by rw [d4];rfl)
        have v4:Mv (· =Bs) wc w4:=by rw [←h4];exact (Mv.refl _ wc).setCell _ _ _ (Or.inl rfl)
        rw [h4]
        clear h4
        have hb6:=((Below.refl w4.heap.size w4).alloc (Nat.le_refl _) (.cells #[.int .u64 0,.int .u64 N] 86)).alloc (by simp) (.cells C 5)
        have q6:(((w4.alloc (.cells #[.int .u64 0,.int .u64 N] 86)).alloc (.cells C 5)).drew).heap[wc.heap.size+1]? =some (.cells C 5 (0,0)):=by
          have:=heap_alloc_last (w4.alloc (.cells #[.int .u64 0,.int .u64 N] 86)) (.cells C 5)
          rw [show (w4.alloc (.cells #[.int .u64 0,.int .u64 N] 86)).heap.size=wc.heap.size+1 by simp [z4]] at this
          exact this
        have hcell: ∀(a:Addr) v,a.block≠Bs→wc.cell? a=some v→(((w4.alloc (.cells #[.int .u64 0,.int .u64 N] 86)).alloc (.cells C 5)).drew).cell? a=some v:=fun a v ha hv=>
          (hb6.cell (p:=a) (by rw [z4];exact World.block_lt_of_cell? wc _ hv)).trans ((k4 a ha).trans hv)
        refine ⟨Or.inr ⟨rfl,wc.heap.size+1,⟨⟨lc,hcell _ _ d9 d0⟩,hcell _ _ d9 d1,hcell _ _ d10 d2,hcell _ _ d10 d3,(hb6.cell (p:=⟨Bs,0,none⟩) (by rw [z4];exact lB)).trans b4,fun j hj=> ?_,fun j hj=> ?_,fun j=>⟨Int.le_refl _,by omega⟩,by omega,by omega,by omega,?_⟩,?_,?_⟩,by simp [RowKit.intOf]⟩
        · rw [cell_of_row _ _ j C _ (0,0) q6];exact h1C j hj
        · simp [World.frozen?,q6]
        · simp [z4]
        · exact hbx.trans ((v4.below (fun k hk=>by rw [hk];exact d8) (hbx.size)).trans ((hb6.mono (by rw [z4];exact hbx.size)).drew))
        · have:=hbx.size
          omega
      · go_wp2
        go_ret2
        exact ⟨P,L,Bs,B,rfl,st,hb,d6,d7,d8,hB⟩
end Go.Proofs
namespace Go.Dw
inductive T (α:Type) where
 | leaf
 | node (l:T α) (v:Option α) (r:T α)
namespace T
variable {α:Type}
noncomputable def get (t:T α):Nat→Option α:=
 T.rec (motive:=fun _=>Nat→Option α) (fun _=>none)
  (fun _ v _ il ir n=>Nat.casesOn n v (fun m=>Nat.casesOn (Nat.mod m 2) (il (Nat.div m 2)) (fun _=>ir (Nat.div m 2)))) t
noncomputable def mkL (v:Option α) (r l:T α):T α:=T.casesOn l (.node .leaf v r) (fun a b c=> .node (.node a b c) v r)
noncomputable def mkR (v:Option α) (l r:T α):T α:=T.casesOn r (.node l v .leaf) (fun a b c=> .node l v (.node a b c))
noncomputable def zGZ (ih:T α→Nat→α→T α) (n:Nat) (x:α):T α:=
 Nat.casesOn n (.node .leaf (some x) .leaf)
  (fun m=>Nat.casesOn (Nat.mod m 2) (mkL none .leaf (ih .leaf (Nat.div m 2) x)) (fun _=>mkR none .leaf (ih .leaf (Nat.div m 2) x)))
noncomputable def setNode (ih:T α→Nat→α→T α) (n:Nat) (x:α) (l:T α) (v:Option α) (r:T α):T α:=
 Nat.casesOn n (.node l (some x) r)
  (fun m=>Nat.casesOn (Nat.mod m 2) (mkL v r (ih l (Nat.div m 2) x)) (fun _=>mkR v l (ih r (Nat.div m 2) x)))
noncomputable def setF (f:Nat):T α→Nat→α→T α:=
 Nat.rec (motive:=fun _=>T α→Nat→α→T α) (fun t _ _=>t)
  (fun _ ih t n x=>T.casesOn t (zGZ ih n x) (fun l v r=>setNode ih n x l v r)) f
noncomputable def set (t:T α) (n:Nat) (x:α):T α:=setF (Nat.succ n) t n x
end T
structure Fld where
 i:Nat
 lo:Nat
 hi:Nat
 fr:Nat
 n:Nat
 sh:Nat
inductive SE where
 | lit (n:Int)
 | var (i:Nat)
 | bin (o:BinOp) (k:IntKind) (a b:SE)
 | wrap (k:IntKind) (a:SE)
 | flds (l:List Fld) (c:Nat)
inductive SB where
 | lit (b:Bool)
 | var (i:Nat)
 | cmp (o:BinOp) (a b:SE)
 | not (a:SB)
 | beq (a b:SB)
 | and (a b:SB)
structure Val where
 i:Nat→Int
 b:Nat→Bool
 v:Nat→Value
def Val.zero:Val:=⟨fun _=>0,fun _=>false,fun _=> .bool false⟩
def zdQ (o:BinOp) (k:IntKind) (x y:Int):Int:=
 let a:=BitVec.ofInt k.bits x
 let b:=BitVec.ofInt k.bits y
 match o with
 | .and=>k.wrap (a&&&b).toNat
 | .or=>k.wrap (a|||b).toNat
 | .xor=>k.wrap (a^^^b).toNat
 | _=>k.wrap (a&&& ~~~b).toNat
def zdc (o:BinOp) (k:IntKind) (x y:Int):Int:=
 match o with
 | .add=>k.wrap (x+y)
 | .sub=>k.wrap (x-y)
 | .mul=>k.wrap (x*y)
 | .quo=>k.wrap (x.tdiv y)
 | .rem=>x.tmod y
 | .shl=>k.wrap (x*2^(min y.toNat k.bits))
 | .shr=>x.fdiv (2^(min y.toNat k.bits))
 | o=>zdQ o k x y
def zen (o:BinOp) (x y:Int):Bool:=
 match o with
 | .eql=>x==y
 | .neq=>x !=y
 | .lss=>x<y
 | .leq=>x≤y
 | .gtr=>x>y
 | _=>x≥y
def Fld.den (ρ:Val) (f:Fld):Nat:=(((max f.lo (min (ρ.i f.i).toNat f.hi))>>>f.fr)%2^f.n)<<<f.sh
def zaj (ρ:Val):List Fld→Nat→Nat
 | [], c=>c
 | f::l,c=>f.den ρ|||zaj ρ l c
def SE.den (ρ:Val):SE→Int
 | .lit n=>n
 | .var i=>ρ.i i
 | .bin o k a b=>zdc o k (a.den ρ) (b.den ρ)
 | .wrap k a=>k.wrap (a.den ρ)
 | .flds l c=>Int.ofNat (zaj ρ l c)
def SB.den (ρ:Val):SB→Bool
 | .lit b=>b
 | .var i=>ρ.b i
 | .cmp o a b=>zen o (a.den ρ) (b.den ρ)
 | .not a=> !(a.den ρ)
 | .beq a b=>a.den ρ==b.den ρ
 | .and a b=>a.den ρ&&b.den ρ
def Fld.beq (f g:Fld):Bool:=
 match Nat.beq f.i g.i,Nat.beq f.lo g.lo,Nat.beq f.hi g.hi,Nat.beq f.fr g.fr,Nat.beq f.n g.n,Nat.beq f.sh g.sh with
 | true,true,true,true,true,true=>true
 | _,_,_,_,_,_=>false
def znR:List Fld→List Fld→Bool
 | [], [] => true
 | f::l,g::m=>match f.beq g with|true=>znR l m|false=>false
 | _,_=>false
def SE.beq:SE→SE→Bool
 | .lit a,.lit b=>match a,b with
  | .ofNat x,.ofNat y=>Nat.beq x y
  | .negSucc x,.negSucc y=>Nat.beq x y
  | _,_=>false
 | .var i,.var j=>Nat.beq i j
 | .bin o k a b,.bin o' k' a' b'=>if o=o' then (if k=k' then (match SE.beq a a' with|true=>SE.beq b b'|false=>false) else false) else false
 | .wrap k a,.wrap k' a'=>if k=k' then SE.beq a a' else false
 | .flds l c,.flds l' c'=>match znR l l' with|true=>Nat.beq c c'|false=>false
 | _,_=>false
def SB.eqv:SB→SB→Bool
 | .lit a,.lit b=>a==b
 | .var i,.var j=>Nat.beq i j
 | .cmp o a b,.cmp o' a' b'=>if o=o' then (match SE.beq a a' with|true=>SE.beq b b'|false=>false) else false
 | .not a,.not b=>SB.eqv a b
 | .beq a b,.beq a' b'=>match SB.eqv a a' with|true=>SB.eqv b b'|false=>false
 | .and a b,.and a' b'=>match SB.eqv a a' with|true=>SB.eqv b b'|false=>false
 | _,_=>false
def zdE:IntKind→Nat
 | .i8=>128| .i16=>32768| .i32=>2147483648| .i64=>9223372036854775808
 | .u8=>256| .u16=>65536| .u32=>4294967296| .u64=>18446744073709551616
def ziz (k:IntKind) (n:Int):Int:=
 match n with
 | .ofNat m=>match Nat.blt m (zdE k) with
  | true=> .ofNat m
  | false=>k.wrap n
 | .negSucc m=>match k.signed with
  | true=>match Nat.blt m (zdE k) with
   | true=> .negSucc m
   | false=>k.wrap n
  | false=>k.wrap n
def ltI:Int→Int→Bool
 | .ofNat a,.ofNat b=>Nat.blt a b
 | .negSucc _,.ofNat _=>true
 | .ofNat _,.negSucc _=>false
 | .negSucc a,.negSucc b=>Nat.blt b a
def eqI:Int→Int→Bool
 | .ofNat a,.ofNat b=>Nat.beq a b
 | .negSucc a,.negSucc b=>Nat.beq a b
 | _,_=>false
def cmpF (o:BinOp) (x y:Int):Bool:=
 match o with
 | .eql=>eqI x y
 | .neq=>match eqI x y with|true=>false|false=>true
 | .lss=>ltI x y
 | .leq=>match ltI y x with|true=>false|false=>true
 | .gtr=>ltI y x
 | _=>match ltI x y with|true=>false|false=>true
def bitsF.nat (o:BinOp) (a b:Nat):Int:=
 match o with
 | .and=> .ofNat (Nat.land a b)
 | .or=> .ofNat (Nat.lor a b)
 | .xor=> .ofNat (Nat.xor a b)
 | _=> .ofNat (Nat.xor a (Nat.land a b))
def bitsF (o:BinOp) (k:IntKind) (x y:Int):Int:=
 match x,y with
 | .ofNat a,.ofNat b=>
  match Nat.blt a (zdE k),Nat.blt b (zdE k) with
  | true,true=>bitsF.nat o a b
  | _,_=>zdQ o k x y
 | _,_=>zdQ o k x y
def shrF (k:IntKind) (x:Int) (y:Nat):Int:=
 match x with
 | .ofNat a=> .ofNat (Nat.div a (Nat.pow 2 (match Nat.blt y k.bits with|true=>y|false=>k.bits)))
 | .negSucc _=>x.fdiv (2^(min y k.bits))
def shlF (k:IntKind) (x:Int) (y:Nat):Int:=
 match x with
 | .ofNat a=>ziz k (.ofNat (Nat.mul a (Nat.pow 2 (match Nat.blt y k.bits with|true=>y|false=>k.bits))))
 | .negSucc _=>k.wrap (x*2^(min y k.bits))
def addI:Int→Int→Int
 | .ofNat a,.ofNat b=> .ofNat (Nat.add a b)
 | x,y=>x+y
def subI:Int→Int→Int
 | .ofNat a,.ofNat b=>match Nat.ble b a with|true=> .ofNat (Nat.sub a b)|false=> .negSucc (Nat.sub (Nat.sub b a) 1)
 | x,y=>x-y
def mulI:Int→Int→Int
 | .ofNat a,.ofNat b=> .ofNat (Nat.mul a b)
 | x,y=>x*y
def divI:Int→Int→Int
 | .ofNat a,.ofNat b=> .ofNat (Nat.div a b)
 | x,y=>x.tdiv y
def modI:Int→Int→Int
 | .ofNat a,.ofNat b=> .ofNat (Nat.mod a b)
 | x,y=>x.tmod y
def intF (o:BinOp) (k:IntKind) (x y:Int):Option Int:=
 match o with
 | .add=>some (ziz k (addI x y))
 | .sub=>some (ziz k (subI x y))
 | .mul=>some (ziz k (mulI x y))
 | .quo=>match eqI y 0 with|true=>none|false=>some (ziz k (divI x y))
 | .rem=>match eqI y 0 with|true=>none|false=>some (modI x y)
 | .shl=>match y with| .ofNat n=>some (shlF k x n)|_=>none
 | .shr=>match y with| .ofNat n=>some (shrF k x n)|_=>none
 | .and=>some (bitsF .and k x y)
 | .or=>some (bitsF .or k x y)
 | .xor=>some (bitsF .xor k x y)
 | .andNot=>some (bitsF .andNot k x y)
 | _=>none
def zet {β:Type} (n:Nat) (k:Nat→β):β:=Nat.casesOn n (k 0) (fun m=>k (Nat.succ m))
def kn:IntKind→Nat
 | .i8=>0| .i16=>1| .i32=>2| .i64=>3| .u8=>4| .u16=>5| .u32=>6| .u64=>7
def wOf:IntKind→Nat
 | .i8=>7| .i16=>15| .i32=>31| .i64=>63| .u8=>8| .u16=>16| .u32=>32| .u64=>64
def sgn:IntKind→Bool
 | .i8| .i16| .i32| .i64=>true
 | _=>false
def zdC (W:Nat):List Fld→List Fld
 | [] => []
 | f::l=>match Nat.blt f.sh W with
  | false=>zdC W l
  | true=>match Nat.ble (Nat.add f.sh f.n) W with
   | true=>f::zdC W l
   | false=>⟨f.i,f.lo,f.hi,f.fr,Nat.sub W f.sh,f.sh⟩::zdC W l
def zh6 (m:Nat):List Fld→List Fld
 | [] => []
 | f::l=>match Nat.ble m f.sh with
  | true=>⟨f.i,f.lo,f.hi,f.fr,f.n,Nat.sub f.sh m⟩::zh6 m l
  | false=>match Nat.blt m (Nat.add f.sh f.n) with
   | true=>⟨f.i,f.lo,f.hi,Nat.add f.fr (Nat.sub m f.sh),Nat.sub f.n (Nat.sub m f.sh),0⟩::zh6 m l
   | false=>zh6 m l
def zzi (m:Nat):List Fld→List Fld
 | [] => []
 | f::l=>⟨f.i,f.lo,f.hi,f.fr,f.n,Nat.add f.sh m⟩::zzi m l
def fuse (g f:Fld):Option Fld:=
 match Nat.beq g.i f.i,Nat.beq g.lo f.lo,Nat.beq g.hi f.hi,Nat.beq (Nat.add g.fr g.n) f.fr,Nat.beq (Nat.add g.sh g.n) f.sh with
 | true,true,true,true,true=>some ⟨g.i,g.lo,g.hi,g.fr,Nat.add g.n f.n,g.sh⟩
 | _,_,_,_,_=>none
def zq9:List Fld→Fld→List Fld
 | [], f=> [f]
 | g::l,f=>match fuse g f with
  | some h=>zq9 l h
  | none=>match fuse f g with
   | some h=>zq9 l h
   | none=>g::zq9 l f
def zeI (l:List Fld):List Fld→List Fld
 | [] => l
 | f::m=>zeI (zq9 l f) m
def pieces (keep:Nat→Bool) (f:Fld):Nat→List Fld
 | 0=> []
 | b+1=>match keep (Nat.add f.sh b) with
  | true=>⟨f.i,f.lo,f.hi,Nat.add f.fr b,1,Nat.add f.sh b⟩::pieces keep f b
  | false=>pieces keep f b
def zhY (keep:Nat→Bool):List Fld→List Fld
 | [] => []
 | f::l=>zeI (zhY keep l) (pieces keep f f.n)
def fits (W:Nat):List Fld→Bool
 | [] => true
 | f::l=>match Nat.ble (Nat.add f.sh f.n) W with|true=>fits W l|false=>false
def zho (W:Nat) (l:List Fld) (c:Nat):Bool:=match Nat.blt c (Nat.pow 2 W) with|true=>fits W l|false=>false
def toF:SE→Option (List Fld×Nat)
 | .lit (.ofNat n)=>some ([],n)
 | .flds l c=>some (l,c)
 | _=>none
def ofF (l:List Fld) (c:Nat):SE:=
 match l with
 | [] => zet c fun c=> .lit (.ofNat c)
 | f::l=>zet c fun c=> .flds (f::l) c
def topB (k:IntKind):Option (Nat×Nat):=match sgn k with|true=>none|false=>some (0,Nat.sub (Nat.pow 2 (wOf k)) 1)
def bnd (a:SE):Option (Nat×Nat):=
 match a with
 | .lit (.ofNat n)=>some (n,n)
 | .flds [f] 0=>(match Nat.beq f.fr 0,Nat.beq f.sh 0,Nat.blt (Nat.max f.lo f.hi) (Nat.pow 2 f.n) with
  | true,true,true=>some (f.lo,Nat.max f.lo f.hi)
  | _,_,_=>match zho 64 [f] 0 with|true=>some (0,18446744073709551615)|false=>none)
 | .bin .add k x y=>(match bnd x,bnd y with
  | some (p,q),some (r,s)=>(match Nat.blt (Nat.add q s) (Nat.pow 2 (wOf k)) with
   | true=>some (Nat.add p r,Nat.add q s)
   | false=>topB k)
  | _,_=>topB k)
 | .bin .sub k x y=>(match bnd x,bnd y with
  | some (p,q),some (r,s)=>(match Nat.ble s p,Nat.blt q (Nat.pow 2 (wOf k)) with
   | true,true=>some (Nat.sub p s,Nat.sub q r)
   | _,_=>(match Nat.blt q r,Nat.ble s (Nat.pow 2 (wOf k)),sgn k with
    | true,true,false=>some (Nat.sub (Nat.add (Nat.pow 2 (wOf k)) p) s,Nat.sub (Nat.add (Nat.pow 2 (wOf k)) q) r)
    | _,_,_=>topB k))
  | _,_=>topB k)
 | .bin .mul k x y=>(match bnd x,bnd y with
  | some (p,q),some (r,s)=>(match Nat.blt (Nat.mul q s) (Nat.pow 2 (wOf k)) with
   | true=>some (Nat.mul p r,Nat.mul q s)
   | false=>topB k)
  | _,_=>topB k)
 | .bin .rem _ x y=>(match bnd x,bnd y with
  | some (_,q),some (r,s)=>(match Nat.blt 0 r with
   | true=>some (0,Nat.min q (Nat.sub s 1))
   | false=>none)
  | _,_=>none)
 | .wrap k _=>topB k
 | _=>none
def zzp (k:IntKind) (a:SE):SE:=
 match bnd a with
 | some (_,q)=>(match Nat.blt q (Nat.pow 2 (wOf k)) with|true=>a|false=> .wrap k a)
 | none=> .wrap k a
def zG1 (k:IntKind) (a:SE):SE:=
 match a with
 | .flds l c=>(match sgn k with
  | true=>(match zho (wOf k) l c with|true=> .flds l c|false=> .wrap k (.flds l c))
  | false=>ofF (zdC (wOf k) l) (Nat.mod c (Nat.pow 2 (wOf k))))
 | a=>zzp k a
def sOr (k:IntKind) (a b:SE) (l:List Fld) (c:Nat) (l':List Fld) (c':Nat):SE:=
 match zho (wOf k) l c,zho (wOf k) l' c' with
 | true,true=>ofF (zeI l l') (Nat.lor c c')
 | _,_=> .bin .or k a b
def sAnd (k:IntKind) (a b:SE) (l:List Fld) (c m:Nat):SE:=
 match zho (wOf k) l c,Nat.blt m (Nat.pow 2 (wOf k)) with
 | true,true=>ofF (zhY (Nat.testBit m) l) (Nat.land c m)
 | _,_=> .bin .and k a b
def zsi (k:IntKind) (a b:SE) (l:List Fld) (c m:Nat):SE:=
 match zho (wOf k) l c,Nat.blt m (Nat.pow 2 (wOf k)) with
 | true,true=>ofF (zhY (fun i=>match Nat.testBit m i with|true=>false|false=>true) l) (Nat.xor c (Nat.land c m))
 | _,_=> .bin .andNot k a b
def sShl (k:IntKind) (a b:SE) (l:List Fld) (c n:Nat):SE:=
 match Nat.ble n k.bits,sgn k with
 | true,false=>ofF (zdC (wOf k) (zzi n l)) (Nat.mod (Nat.mul c (Nat.pow 2 n)) (Nat.pow 2 (wOf k)))
 | _,_=> .bin .shl k a b
def sShr (k:IntKind) (a b:SE) (l:List Fld) (c n:Nat):SE:=
 match Nat.ble n k.bits with
 | true=>ofF (zh6 n l) (Nat.div c (Nat.pow 2 n))
 | false=> .bin .shr k a b
def zEN (m:Nat):List Fld→Bool
 | [] => true
 | f::l=>match Nat.ble m f.sh with|true=>zEN m l|false=>false
def width (l:List Fld) (c:Nat):Nat:=
 match l with
 | [] => (match c with|0=>0|c+1=>Nat.succ (Nat.log2 (Nat.succ c)))
 | f::l=>Nat.max (Nat.add f.sh f.n) (width l c)
def sAdd (k:IntKind) (a b:SE) (l:List Fld) (c:Nat) (l':List Fld) (c':Nat):SE:=
 match zho (wOf k) l c,zho (wOf k) l' c' with
 | true,true=>(match zho (width l c) l c,zEN (width l c) l',Nat.beq (Nat.mod c' (Nat.pow 2 (width l c))) 0 with
  | true,true,true=>ofF (zeI l l') (Nat.lor c c')
  | _,_,_=> .bin .add k a b)
 | _,_=> .bin .add k a b
def sQuo (k:IntKind) (a b:SE) (l:List Fld) (c n:Nat):SE:=
 match zho (wOf k) l c,Nat.beq n (Nat.pow 2 (Nat.log2 n)) with
 | true,true=>ofF (zh6 (Nat.log2 n) l) (Nat.div c (Nat.pow 2 (Nat.log2 n)))
 | _,_=> .bin .quo k a b
def sRem (k:IntKind) (a b:SE) (l:List Fld) (c n:Nat):SE:=
 match Nat.beq n (Nat.pow 2 (Nat.log2 n)) with
 | true=>ofF (zdC (Nat.log2 n) l) (Nat.mod c (Nat.pow 2 (Nat.log2 n)))
 | false=> .bin .rem k a b
def sId (o:BinOp) (k:IntKind) (a b:SE) (l:List Fld) (c:Nat) (l':List Fld) (c':Nat):SE:=
 match l' with
 | [] => (match Nat.beq c' 0,zho (wOf k) l c with
  | true,true=>ofF l c
  | _,_=> .bin o k a b)
 | _=> .bin o k a b
def sBin (o:BinOp) (k:IntKind) (a b:SE):SE:=
 match toF a,toF b with
 | some (l,c),some (l',c')=>(match o with
  | .or=>sOr k a b l c l' c'
  | .and=>(match l' with
   | [] => sAnd k a b l c c'
   | _=>(match l with
    | [] => sAnd k b a l' c' c
    | _=> .bin .and k a b))
  | .andNot=>(match l' with| []=>zsi k a b l c c'|_=> .bin .andNot k a b)
  | .shl=>(match l' with| []=>sShl k a b l c c'|_=> .bin .shl k a b)
  | .shr=>(match l' with| []=>sShr k a b l c c'|_=> .bin .shr k a b)
  | .add=>sAdd k a b l c l' c'
  | .quo=>(match l' with| []=>sQuo k a b l c c'|_=> .bin .quo k a b)
  | .rem=>(match l' with| []=>sRem k a b l c c'|_=> .bin .rem k a b)
  | .sub=>sId .sub k a b l c l' c'
  | o=> .bin o k a b)
 | _,_=> .bin o k a b
def zzk (o:BinOp):Bool:=
 match o with
 | .neq| .lss| .gtr=>false
 | _=>true
def zG4 (o:BinOp) (a b:SE):SB:=
 match bnd a,bnd b with
 | some (p,q),some (r,s)=>(match o with
  | .eql=>(match Nat.blt q r,Nat.blt s p with|false,false=> .cmp .eql a b|_,_=> .lit false)
  | .neq=>(match Nat.blt q r,Nat.blt s p with|false,false=> .cmp .neq a b|_,_=> .lit true)
  | .lss=>(match Nat.blt q r,Nat.ble s p with|true,_=> .lit true|_,true=> .lit false|_,_=> .cmp .lss a b)
  | .gtr=>(match Nat.blt s p,Nat.ble q r with|true,_=> .lit true|_,true=> .lit false|_,_=> .cmp .gtr a b)
  | .leq=>(match Nat.ble q r,Nat.blt s p with|true,_=> .lit true|_,true=> .lit false|_,_=> .cmp .leq a b)
  | .geq=>(match Nat.ble s p,Nat.blt q r with|true,_=> .lit true|_,true=> .lit false|_,_=> .cmp .geq a b)
  | o=> .cmp o a b)
 | _,_=> .cmp o a b
def sCmp (o:BinOp) (a b:SE):SB:=
 match SE.beq a b with
 | true=> .lit (zzk o)
 | false=>zG4 o a b
inductive CapI where
 | known (c:Nat)
 | upto (skip:Nat)
inductive AV where
 | bool (b:SB)
 | int (k:IntKind) (n:SE)
 | str (s:List Nat)
 | nilp
 | ptr (n off:Nat)
 | nils
 | sl (n off len:Nat) (cap:CapI)
 | emp
 | slu (n:SE)
 | sla
 | nilm
 | map (n:Nat)
 | func (f:FuncId) (first cap:List AV)
 | nilf
 | nili
 | iface (t:TypeId) (v:AV)
 | agg (l:List AV)
 | tup (l:List AV)
 | cst (i:Nat) (len:Option SE)
 | opq (n:Nat) (len:Option SE)
 | nun (c:SB) (w:Bool)
 | junk
 | sx (i:Nat) (n:SE) (sz:Nat) (l:List (SE×Nat))
def zCM:List (SE×Nat)→List (SE×Nat)→Bool
 | [], [] => true
 | a::l,b::m=>match SE.beq a.1 b.1,Nat.beq a.2 b.2 with|true,true=>zCM l m|_,_=>false
 | _,_=>false
def zvA:Option SE→Option SE→Bool
 | none,none=>true
 | some a,some b=>SE.beq a b
 | _,_=>false
def CapI.beq:CapI→CapI→Bool
 | .known a,.known b=>Nat.beq a b
 | .upto a,.upto b=>Nat.beq a b
 | _,_=>false
def zb1:List Nat→List Nat→Bool
 | [], [] => true
 | a::l,b::m=>match Nat.beq a b with|true=>zb1 l m|false=>false
 | _,_=>false
mutual
def AV.beq:AV→AV→Bool
 | .bool a,.bool b=>SB.eqv a b
 | .int k n,.int k' n'=>match SE.beq n n' with|true=>(if k=k' then true else false)|false=>false
 | .str a,.str b=>zb1 a b
 | .nilp,.nilp=>true
 | .ptr a b,.ptr c d=>match Nat.beq a c with|true=>Nat.beq b d|false=>false
 | .nils,.nils=>true
 | .sl a b c d,.sl a' b' c' d'=>match Nat.beq a a',Nat.beq b b',Nat.beq c c' with|true,true,true=>CapI.beq d d'|_,_,_=>false
 | .emp,.emp=>true
 | .slu a,.slu b=>SE.beq a b
 | .sla,.sla=>true
 | .nilm,.nilm=>true
 | .map a,.map b=>Nat.beq a b
 | .func f l l',.func g m m'=>match Nat.beq f g,AV.beqL l m with|true,true=>AV.beqL l' m'|_,_=>false
 | .nilf,.nilf=>true
 | .nili,.nili=>true
 | .iface t v,.iface u w=>match Nat.beq t u with|true=>AV.beq v w|false=>false
 | .agg l,.agg m=>AV.beqL l m
 | .tup l,.tup m=>AV.beqL l m
 | .cst i l,.cst i' l'=>match Nat.beq i i' with|true=>zvA l l'|false=>false
 | .opq i l,.opq i' l'=>match Nat.beq i i' with|true=>zvA l l'|false=>false
 | .junk,.junk=>true
 | .sx i n s l,.sx i' n' s' l'=>match Nat.beq i i',SE.beq n n',Nat.beq s s' with|true,true,true=>zCM l l'|_,_,_=>false
 | .nun c w,.nun c' w'=>match SB.eqv c c' with|true=>(match w,w' with|true,true=>true|false,false=>true|_,_=>false)|false=>false
 | _,_=>false
def AV.beqL:List AV→List AV→Bool
 | [], [] => true
 | a::l,b::m=>match AV.beq a b with|true=>AV.beqL l m|false=>false
 | _,_=>false
end
def zbR:AV:= .tup []
def zvz:Value→Option AV
 | .bool b=>some (.bool (.lit b))
 | .int k n=>some (.int k (.lit n))
 | .string s=>some (.str (s.data.toList.map (·.toNat)))
 | .pointer none=>some .nilp
 | .slice none 0 0=>some .nils
 | .map none=>some .nilm
 | .nilFunc=>some .nilf
 | .nilIface=>some .nili
 | _=>none
def zhd:List Value→Option (List AV)
 | [] => some []
 | v::l=>match zvz v with
  | none=>none
  | some a=>match zhd l with
   | none=>none
   | some m=>some (a::m)
def ofValue (v:Value):Option AV:=
 match v with
 | .agg cs=>match zhd cs.toList with|some l=>some (.agg l)|none=>none
 | .tuple vs=>match zhd vs.toList with|some l=>some (.tup l)|none=>none
 | v=>zvz v
def AV.cells:AV→List AV
 | .agg l=>l
 | v=> [v]
structure Vec where
 t:T AV
 n:Nat
 d:AV
def Vec.get (v:Vec) (i:Nat):AV:=match v.t.get i with|some x=>x|none=>v.d
def Vec.set (v:Vec) (i:Nat) (x:AV):Vec:=match v with|⟨t,n,d⟩=>match t.set i x with| .leaf=>⟨.leaf,n,d⟩| .node a b c=>⟨.node a b c,n,d⟩
def Vec.list (v:Vec) (i:Nat):Nat→List AV
 | 0=> []
 | n+1=>v.get i::Vec.list v (Nat.succ i) n
def Vec.put (v:Vec) (i:Nat):List AV→Vec
 | [] => v
 | x::l=>Vec.put (v.set i x) (Nat.succ i) l
def Vec.ofList (l:List AV):Vec:=Vec.put ⟨.leaf,l.length,zbR⟩ 0 l
structure ME where
 key:AV
 val:AV
 born:Nat
inductive Obj where
 | cells (v:Vec) (esz grp:Nat) (closed:Option Nat) (shared own:Bool)
 | map (es:List ME) (clock:Nat)
 | iter (m:Option Nat) (since:Nat) (seen:List Nat) (stepped:Nat)
 | mapu (es:List ME)
 | mapx (kn:List (AV×Option AV)) (log:List (AV×Option AV))
 | opq
 | gs (k:Nat)
structure Heap where
 m:T Obj
 nx:Nat
 gw:T Nat
def Heap.alloc (H:Heap) (o:Obj):Heap:=
 match H with
 | ⟨m,nx,gw⟩=>match m.set nx o with
  | .leaf=>⟨.leaf,nx+1,gw⟩
  | .node a b c=>zet (nx+1) fun x=>⟨.node a b c,x,gw⟩
def Heap.upd (H:Heap) (n:Nat) (o:Obj):Heap:=
 match H with
 | ⟨m,nx,gw⟩=>match m.set n o with
  | .leaf=>⟨.leaf,nx,gw⟩
  | .node a b c=>⟨.node a b c,nx,gw⟩
def Heap.wrote (H:Heap) (g:Nat):Heap:=match H with|⟨m,nx,gw⟩=>⟨m,nx,gw.set g nx⟩
def alive (gw:T Nat) (g:Nat) (closed:Option Nat):Bool:=
 match closed with
 | none=>true
 | some t=>match gw.get g with
  | none=>true
  | some w=>Nat.blt w t
def Heap.row (H:Heap) (n:Nat):Option Vec:=
 match H.m.get n with
 | some (.cells v _ g closed _ _)=>match alive H.gw g closed with
  | true=>some v
  | false=>none
 | _=>none
def zBv:AV→Bool
 | .agg _=>false
 | .tup _=>false
 | .nun _ _=>false
 | .junk=>false
 | _=>true
def zeo:List AV→Bool
 | [] => true
 | a::l=>match zBv a with|true=>zeo l|false=>false
def Heap.store (H:Heap) (n off:Nat) (l:List AV):Option Heap:=
 match H.m.get n with
 | some (.cells v esz g none sh true)=>
  match Nat.ble (Nat.add off l.length) v.n,zeo l with
  | true,true=>match sh with
   | false=>some (H.upd n (.cells (v.put off l) esz g none false true))
   | true=>some ((H.upd n (.cells (v.put off l) esz g none false true)).wrote g)
  | _,_=>none
 | _=>none
def Heap.mapAt (H:Heap) (n:Nat):Option (List ME×Nat):=
 match H.m.get n with
 | some (.map es c)=>some (es,c)
 | _=>none
def Heap.mapxAt (H:Heap) (n:Nat):Option (List (AV×Option AV)×List (AV×Option AV)):=
 match H.m.get n with
 | some (.mapx kn log)=>some (kn,log)
 | _=>none
def Heap.gs (H:Heap):Nat:=
 match H.m.get 0 with
 | some (.gs k)=>k
 | _=>0
def Heap.mapuAt (H:Heap) (n:Nat):Option (List ME):=
 match H.m.get n with
 | some (.mapu es)=>some es
 | _=>none
end Go.Dw
namespace Go.Dw
inductive Ob where
 | ok
 | bad (n:Nat) (s:String)
 | all (l:List Ob)
 | ite (c:SB) (t e:Ob)
mutual
def Ob.den (ρ:Val):Ob→Prop
 | .ok=>True
 | .bad _ _=>False
 | .all l=>Ob.denL ρ l
 | .ite c t e=>(c.den ρ=true→t.den ρ)∧(c.den ρ=false→e.den ρ)
def Ob.denL (ρ:Val):List Ob→Prop
 | [] => True
 | o::l=>o.den ρ∧Ob.denL ρ l
end
mutual
def Ob.good:Ob→Bool
 | .ok=>true
 | .bad _ _=>false
 | .all l=>Ob.goodL l
 | .ite _ t e=>match t.good with|true=>e.good|false=>false
def Ob.goodL:List Ob→Bool
 | [] => true
 | o::l=>match o.good with|true=>Ob.goodL l|false=>false
end
inductive Ex where
 | normal
 | exit (id:Nat)
 | ret
section
variable (P:Program)
def zaP:Nat:=1000000
def opd (env:T AV):Operand→Option AV
 | .tmp t=>match Nat.blt t zaP with
  | true=>(match env.get t with|some .junk=>none|some v=>some v|none=>some zbR)
  | false=>none
 | .const v=>ofValue v
 | .func f=>some (.func f [] [])
 | .global _=>none
def opds (env:T AV):List Operand→Option (List AV)
 | [] => some []
 | x::l=>match opd env x with
  | none=>none
  | some a=>match opds env l with
   | none=>none
   | some m=>some (a::m)
def szOf (t:TypeId):Option Nat:=match P.info? t with|some i=>some i.size|none=>none
def zvL (t:TypeId):Option Bool:=
 match P.underlying t with
 | some (.struct _)=>some true
 | some (.array _ _)=>some true
 | some _=>some false
 | none=>none
def zg0 (t:TypeId):Option AV:=
 match P.info? t with
 | some i=>(match i.zero with|some v=>ofValue v|none=>none)
 | none=>none
def ztw:Nat→List AV→List AV
 | 0,l=>l
 | _+1,[]=> []
 | n+1,_::l=>ztw n l
def takeN:Nat→List AV→Option (List AV)
 | 0,_=>some []
 | _+1,[]=>none
 | n+1,a::l=>match takeN n l with|some m=>some (a::m)|none=>none
def zg8 (t:TypeId) (cs:List AV) (off:Nat):Option AV:=
 match zvL P t,szOf P t with
 | some true,some n=>match takeN n (ztw off cs) with|some l=>some (.agg l)|none=>none
 | some false,_=>match ztw off cs with|a::_=>some a| []=>none
 | _,_=>none
def zA6 (o:BinOp) (a b:SE):SB:=
 match a,b with
 | .lit x,.lit y=> .lit (cmpF o x y)
 | a,b=>sCmp o a b
def mkNot:SB→SB
 | .lit true=> .lit false
 | .lit false=> .lit true
 | .not b=>b
 | b=> .not b
def zH1 (a b:SB):SB:=
 match a,b with
 | .lit true,b=>b
 | .lit false,b=>mkNot b
 | a,.lit true=>a
 | a,.lit false=>mkNot a
 | a,b=> .beq a b
def mkInt (o:BinOp) (k:IntKind) (a b:SE):Option SE:=
 match a,b with
 | .lit x,.lit y=>match intF o k x y with
  | some (.ofNat m)=>zet m fun m=>some (.lit (.ofNat m))
  | some (.negSucc m)=>zet m fun m=>some (.lit (.negSucc m))
  | none=>none
 | a,.lit y=>match o with
  | .add=>some (sBin .add k a (.lit y))| .sub=>some (sBin .sub k a (.lit y))| .mul=>some (sBin .mul k a (.lit y))
  | .and=>some (sBin .and k a (.lit y))| .or=>some (sBin .or k a (.lit y))| .xor=>some (sBin .xor k a (.lit y))| .andNot=>some (sBin .andNot k a (.lit y))
  | .quo=>match eqI y 0 with|true=>none|false=>some (sBin .quo k a (.lit y))
  | .rem=>match eqI y 0 with|true=>none|false=>some (sBin .rem k a (.lit y))
  | .shl=>match y with| .ofNat _=>some (sBin .shl k a (.lit y))|_=>none
  | .shr=>match y with| .ofNat _=>some (sBin .shr k a (.lit y))|_=>none
  | _=>none
 | a,b=>match o with
  | .quo=>(match bnd b with|some (q,_)=>(match Nat.blt 0 q with|true=>some (sBin .quo k a b)|false=>none)|none=>none)
  | .rem=>(match bnd b with|some (q,_)=>(match Nat.blt 0 q with|true=>some (sBin .rem k a b)|false=>none)|none=>none)
  | .add=>some (sBin .add k a b)| .sub=>some (sBin .sub k a b)| .mul=>some (sBin .mul k a b)
  | .and=>some (sBin .and k a b)| .or=>some (sBin .or k a b)| .xor=>some (sBin .xor k a b)| .andNot=>some (sBin .andNot k a b)
  | _=>none
def mkWrap (k:IntKind) (a:SE):SE:=
 match a with
 | .lit x=>match ziz k x with
  | .ofNat m=>zet m fun m=> .lit (.ofNat m)
  | .negSucc m=>zet m fun m=> .lit (.negSucc m)
 | a=>zG1 k a
def ztm:BinOp→Bool
 | .eql| .neq| .lss| .leq| .gtr| .geq=>true
 | _=>false
def zkq:BinOp→Bool
 | .shl| .shr=>true
 | _=>false
def apartA (H:Heap) (n m:Nat):Bool:=
 match H.m.get n,H.m.get m with
 | some (.cells _ _ g _ _ true),some (.cells _ _ g' _ _ true)=>
  match Nat.beq g g' with
  | true=>false
  | false=>match H.row n,H.row m with
   | some _,some _=>true
   | _,_=>false
 | _,_=>false
def mkAnd (a b:SB):SB:=
 match a,b with
 | .lit true,b=>b
 | .lit false,_=> .lit false
 | a,.lit true=>a
 | _,.lit false=> .lit false
 | a,b=> .and a b
def eqFields (eq:TypeId→AV→AV→Option SB):List Field→List AV→List AV→Option SB
  | [], _,_=>some (.lit true)
  | fd::l,xs,ys=>
    if fd.name = "_" then eqFields eq l xs ys else
    match zg8 P fd.type xs fd.offset,zg8 P fd.type ys fd.offset with
    | some a,some b=>match eq fd.type a b with
      | none=>none
      | some c=>match eqFields eq l xs ys with
        | some d=>some (mkAnd c d)
        | none=>none
    | _,_=>none
def zei (eq:AV→AV→Option SB) (e:TypeId) (s:Nat):Nat→Nat→List AV→List AV→Option SB
 | 0,_,_,_=>some (.lit true)
 | n+1,i,xs,ys=>
  match zg8 P e xs (i*s),zg8 P e ys (i*s) with
  | some a,some b=>match eq a b with
   | none=>none
   | some c=>match zei eq e s n (i+1) xs ys with
    | some d=>some (mkAnd c d)
    | none=>none
  | _,_=>none
def eqA (H:Heap):Nat→TypeId→AV→AV→Option SB
 | 0,_,_,_=>none
 | f+1,t,x,y=>
  match P.underlying t with
  | some .bool=>match x,y with
   | .bool a,.bool b=>some (zH1 a b)
   | _,_=>none
  | some (.int _)=>match x,y with
   | .int k a,.int k' b=>match Nat.beq (kn k) (kn k') with|true=>some (zA6 .eql a b)|false=>none
   | _,_=>none
  | some .string=>match x,y with
   | .str a,.str b=>some (.lit (zb1 a b))
   | _,_=>none
  | some (.pointer e)=>match x,y with
   | .nilp,.nilp=>some (.lit true)
   | .nilp,.ptr _ _=>some (.lit false)
   | .ptr _ _,.nilp=>some (.lit false)
   | .ptr n o,.ptr m p=>match szOf P e with
    | some (_+1)=>match Nat.beq n m with
     | true=>some (.lit (Nat.beq o p))
     | false=>match apartA H n m with
      | true=>some (.lit false)
      | false=>none
    | _=>none
   | _,_=>none
  | some (.slice _)=>match x,y with
   | .nils,.nils=>some (.lit true)
   | .nils,.sl _ _ _ _=>some (.lit false)
   | .nils,.emp=>some (.lit false)
   | .sl _ _ _ _,.nils=>some (.lit false)
   | .emp,.nils=>some (.lit false)
   | .nils,.sla=>some (.lit false)
   | .sla,.nils=>some (.lit false)
   | _,_=>none
  | some (.map _ _)=>match x,y with
   | .nilm,.nilm=>some (.lit true)
   | .nilm,.map _=>some (.lit false)
   | .map _,.nilm=>some (.lit false)
   | _,_=>none
  | some (.func _ _ _)=>match x,y with
   | .nilf,.nilf=>some (.lit true)
   | .nilf,.func _ _ _=>some (.lit false)
   | .func _ _ _,.nilf=>some (.lit false)
   | _,_=>none
  | some (.interface _)=>match x,y with
   | .nili,.nili=>some (.lit true)
   | .nili,.iface _ _=>some (.lit false)
   | .iface _ _,.nili=>some (.lit false)
   | _,_=>none
  | some (.struct fs)=>match x,y with
   | .agg xs,.agg ys=>match P.stoodInHeld t with
    | true=>none
    | false=>eqFields P (eqA H f) fs.toList xs ys
   | _,_=>none
  | some (.array len e)=>match x,y with
   | .agg xs,.agg ys=>match szOf P e with
    | some s=>zei P (eqA H f e) e s len 0 xs ys
    | none=>none
   | _,_=>none
  | _=>none
def zCm (o:BinOp) (k k':IntKind) (a b:SE):Option AV:=
 match zkq o with
 | true=>(match mkInt o k a b with|some c=>some (.int k c)|none=>none)
 | false=>match Nat.beq (kn k) (kn k') with
  | true=>(match ztm o with
   | true=>some (.bool (zA6 o a b))
   | false=>match mkInt o k a b with|some c=>some (.int k c)|none=>none)
  | false=>none
def zCl (o:BinOp) (a b:List Nat):Option AV:=
 match o with
 | .eql=>some (.bool (.lit (zb1 a b)))
 | .neq=>some (.bool (.lit (match zb1 a b with|true=>false|false=>true)))
 | .add=>(match Nat.blt (Nat.add a.length b.length) 4611686018427387904 with|true=>some (.str (a++b))|false=>none)
 | _=>none
def binEq (H:Heap) (o:BinOp) (t:TypeId) (x y:AV):Option AV:=
 match o with
 | .eql=>(match eqA P H 8 t x y with|some b=>some (.bool b)|none=>none)
 | .neq=>(match eqA P H 8 t x y with|some b=>some (.bool (mkNot b))|none=>none)
 | _=>none
def binA (H:Heap) (c:Bool) (o:BinOp) (t:TypeId) (x y:AV):Option AV:=
 match x with
 | .int k a=>(match y with| .int k' b=>zCm o k k' a b|_=>none)
 | .str a=>(match y with| .str b=>zCl o a b|_=>none)
 | .nili=>(match c with|true=>binEq P H o t .nili y|false=>none)
 | .agg l=>(match P.eqGuardType P.depth t with|true=>none|false=>binEq P H o t (.agg l) y)
 | x=>binEq P H o t x y
def unA (o:UnOp) (x:AV):Option AV:=
 match o,x with
 | .not,.bool b=>some (.bool (mkNot b))
 | .neg,.int k n=>match mkInt .sub k (.lit 0) n with|some c=>some (.int k c)|none=>none
 | .xor,.int k n=>match mkInt .xor k n (.lit (if k.signed then-1 else k.max)) with|some c=>some (.int k c)|none=>none
 | _,_=>none
def zgE:List AV→Option (List Nat)
 | [] => some []
 | .int .u8 (.lit (.ofNat n))::l=>match Nat.blt n 256 with
  | true=>match zgE l with|some m=>some (n::m)|none=>none
  | false=>none
 | _::_=>none
def zkI:List Nat→List AV
 | [] => []
 | b::l=> .int .u8 (.lit (.ofNat b))::zkI l
def cellsA (H:Heap) (sz n:Nat) (x:AV):Option (List AV):=
 match x with
 | .nils=>(match n with|0=>some []|_+1=>none)
 | .emp=>(match n with|0=>some []|_+1=>none)
 | .sl b off len _=>(match Nat.ble n len with
  | false=>none
  | true=>match H.row b with
   | none=>none
   | some v=>match Nat.ble (Nat.add off (Nat.mul n sz)) v.n with
    | true=>some (v.list off (Nat.mul n sz))
    | false=>none)
 | .str s=>(match Nat.beq sz 1 with|true=>takeN n (zkI s)|false=>none)
 | _=>none
def lenA (x:AV):Option Nat:=
 match x with
 | .nils=>some 0
 | .emp=>some 0
 | .sl _ _ len _=>some len
 | .str s=>some s.length
 | _=>none
def convStr (H:Heap) (e:TypeId) (x:AV):Option AV:=
 match P.underlying e with
 | some (.int .u8)=>(match x with
  | .str _=>none
  | x=>match lenA x with
   | none=>none
   | some n=>match cellsA H 1 n x with
    | none=>none
    | some l=>match zgE l with|some m=>some (.str m)|none=>none)
 | _=>none
def convA (H:Heap) (src dst:TypeId) (x:AV):Option AV:=
 match P.underlying src with
 | none=>none
 | some s=>match P.underlying dst with
  | some (.int k)=>(match x with| .int _ n=>some (.int k (mkWrap k n))|_=>none)
  | some .string=>(match s with
   | .slice e=>convStr P H e x
   | .string=>(match x with| .str s=>some (.str s)|_=>none)
   | _=>none)
  | _=>none
def natA (env:T AV) (x:Operand):Option Nat:=
 match opd env x with
 | some (.int _ (.lit (.ofNat n)))=>some n
 | _=>none
def natO (env:T AV) (x:Option Operand) (d:Nat):Option Nat:=
 match x with
 | none=>some d
 | some x=>natA env x
def zgQ (t:TypeId):Option Nat:=
 match P.underlying t with
 | some (.slice e)=>szOf P e
 | _=>none
def zyf (t:TypeId):Option (Nat×TypeId×Nat):=
 match P.underlying t with
 | some (.array len e)=>(match szOf P e with|some s=>some (len,e,s)|none=>none)
 | _=>none
def zvJ (t:TypeId):Bool:=
 match P.underlying t with
 | some .string=>true
 | _=>false
def bounds (env:T AV) (len cap:Nat) (lo hi mx:Option Operand):Option (Nat×Nat×Nat):=
 match mx with
 | some m=>(match natA env m with
  | none=>none
  | some m=>(match Nat.ble m cap with
   | false=>none
   | true=>match hi with
    | none=>none
    | some h=>match natA env h with
     | none=>none
     | some h=>match Nat.ble h m with
      | false=>none
      | true=>match natO env lo 0 with
       | none=>none
       | some l=>match Nat.ble l h with
        | true=>some (l,h,m)
        | false=>none))
 | none=>(match natO env hi len with
  | none=>none
  | some h=>(match Nat.ble h cap with
   | false=>none
   | true=>match natO env lo 0 with
    | none=>none
    | some l=>match Nat.ble l h with
     | true=>some (l,h,cap)
     | false=>none))
def cutA (b off s l h m:Nat):AV:=
 match Nat.beq m l with
 | true=> .sl b off (Nat.sub h l) (.known 0)
 | false=> .sl b (Nat.add off (Nat.mul l s)) (Nat.sub h l) (.known (Nat.sub m l))
def cutU (b off s l h len k:Nat):AV:=
 match Nat.beq l 0 with
 | true=> .sl b off h (.upto k)
 | false=>match Nat.blt l len with
  | true=> .sl b (Nat.add off (Nat.mul l s)) (Nat.sub h l) (.upto (Nat.add k l))
  | false=> .emp
def zhu (env:T AV) (c:Nat) (lo hi:Option Operand):Bool:=
 match natO env lo 0,hi with
 | some l,some h=>(match opd env h with
  | some (.int _ e)=>(match bnd e with
   | some (p,q)=>(match Nat.ble l p,Nat.ble q c with|true,true=>true|_,_=>false)
   | none=>false)
  | _=>false)
 | _,_=>false
def zi1 (env:T AV) (s b off len:Nat) (cap:CapI) (lo hi mx:Option Operand):Option AV:=
 match cap with
 | .known c=>(match bounds env len c lo hi mx with
  | some (l,h,m)=>some (cutA b off s l h m)
  | none=>(match mx,zhu env c lo hi with
   | none,true=>some .sla
   | _,_=>none))
 | .upto k=>(match bounds env len len lo hi mx with
  | some (l,h,m)=>(match mx with
   | some _=>some (cutA b off s l h m)
   | none=>some (cutU b off s l h len k))
  | none=>none)
def zlt (env:T AV) (t:TypeId) (x:AV) (lo hi mx:Option Operand):Option AV:=
 match x with
 | .str s=>(match zvJ P t,mx with
  | true,none=>(match bounds env s.length s.length lo hi none with
   | some (l,h,_)=>some (.str ((s.drop l).take (Nat.sub h l)))
   | none=>none)
  | _,_=>none)
 | .nils=>(match zgQ P t,bounds env 0 0 lo hi mx with
  | some _,some _=>some .nils
  | _,_=>none)
 | .emp=>(match zgQ P t,mx with
  | some _,none=>(match bounds env 0 0 lo hi none with
   | some _=>some .emp
   | none=>none)
  | _,_=>none)
 | .sl b off len cap=>(match zgQ P t with
  | some s=>zi1 env s b off len cap lo hi mx
  | none=>none)
 | .ptr b off=>(match zyf P t with
  | some (n,_,s)=>(match bounds env n n lo hi mx with
   | some (l,h,m)=>some (cutA b off s l h m)
   | none=>none)
  | none=>none)
 | _=>none
def zkw (t:TypeId) (f:Nat):Option Field:=
 match P.underlying t with
 | some (.struct fs)=>fs[f]?
 | _=>none
def zsf (x y:SE):Option Bool:=
 match x,y with
 | .lit x,.lit y=>some (eqI x y)
 | x,y=>match SE.beq x y with
  | true=>some true
  | false=>match bnd x,bnd y with
   | some (p,q),some (r,s)=>(match Nat.blt q r,Nat.blt s p with
    | false,false=>none
    | _,_=>some false)
   | _,_=>none
def zEj (kd:TypeDesc) (a b:AV):Option Bool:=
 match kd with
 | .int _=>(match a,b with
  | .int k x,.int k' y=>(match Nat.beq (kn k) (kn k') with|true=>zsf x y|false=>none)
  | _,_=>none)
 | .string=>(match a,b with
  | .str x,.str y=>some (zb1 x y)
  | _,_=>none)
 | _=>none
def zrp (kd:TypeDesc) (k:AV):List ME→Nat→Option (Option (Nat×AV))
 | [], _=>some none
 | e::l,i=>match zEj kd k e.key with
  | some true=>some (some (i,e.val))
  | some false=>zrp kd k l (Nat.succ i)
  | none=>none
def mapOf (t:TypeId):Option (TypeDesc×TypeId):=
 match P.underlying t with
 | some (.map kt et)=>(match P.underlying kt with
  | some (.int k)=>some (.int k,et)
  | some .string=>some (.string,et)
  | _=>none)
 | _=>none
def isKey (kd:TypeDesc) (k:AV):Bool:=
 match kd with
 | .int _=>(match k with| .int _ _=>true|_=>false)
 | .string=>(match k with| .str _=>true|_=>false)
 | _=>false
def entriesA (H:Heap) (m:AV):Option (List ME):=
 match m with
 | .nilm=>some []
 | .map n=>(match H.mapAt n with|some (es,_)=>some es|none=>none)
 | _=>none
def hits (H:Heap) (kt:TypeId) (k:AV):List ME→Option (List AV)
 | [] => some []
 | e::l=>match eqA P H 8 kt k e.key,hits H kt k l with
  | some (.lit true),some m=>some (e.val::m)
  | some (.lit false),some m=>some m
  | _,_=>none
def zvM (t:TypeId):Option (Nat×TypeId):=
 match P.underlying t with
 | some (.array len e)=>(match P.underlying e with
  | some (.int _)=>some (len,e)
  | _=>none)
 | _=>none
def zdv (e:TypeId) (s:Nat) (cs:List AV):Nat→Nat→Bool
 | 0,_=>true
 | n+1,i=>match zg8 P e cs (i*s) with
  | some _=>zdv e s cs n (i+1)
  | none=>false
def lookupU (H:Heap) (t:TypeId) (m k:AV) (ok:Bool):Option AV:=
 match P.underlying t,m,k with
 | some (.map kt et),.map n,.agg cs=>(match zvM P kt,H.mapuAt n with
  | some (len,e),some es=>(match szOf P e with
   | some s=>(match zdv P e s cs len 0,hits P H kt (.agg cs) es with
    | true,some [v]=>some (match ok with|true=> .tup [v,.bool (.lit true)]|false=>v)
    | true,some []=>(match zg0 P et with
     | some z=>some (match ok with|true=> .tup [z,.bool (.lit false)]|false=>z)
     | none=>none)
    | _,_=>none)
   | none=>none)
  | _,_=>none)
 | _,_,_=>none
def zH6:AV→Bool
 | .tup _=>true
 | _=>false
def zdu:List (AV×Option AV)→List (AV×Option AV)
 | [] => []
 | e::l=>match zH6 e.1 with|true=>zdu l|false=>e::zdu l
def zx1 (kd:TypeDesc) (k:AV):List (AV×Option AV)→Option (Option AV)
 | [] => none
 | e::l=>match zEj kd k e.1 with
  | some true=>some e.2
  | some false=>zx1 kd k l
  | none=>none
def lookupX (H:Heap) (kd:TypeDesc) (et:TypeId) (m k:AV) (ok:Bool):Option AV:=
 match m with
 | .map n=>(match H.mapxAt n,isKey kd k with
  | some (kn,_),true=>(match zx1 kd k (zdu kn) with
   | none=>none
   | some (some v)=>some (match ok with|true=> .tup [v,.bool (.lit true)]|false=>v)
   | some none=>match zg0 P et with
    | none=>none
    | some z=>some (match ok with|true=> .tup [z,.bool (.lit false)]|false=>z))
  | _,_=>none)
 | _=>none
def lookupA (H:Heap) (t:TypeId) (m k:AV) (ok:Bool):Option AV:=
 match mapOf P t with
 | none=>lookupU P H t m k ok
 | some (kd,et)=>match entriesA H m with
  | none=>lookupX P H kd et m k ok
  | some es=>match isKey kd k with
   | false=>none
   | true=>match zrp kd k es 0 with
    | none=>none
    | some (some (_,v))=>some (match ok with|true=> .tup [v,.bool (.lit true)]|false=>v)
    | some none=>match zg0 P et with
     | none=>none
     | some z=>some (match ok with|true=> .tup [z,.bool (.lit false)]|false=>z)
def nthA:List AV→Nat→Option AV
 | [], _=>none
 | a::l,n=>match n with|0=>some a|m+1=>nthA l m
def zir (n:Nat):List ME→Option ME
 | [] => none
 | e::l=>match Nat.beq e.born n with|true=>some e|false=>zir n l
abbrev L:=T AV→Heap→Option AV
def lNo:L:=fun _ _=>none
def zH5 (x:Operand):L:=fun env _=>opd env x
def given (s:SB) (w:Bool) (y:AV):AV:=
 match y with
 | .bool t=>(match SB.eqv t s with|true=> .bool (.lit w)|false=> .bool t)
 | y=>y
def zHE (s x y:SB):SB:=
 match SB.eqv y s with
 | true=>mkAnd s x
 | false=>match SB.eqv x s with
  | true=>mkNot (mkAnd (mkNot s) (mkNot y))
  | false=>mkNot (mkAnd (mkNot (mkAnd s x)) (mkNot (mkAnd (mkNot s) y)))
def zHG (s:SB) (x y:AV):Option AV:=
 match x with
 | .nun c w=>(match SB.eqv c s,w with|true,true=>some (given s false y)|_,_=>none)
 | x=>match y with
  | .nun c w=>(match SB.eqv c s,w with|true,false=>some (given s true x)|_,_=>none)
  | .bool q=>(match x with| .bool p=>some (.bool (zHE s p q))|_=>none)
  | _=>none
def zEi (c a b:Operand):L:=fun env _=>
 match opd env c with
 | some (.bool (.lit true))=>opd env a
 | some (.bool (.lit false))=>opd env b
 | some (.bool s)=>(match opd env a,opd env b with
  | some x,some y=>zHG s x y
  | _,_=>none)
 | _=>none
def ziq (x:Operand) (i:Nat):L:=fun env _=>
 match opd env x with
 | some (.tup l)=>nthA l i
 | _=>none
def zgF (x:Operand):L:=fun env _=>
 match opd env x with
 | some .nilp=>none
 | some .nili=>none
 | some .nilf=>none
 | some (.cst _ _)=>none
 | some (.opq _ _)=>none
 | some (.nun _ _)=>none
 | some (.sx _ _ _ _)=>none
 | x=>x
def zvU (t:TypeId) (f:Nat):Option Nat:=
 match zkw P t f with
 | some fd=>match szOf P fd.type with
  | some (_+1)=>some fd.offset
  | _=>none
 | none=>none
def zfm (t:TypeId) (x:Operand) (f:Nat):L:=fun env _=>
 match zvU P t f,opd env x with
 | some o,some (.ptr n off)=>some (.ptr n (Nat.add off o))
 | _,_=>none
def znH (t:TypeId):Option (Option Nat):=
 match zvL P t,szOf P t with
 | some false,some _=>some none
 | some true,some s=>some (some s)
 | _,_=>none
def loadAt (k:Option (Option Nat)) (v:Vec) (off:Nat):Option AV:=
 match k with
 | some none=>match Nat.blt off v.n with|true=>some (v.get off)|false=>none
 | some (some s)=>match Nat.ble (Nat.add off s) v.n with|true=>some (.agg (v.list off s))|false=>none
 | none=>none
def zBl (t:TypeId) (x:Operand):L:=fun env H=>
 match opd env x with
 | some (.ptr n off)=>match H.row n with
  | some v=>loadAt (znH P t) v off
  | none=>none
 | _=>none
def isC:Operand→Bool
 | .const _=>true
 | _=>false
def zq6 (o:BinOp) (t:TypeId) (x y:Operand) (_:TypeId):L:=fun env H=>
 match opd env x,opd env y with
 | some a,some b=>binA P H (match isC x with|true=>true|false=>isC y) o t a b
 | _,_=>none
def zEh (o:UnOp) (_:TypeId) (x:Operand):L:=fun env _=>
 match opd env x with
 | some a=>unA o a
 | none=>none
def zgH (s d:TypeId) (x:Operand):L:=fun env H=>
 match opd env x with
 | some a=>convA P H s d a
 | none=>none
def zro (e:SE):List (SE×Nat)→Option Nat
 | [] => none
 | p::l=>match SE.beq p.1 e with|true=>some p.2|false=>zro e l
def zip (t:TypeId) (x i:Operand):L:=fun env _=>
 match opd env x,opd env i with
 | some (.sx _ _ sz l),some (.int _ e)=>(match zgQ P t with
  | some s=>(match Nat.beq s sz with
   | true=>(match zro e l with
    | some n=>some (.ptr n 0)
    | none=>none)
   | false=>none)
  | none=>none)
 | _,_=>none
def zfl (t:TypeId) (x i:Operand):L:=fun env H=>
 match opd env x,natA env i with
 | some (.sl n off len _),some i=>(match zgQ P t with
  | some s=>(match Nat.blt i len with
   | true=>some (.ptr n (Nat.add off (Nat.mul i s)))
   | false=>none)
  | none=>none)
 | some (.ptr n off),some i=>(match zyf P t with
  | some (len,_,s)=>(match Nat.blt i len with
   | true=>some (.ptr n (Nat.add off (Nat.mul i s)))
   | false=>none)
  | none=>none)
 | _,_=>zip P t x i env H
def zvN (s:List Nat) (i:Nat):Option AV:=
 match s[i]? with
 | some b=>some (.int .u8 (.lit (.ofNat b)))
 | none=>none
def zvG (t:TypeId) (x i:Operand):L:=fun env _=>
 match opd env x,natA env i with
 | some (.agg cs),some i=>(match zyf P t with
  | some (len,e,s)=>(match Nat.blt i len with
   | true=>zg8 P e cs (Nat.mul i s)
   | false=>none)
  | none=>none)
 | some (.str s),some i=>(match zvJ P t with
  | true=>zvN s i
  | false=>none)
 | _,_=>none
def zvH (t:TypeId) (x:Operand) (f:Nat):L:=fun env _=>
 match zkw P t f,opd env x with
 | some fd,some (.agg cs)=>zg8 P fd.type cs fd.offset
 | _,_=>none
def zi0 (H:Heap) (env:T AV) (t:TypeId) (x:AV) (lo hi mx:Option Operand):Option AV:=
 match x with
 | .sl b off len (.upto k)=>(match mx,hi with
  | none,some ho=>(match zgQ P t,natA env ho,H.m.get b with
   | some s,some h,some (.cells v esz g closed _ _)=>(match alive H.gw g closed,Nat.beq esz s,Nat.beq off (Nat.mul k s),Nat.blt 0 s,Nat.ble (Nat.add off (Nat.mul h s)) v.n with
    | true,true,true,true,true=>(match bounds env len h lo (some ho) none with
     | some (l,h',_)=>some (cutU b off s l h' h k)
     | none=>none)
    | _,_,_,_,_=>none)
   | _,_,_=>none)
  | _,_=>none)
 | _=>none
def zq0 (t:TypeId) (x:Operand) (lo hi mx:Option Operand):L:=fun env H=>
 match opd env x with
 | some a=>(match zlt P env t a lo hi mx with
  | some r=>some r
  | none=>zi0 P H env t a lo hi mx)
 | none=>none
def znM (t:TypeId) (x:Operand):L:=fun env _=>
 match zyf P t,opd env x with
 | some (n,_,_),some (.sl b off len _)=>(match Nat.ble n len with
  | true=>some (.ptr b off)
  | false=>none)
 | some (n,_,_),some (.sx _ (.lit (.ofNat len)) _ l)=>(match Nat.ble n len,zro (.lit (.ofNat 0)) l with
  | true,some m=>some (.ptr m 0)
  | _,_=>none)
 | _,_=>none
def zgG (fn:Fn) (first cap:Array Operand):L:=fun env _=>
 match fn with
 | .func f=>match opds env first.toList,opds env cap.toList with
  | some l,some m=>some (.func f l m)
  | _,_=>none
 | _=>none
def zfk (t:TypeId) (x:Operand):L:=fun env _=>
 match P.underlying t with
 | some (.interface _)=>none
 | none=>none
 | some _=>match opd env x with
  | some a=>some (.iface t a)
  | none=>none
def zeb (x:Operand) (_ t:TypeId) (ok:Bool):L:=fun env _=>
 match P.underlying t with
 | some (.interface _)=>none
 | none=>none
 | some _=>match opd env x with
  | some (.iface u v)=>match Nat.beq u t with
   | true=>some (match ok with|true=> .tup [v,.bool (.lit true)]|false=>v)
   | false=>none
  | _=>none
def zkn (t:TypeId) (x i:Operand) (ok:Bool):L:=fun env H=>
 match opd env x,opd env i with
 | some m,some k=>lookupA P H t m k ok
 | _,_=>none
def zq4 (x:Operand):L:=fun env H=>
 match opd env x with
 | some (.ptr n 0)=>match H.m.get n with
  | some (.iter (some m) _ seen stepped)=>match seen.reverse with
   | stamp::_=>match H.mapAt m with
    | some (es,clock)=>match Nat.beq clock stepped with
     | true=>match zir stamp es with
      | some e=>some (.tup [e.key,e.val])
      | none=>none
     | false=>none
    | none=>none
   | [] => none
  | _=>none
 | _=>none
def natV (n:Nat):Option AV:=zet n fun n=>some (.int .i64 (.lit (.ofNat n)))
def lenOfA (d:Option TypeDesc) (H:Heap) (x:AV):Option AV:=
 match d with
 | some (.slice _)=>(match x with
  | .nils=>natV 0
  | .emp=>natV 0
  | .sl _ _ n _=>natV n
  | .slu n=>some (.int .i64 n)
  | .cst _ (some n)=>some (.int .i64 n)
  | .opq _ (some n)=>some (.int .i64 n)
  | .sx _ n _ _=>some (.int .i64 n)
  | _=>none)
 | some .string=>(match x with
  | .str s=>natV s.length
  | _=>none)
 | some (.array n _)=>natV n
 | some (.map _ _)=>(match x with
  | .nilm=>natV 0
  | .map m=>(match H.mapAt m with
   | some (es,_)=>natV es.length
   | none=>none)
  | _=>none)
 | _=>none
def lLen (ts:List TypeId) (xs:List Operand):L:=fun env H=>
 match ts,xs with
 | t::_,[x]=>match opd env x with
  | some a=>lenOfA (P.underlying t) H a
  | none=>none
 | _,_=>none
def lCap (ts:List TypeId) (xs:List Operand):L:=fun env _=>
 match ts,xs with
 | t::_,[x]=>match P.underlying t,opd env x with
  | some (.slice _),some .nils=>natV 0
  | some (.slice _),some (.sl _ _ _ (.known n))=>natV n
  | _,_=>none
 | _,_=>none
def lMin (xs:List Operand):L:=fun env _=>
 match xs with
 | [x,y]=>match opd env x,opd env y with
  | some (.int k (.lit a)),some (.int _ (.lit b))=>some (.int k (.lit (match ltI b a with|true=>b|false=>a)))
  | _,_=>none
 | _=>none
def lMax (xs:List Operand):L:=fun env _=>
 match xs with
 | [x,y]=>match opd env x,opd env y with
  | some (.int k (.lit a)),some (.int _ (.lit b))=>some (.int k (.lit (match ltI a b with|true=>b|false=>a)))
  | _,_=>none
 | _=>none
def znK (c:Call):L:=
 match c.callee with
 | .builtin .len=>lLen P c.argTypes.toList c.args.toList
 | .builtin .cap=>lCap P c.argTypes.toList c.args.toList
 | .builtin .min=>lMin c.args.toList
 | .builtin .max=>lMax c.args.toList
 | _=>lNo
def putL:List AV→Nat→List AV→List AV
 | [], _,_=> []
 | c::cs,off,vs=>match off with
  | 0=>(match vs with
   | [] => c::cs
   | v::vs=>v::putL cs 0 vs)
  | o+1=>c::putL cs o vs
def ztt (place:Nat→Option (Nat×Nat)):List AV→List (Nat×AV)→Option (List AV)
 | cells,[]=>some cells
 | cells,p::rest=>match place p.1 with
  | none=>none
  | some (off,size)=>match Nat.beq p.2.cells.length size,Nat.ble (Nat.add off size) cells.length with
   | true,true=>ztt place (putL cells off p.2.cells) rest
   | _,_=>none
def partsOf (env:T AV):List (Nat×Operand)→Option (List (Nat×AV))
 | [] => some []
 | p::l=>match opd env p.2 with
  | none=>none
  | some a=>match partsOf env l with
   | some m=>some ((p.1,a)::m)
   | none=>none
def repL:Nat→List AV→List AV
 | 0,_=> []
 | n+1,l=>l++repL n l
def uniform:List AV→Option AV
 | [] => none
 | a::l=>match go a l with|true=>some a|false=>none
where
 go (a:AV):List AV→Bool
  | [] => true
  | b::l=>match AV.beq b a with|true=>go a l|false=>false
def zjE:List Field→Option (List (Nat×Nat))
 | [] => some []
 | f::l=>match szOf P f.type with
  | none=>none
  | some s=>match zjE l with
   | some m=>some ((f.offset,s)::m)
   | none=>none
def nthP:List (Nat×Nat)→Nat→Option (Nat×Nat)
 | [], _=>none
 | a::l,n=>match n with|0=>some a|m+1=>nthP l m
def zgV (env:T AV) (t:TypeId) (parts:List (Nat×Operand)):Option AV:=
 match zg0 P t,partsOf env parts with
 | some z,some ps=>match P.underlying t with
  | some (.struct fs)=>(match zjE P fs.toList with
   | some pl=>(match ztt (nthP pl) z.cells ps with|some l=>some (.agg l)|none=>none)
   | none=>none)
  | some (.array _ e)=>(match szOf P e with
   | some s=>(match ztt (fun i=>some (Nat.mul i s,s)) z.cells ps with|some l=>some (.agg l)|none=>none)
   | none=>none)
  | _=>none
 | _,_=>none
def zBm (t:TypeId) (parts:Array (Nat×Operand)):L:=fun env _=>zgV P env t parts.toList
def light (o:Op):L:=
 Op.casesOn (motive:=fun _=>L) o zH5 zH5 zEi (fun _=>lNo) (fun _ _=>lNo) (zBm P) (fun _ _ _=>lNo) (fun _ _ _ _=>lNo) (zBl P)
  (fun _ _ _=>lNo) (fun _=>lNo) (fun _=>lNo) zgF (zq6 P) (zEh) (zgH P) (znM P) (zfk P) zgG (fun _ _=>lNo) (fun _ _=>lNo)
  (fun _ _ _=>lNo) (zq0 P) (zfm P) (zvH P) (zfl P) (zvG P) (zkn P) (fun _ _ _ _=>lNo) (fun _ _ _=>lNo) (fun _ _ _ _=>lNo)
  (fun _ _=>lNo) (fun _ _=>lNo) zq4 (zeb P) ziq (znK P) (fun _=>lNo) (fun _=>lNo) (fun _=>lNo) (fun _ _=>lNo) (fun _ _ _=>lNo) (fun _ _=>lNo)
def zbq (l:List AV) (s nx:Nat):Obj:= .cells (Vec.ofList l) s nx none false true
def zrZ (t:TypeId) (nx:Nat):Option (AV×Obj):=
 match zg0 P t,szOf P t with
 | some z,some _=>some (.ptr nx 0,zbq z.cells 0 nx)
 | _,_=>none
def aBox (t:TypeId) (x:Operand) (env:T AV) (nx:Nat):Option (AV×Obj):=
 match opd env x,szOf P t with
 | some v,some _=>some (.ptr nx 0,zbq v.cells 0 nx)
 | _,_=>none
def zcB (t:TypeId) (len:Nat) (parts:Array (Nat×Operand)) (env:T AV) (nx:Nat):Option (AV×Obj):=
 match P.underlying t with
 | some (.slice e)=>(match szOf P e,zg0 P e,partsOf env parts.toList with
  | some s,some z,some ps=>(match Nat.ble (Nat.mul len s) 16777216,Nat.beq z.cells.length s with
   | true,true=>(match ztt (fun i=>some (Nat.mul i s,s)) (repL len z.cells) ps with
    | some l=>some (.sl nx 0 len (.known len),zbq l s nx)
    | none=>none)
   | _,_=>none)
  | _,_,_=>none)
 | _=>none
def zft (t:TypeId) (r:Option Operand) (env:T AV) (nx:Nat):Option (AV×Obj):=
 match r with
 | none=>some (.map nx,.map [] 0)
 | some r=>(match P.underlying t,natA env r with
  | some (.map _ _),some _=>some (.map nx,.map [] 0)
  | _,_=>none)
def rowOf (z:List AV) (c s:Nat):Option Vec:=
 match uniform z with
 | some u=>some ⟨.leaf,Nat.mul c s,u⟩
 | none=>(match Nat.ble (Nat.mul c s) 100000 with
  | true=>some (Vec.ofList (repL c z))
  | false=>none)
def zcZ (t:TypeId) (l c:Operand) (env:T AV) (nx:Nat):Option (AV×Obj):=
 match P.underlying t,natA env l,natA env c with
 | some (.slice e),some l,some c=>(match P.info? e,zg0 P e with
  | some inf,some z=>(match Nat.ble l c,Nat.ble (Nat.mul inf.bytes c) 140737488355328,Nat.blt c 4611686018427387904,Nat.beq z.cells.length inf.size with
   | true,true,true,true=>(match rowOf z.cells c inf.size with
    | some r=>some (.sl nx 0 l (.known c),.cells r inf.size nx none false true)
    | none=>none)
   | _,_,_,_=>none)
  | _,_=>none)
 | _,_,_=>none
abbrev A:=T AV→Nat→Option (AV×Obj)
def aNo:A:=fun _ _=>none
def zdj (o:Op):A:=
 match o with
 | .alloc t=>fun _ nx=>zrZ P t nx
 | .box t x=>aBox P t x
 | .buildSlice t len parts=>zcB P t len parts
 | .makeMap t r=>zft P t r
 | .makeSlice t l c=>zcZ P t l c
 | _=>aNo
def zFh (H:Heap) (t:TypeId) (n off:Nat) (v:AV):Option Heap:=
 match szOf P t with
 | some s=>match Nat.beq v.cells.length s with
  | true=>H.store n off v.cells
  | false=>none
 | none=>none
def zpa (es:List ME) (i:Nat) (e:ME):List ME:=
 match es with
 | [] => []
 | x::l=>match i with|0=>e::l|j+1=>x::zpa l j e
def zhp (es:List ME) (i:Nat):List ME:=
 match es with
 | [] => []
 | x::l=>match i with|0=>l|j+1=>x::zhp l j
def nthM:List ME→Nat→Option ME
 | [], _=>none
 | a::l,n=>match n with|0=>some a|m+1=>nthM l m
def zxY:AV→Bool
 | .int .i64 _=>true
 | _=>false
def zs8 (H:Heap) (kd:TypeDesc) (n:Nat) (k v:AV):Option Heap:=
 match kd with
 | .int _=>(match zxY k,H.mapxAt n with
  | true,some (_,log)=>some (H.upd n (.mapx [(k,some v)] ((k,some v)::log)))
  | _,_=>none)
 | _=>none
def znA (H:Heap) (t:TypeId) (m k v:AV):Option Heap:=
 match mapOf P t with
 | none=>none
 | some (kd,_)=>match m with
  | .map n=>(match isKey kd k,H.mapAt n with
   | true,some (es,clock)=>(match zrp kd k es 0 with
    | none=>none
    | some (some (i,_))=>(match nthM es i with
     | none=>none
     | some e=>match AV.beq e.key k with
      | true=>some (H.upd n (.map (zpa es i ⟨k,v,e.born⟩) clock))
      | false=>none)
    | some none=>some (H.upd n (.map (es++ [⟨k,v,clock⟩]) (Nat.succ clock))))
   | _,_=>zs8 H kd n k v)
  | _=>none
def zBd (H:Heap) (kd:TypeDesc) (n:Nat) (k:AV):Option Heap:=
 match kd with
 | .int _=>(match zxY k,H.mapxAt n with
  | true,some (_,log)=>some (H.upd n (.mapx [(k,none)] ((k,none)::log)))
  | _,_=>none)
 | _=>none
def zta (H:Heap) (t:TypeId) (m k:AV):Option Heap:=
 match mapOf P t with
 | none=>none
 | some (kd,_)=>match isKey kd k with
  | false=>none
  | true=>match m with
   | .nilm=>some H
   | .map n=>(match H.mapAt n with
    | none=>zBd H kd n k
    | some (es,clock)=>match zrp kd k es 0 with
     | none=>none
     | some (some (i,_))=>some (H.upd n (.map (zhp es i) clock))
     | some none=>some H)
   | _=>none
def zgz (H:Heap) (kd:TypeDesc) (et:TypeId) (n:Nat) (k:AV):Option (AV×Heap):=
 match kd with
 | .int _=>(match zxY k,H.mapxAt n with
  | true,some (kn,log)=>(match zx1 kd k (zdu kn),zg0 P et with
   | some none,some z=>some (.tup [z,.opq H.nx none],(H.alloc .opq).upd n (.mapx [(k,some z),(.tup [.opq H.nx none,k],none)] ((k,some z)::log)))
   | _,_=>none)
  | _,_=>none)
 | _=>none
def zqR (H:Heap) (t:TypeId) (m k:AV):Option (AV×Heap):=
 match mapOf P t with
 | none=>none
 | some (kd,et)=>match m with
  | .map n=>(match isKey kd k,H.mapAt n with
   | true,some (es,clock)=>(match zrp kd k es 0 with
    | none=>none
    | some (some (i,v))=>(match nthM es i with
     | none=>none
     | some e=>match AV.beq e.key k with
      | true=>some (.tup [v,.int .i64 (.lit (.ofNat e.born))],H)
      | false=>none)
    | some none=>match zg0 P et with
     | none=>none
     | some z=>some (.tup [z,.int .i64 (.lit (.ofNat clock))],H.upd n (.map (es++ [⟨k,z,clock⟩]) (Nat.succ clock))))
   | _,_=>zgz P H kd et n k)
  | _=>none
def zni (b:Nat) (v:AV):List ME→Option (List ME)
 | [] => none
 | e::l=>match Nat.beq e.born b with
  | true=>some (⟨e.key,v,e.born⟩::l)
  | false=>match zni b v l with|some m=>some (e::m)|none=>none
def zqw (s:AV):List (AV×Option AV)→Option AV
 | [] => none
 | e::l=>match e.1 with
  | .tup [s',k]=>(match AV.beq s' s with|true=>some k|false=>zqw s l)
  | _=>zqw s l
def zej (H:Heap) (n q:Nat) (v:AV):Option Heap:=
 match H.mapxAt n with
 | some (kn,log)=>(match zqw (.opq q none) kn with
  | some k=>some (H.upd n (.mapx [(k,some v)] ((k,some v)::log)))
  | none=>none)
 | none=>none
def zkz (H:Heap) (m s v:AV):Option Heap:=
 match m,s with
 | .map n,.int _ (.lit (.ofNat b))=>match H.mapAt n with
  | none=>none
  | some (es,clock)=>match zni b v es with
   | some l=>some (H.upd n (.map l clock))
   | none=>none
 | .map n,.opq q none=>zej H n q v
 | _,_=>none
def ziu (t:TypeId):Option (Nat×Nat):=
 match P.underlying t with
 | some (.slice e)=>(match P.info? e,zg0 P e with
  | some inf,some z=>(match Nat.beq z.cells.length inf.size,inf.size with
   | true,s+1=>some (inf.bytes,s+1)
   | _,_=>none)
  | _,_=>none)
 | _=>none
def ztk (t:TypeId):Bool:=
 match P.underlying t with
 | some (.slice _)=>true
 | some .string=>true
 | _=>false
def isSl:AV→Bool
 | .nils=>true
 | .emp=>true
 | .sl _ _ _ _=>true
 | _=>false
def zix (H:Heap) (bytes sz need:Nat) (l:List AV):Option (AV×Heap):=
 match Nat.ble (Nat.mul need bytes) 35184372088832,Nat.ble (Nat.mul need sz) 35184372088832 with
 | true,true=>(match H with
  | ⟨m,nx,gw⟩=>some (.sl nx 0 need (.upto 0),Heap.alloc ⟨m,nx,gw⟩ (.cells (Vec.ofList l) sz nx none false true)))
 | _,_=>none
def extended (v:Vec) (off n:Nat) (new:List AV):Vec:=
 match Nat.beq off 0 with
 | true=>(match v with|⟨t,m,d⟩=>Vec.put ⟨t,Nat.add m new.length,d⟩ m new)
 | false=>Vec.ofList (v.list off n++new)
def ztD (H:Heap) (bytes sz n:Nat) (new:List AV) (b off len k:Nat):Option (AV×Heap):=
 match H.m.get b with
 | some (.cells v esz g none _ true)=>(match Nat.beq esz sz,Nat.beq off (Nat.mul k sz),zeo new with
  | true,true,true=>(match Nat.beq (Nat.add off (Nat.mul len sz)) v.n with
   | true=>(match Nat.ble (Nat.mul (Nat.add len n) bytes) 35184372088832,Nat.ble (Nat.mul (Nat.add len n) sz) 35184372088832 with
    | true,true=>(match H with
     | ⟨m,nx,gw⟩=>some (.sl nx 0 (Nat.add len n) (.upto 0),Heap.alloc (Heap.upd ⟨m,nx,gw⟩ b (.cells v sz g (some (Nat.succ nx)) true true)) (.cells (extended v off (Nat.mul len sz) new) sz g none true true)))
    | _,_=>none)
   | false=>(match Nat.ble (Nat.add off (Nat.mul (Nat.add len n) sz)) v.n with
    | true=>(match H.store b (Nat.add off (Nat.mul len sz)) new with
     | some H'=>some (.sl b off (Nat.add len n) (.upto k),H')
     | none=>none)
    | false=>none))
  | _,_,_=>none)
 | _=>none
def zKh (H:Heap) (bytes sz n:Nat) (new:List AV) (s:AV):Option (AV×Heap):=
 match s with
 | .nils=>zix H bytes sz n new
 | .sl b off len cap=>(match cap with
  | .known c=>(match Nat.ble (Nat.add len n) c with
   | true=>(match H.store b (Nat.add off (Nat.mul len sz)) new with
    | some H'=>some (.sl b off (Nat.add len n) (.known c),H')
    | none=>none)
   | false=>(match cellsA H sz len (.sl b off len (.known c)) with
    | some old=>zix H bytes sz (Nat.add len n) (old++new)
    | none=>none))
  | .upto k=>ztD H bytes sz n new b off len k)
 | _=>none
def ztC (H:Heap) (ts tx:TypeId) (s x:AV):Option (AV×Heap):=
 match ziu P ts,ztk P tx with
 | some (bytes,sz),true=>(match lenA x with
  | none=>none
  | some n=>(match cellsA H sz n x with
   | none=>none
   | some new=>(match n with
    | 0=>(match isSl s with|true=>some (s,H)|false=>none)
    | m+1=>zKh H bytes sz (Nat.succ m) new s)))
 | _,_=>none
def zwd (H:Heap) (sz c:Nat) (d s:AV):Option (AV×Heap):=
 match c with
 | 0=>(match isSl d with|true=>some (.int .i64 (.lit 0),H)|false=>none)
 | c+1=>(match cellsA H sz (Nat.succ c) s,d with
  | some l,.sl b off _ _=>(match H.store b off l with
   | some H'=>some (.int .i64 (.lit (.ofNat (Nat.succ c))),H')
   | none=>none)
  | _,_=>none)
def minN (m n:Nat):Nat:=match Nat.ble m n with|true=>m|false=>n
def zIw (H:Heap) (td:TypeId) (d s:AV):Option (AV×Heap):=
 match zgQ P td,lenA d,lenA s with
 | some sz,some n,some m=>zwd H sz (minN m n) d s
 | _,_,_=>none
def zwf (H:Heap) (t:TypeId) (x:AV):Option Heap:=
 match P.underlying t with
 | some (.slice e)=>(match x with
  | .nils=>some H
  | .emp=>some H
  | .sl b off len _=>(match len with
   | 0=>some H
   | n+1=>(match zg0 P e with
    | some z=>H.store b off (repL (Nat.succ n) z.cells)
    | none=>none))
  | _=>none)
 | _=>none
def zBX (H:Heap) (t:TypeId) (x:AV):Option Heap:=
 match mapOf P t with
 | none=>zwf P H t x
 | some _=>(match x with
  | .nilm=>some H
  | .map n=>(match H.mapAt n with
   | some (_,clock)=>some (H.upd n (.map [] clock))
   | none=>none)
  | _=>none)
def leftOf (seen:List Nat):List ME→List ME
 | [] => []
 | e::l=>match seen.any (Nat.beq e.born) with|true=>leftOf seen l|false=>e::leftOf seen l
def zkd (since:Nat):List ME→List ME
 | [] => []
 | e::l=>match Nat.blt e.born since with|true=>e::zkd since l|false=>zkd since l
def zk4 (since:Nat):List ME→List ME
 | [] => []
 | e::l=>match Nat.blt e.born since with|true=>zk4 since l|false=>e::zk4 since l
end
end Go.Dw
namespace Go.Dw
inductive zkS where
 | run (o:Oper)
 | chk (l:List Oper)
inductive Task where
 | code (c:Code) (p:List Nat) (N:Nat) (env:T AV) (H:Heap) (k:Ex→T AV→Heap→Ob)
 | ops (all:Array Oper) (l:List Oper) (N:Nat) (env:T AV) (H:Heap) (k:T AV→Heap→Ob)
 | call (f:FuncId) (args:List AV) (H:Heap) (k:AV→Heap→Ob)
 | app (t:TypeId) (s:AV) (n:Nat) (xs:List AV) (H:Heap) (k:AV→Heap→Ob)
inductive Cls where
 | light|alloc|heavy|defr
structure LitE where
 d:Nat
 cs:List AV
 v:AV
def zCk (e:Edge) (i:Nat):Bool:=match Region.binds .any e with|true=>Nat.beq e.on i|false=>false
def ztR (i:Nat):List Edge→Bool
 | [] => false
 | e::l=>match zCk e i with|true=>true|false=>ztR i l
def waits (o:Oper) (i:Nat):Bool:=ztR i o.after.toList
def zih (o:Oper):Nat→Bool
 | 0=>true
 | n+1=>match waits o n with|true=>zih o n|false=>false
def zBt (o:Oper):Option (TypeId×Nat):=
 match o.op,o.dst,o.guard with
 | .makeMap t none,some m,none=>some (t,m)
 | _,_,_=>none
def ztn (o:Oper):Option (TypeId×Array (Nat×Operand)×Nat):=
 match o.op,o.dst,o.guard with
 | .build t ps,some d,none=>some (t,ps,d)
 | _,_,_=>none
def znO (o:Oper):Option (TypeId×Nat×Nat×Value):=
 match o.op,o.dst,o.guard with
 | .insert t (.tmp m) (.tmp d) (.const v),none,none=>some (t,m,d,v)
 | _,_,_=>none
def isMv (o:Oper):Option (Nat×Nat):=
 match o.op,o.dst,o.guard with
 | .move (.tmp s),some d,none=>some (s,d)
 | .assign (.tmp s),some d,none=>some (s,d)
 | _,_,_=>none
def zn2:List (Nat×Operand)→Bool
 | [] => true
 | p::l=>match p.2 with| .const _=>zn2 l|_=>false
def zCs (a b c d e f:Bool):Bool:=match a,b,c,d,e,f with|true,true,true,true,true,true=>true|_,_,_,_,_,_=>false
def zgu:List Nat→Bool
 | [] => true
 | n::l=>match l.any (Nat.beq n) with|true=>false|false=>zgu l
def zbb:List LitE→List (Option (Nat×AV))→List (Option (Nat×AV))
 | [], r=>r
 | e::l,r=>some (e.d,.agg e.cs)::none::zbb l r
def zaZ (nx m dm da:Nat) (es:List LitE):List (Option (Nat×AV)):=
 some (m,.map nx)::zbb es [some (dm,.map nx),some (da,.map nx)]
def dstsOf:List (Option (Nat×AV))→List Nat
 | [] => []
 | some p::l=>p.1::dstsOf l
 | none::l=>dstsOf l
def zkW (env:T AV):List (Option (Nat×AV))→T AV
 | [] => env
 | some p::l=>zkW (env.set p.1 p.2) l
 | none::l=>zkW env l
def zki:List LitE→List ME
 | [] => []
 | e::l=>⟨.agg e.cs,e.v,0⟩::zki l
structure LitR where
 m:Nat
 dm:Nat
 da:Nat
 es:List LitE
def zhs (o:Op):Cls:=
 match o with
 | .alloc _| .box _ _| .buildSlice _ _ _| .makeMap _ _| .makeSlice _ _ _=> .alloc
 | .store _ _ _| .mapUpdate _ _ _ _| .insert _ _ _ _| .mapEntry _ _ _| .entryStore _ _ _ _| .range _ _| .next _ _=> .heavy
 | .call c=>match c.callee with
  | .builtin .len| .builtin .cap| .builtin .min| .builtin .max=> .light
  | _=> .heavy
 | .defer _=> .defr
 | _=> .light
def zbB (ms:List Nat):List Edge→Nat
 | [] => 0
 | e::l=>match Region.binds .any e with
  | true=>Nat.lor (Nat.lor (2^e.on) (ms.getD e.on 0)) (zbB ms l)
  | false=>zbB ms l
def zcp:List Oper→List Nat→List Nat
 | [], ms=>ms
 | o::l,ms=>zcp l (ms++ [zbB ms o.after.toList])
def zd9 (l:List Oper):List Nat:=zcp l []
def zbr (o:Oper):Bool:=match zhs o.op with| .heavy=>true| .defr=>true|_=>false
def zks (o:Oper):Bool:=match zhs o.op with| .defr=>true|_=>false
def zkr (o:Oper):Bool:=match zhs o.op with| .light=>true|_=>false
structure PO where
 o:Oper
 i:Nat
 m:Nat
 s:Nat
def zct (m:Nat):List Nat→Nat→Nat→Nat
 | [], _,acc=>acc
 | h::l,t,acc=>match m.testBit h with
  | true=>zct m l (Nat.succ t) (Nat.succ t)
  | false=>zct m l (Nat.succ t) acc
def zcO:List Oper→Nat→List Nat
 | [], _=> []
 | o::l,i=>match zbr o with
  | true=>i::zcO l (Nat.succ i)
  | false=>zcO l (Nat.succ i)
def posOf (hs:List Nat):List Oper→List Nat→Nat→List PO
 | o::l,m::ms,i=>⟨o,i,m,zct m hs 0 0⟩::posOf hs l ms (Nat.succ i)
 | _,_,_=> []
def chained (ms:List Nat):List Nat→Bool
 | [] => true
 | h::l=>match l with
  | [] => true
  | h'::_=>match (ms.getD h' 0).testBit h with|true=>chained ms l|false=>false
def zkB:List PO→Bool
 | [] => true
 | p::l=>match p.o.after.toList.all (fun e=>match Region.binds .any e with|true=>Nat.blt e.on p.i|false=>true) with
  | true=>zkB l
  | false=>false
def looks (ops:Array Oper) (o:Oper):List Tmp:=
 o.op.operands.toList.filterMap (fun x=>match x with| .tmp t=>some t|_=>none)++(match o.guard with
  | some (g,_)=>(match ops[g]? with|some q=>(match q.dst with|some t=> [t]|none=> [])|none=> [])
  | none=> [])
def zzu (ops:Array Oper) (all:List PO) (p:PO):Bool:=
 all.all fun q=>match q.o.dst with
  | none=>true
  | some t=>match (looks ops p.o).any (Nat.beq t),p.m.testBit q.i||q.m.testBit p.i with
   | true,false=>false
   | _,_=>match Nat.beq p.i q.i,p.o.dst with
    | false,some u=>(match Nat.beq t u with|true=>false|false=>true)
    | _,_=>true
def zi7 (s:Nat):List PO→List zkS
 | [] => []
 | p::l=>match zbr p.o,Nat.beq p.s s with
  | false,true=> .run p.o::zi7 s l
  | _,_=>zi7 s l
def zdm (s hm:Nat):List PO→List PO
 | [] => []
 | p::l=>match zkr p.o,Nat.ble p.s s,hm.testBit p.i with
  | true,true,false=>p::zdm s hm l
  | _,_,_=>zdm s hm l
def zkc:List PO→List Oper
 | [] => []
 | p::l=>p.o::zkc l
def zeC (s hm:Nat) (l:List PO):List Oper:=zkc (zdm s hm l)
def znu (ops:Array Oper) (all:List PO) (s:Nat) (p:PO):Bool:=
 all.all fun q=>match q.o.dst with
  | none=>true
  | some t=>match (looks ops p.o).any (Nat.beq t),p.m.testBit q.i||Nat.blt s q.s with
   | true,false=>false
   | _,_=>true
def zeB (ops:Array Oper) (all:List PO):Nat→List PO→Bool
 | _,[]=>true
 | s,h::rest=>match (zdm s h.m all).all (znu ops all s) with
  | true=>zeB ops all (Nat.succ s) rest
  | false=>false
def zdn (all:List PO):Nat→List PO→List zkS
 | s,[]=>zi7 s all
 | s,h::rest=>zi7 s all++ .run h.o:: .chk (zeC s h.m all)::zdn all (Nat.succ s) rest
def zAo (ops:Array Oper):Option (List zkS):=
 let ms:=zd9 ops.toList
 let hs:=zcO ops.toList 0
 let all:=posOf hs ops.toList ms 0
 let hp:=all.filter fun p=>zbr p.o
 match chained ms hs&&zkB all&&all.all (zzu ops all)&& !(ops.toList.any zks)&&zeB ops all 0 hp with
 | true=>some (zdn all 0 hp)
 | false=>none
section
variable (P:Program)
def zfi (t kt m:Nat):Nat→List Oper→Option (List LitE×List Oper)
 | i,o1::o2::rest=>(match ztn o1,znO o2 with
  | some (bt,ps,d),some (t',m',d',V)=>(match zCs (Nat.beq bt kt) (Nat.beq t' t) (Nat.beq m' m) (Nat.beq d' d) (waits o2 0) (waits o2 i),zn2 ps.toList,zgV P .leaf bt ps.toList,ofValue V,zfi t kt m (Nat.succ (Nat.succ i)) rest with
   | true,true,some (.agg cs),some v,some (l,r)=>some (⟨d,cs,v⟩::l,r)
   | _,_,_,_,_=>none)
  | _,_=>some ([],o1::o2::rest))
 | _,l=>some ([],l)
def zdR (H:Heap) (kt:TypeId) (e:LitE):List LitE→Bool
 | [] => true
 | f::l=>match Nat.beq e.d f.d,eqA P H 8 kt (.agg e.cs) (.agg f.cs) with
  | true,_=>zdR H kt e l
  | false,some (.lit false)=>zdR H kt e l
  | _,_=>false
def zvI (H:Heap) (kt e:TypeId) (s len:Nat) (all:List LitE):List LitE→Bool
 | [] => true
 | x::l=>match zdR P H kt x all,zdv P e s x.cs len 0 with
  | true,true=>zvI H kt e s len all l
  | _,_=>false
def znW:Nat→List Oper→Bool
 | _,[]=>true
 | i,o::l=>match o.after.toList.all (fun e=>match Region.binds .any e with|true=>Nat.blt e.on i|false=>true) with|true=>znW (Nat.succ i) l|false=>false
def zEf (N:Nat) (H:Heap) (ops:List Oper):Option LitR:=
 match ops with
 | [] => none
 | o::rest=>match zBt o with
  | none=>none
  | some (t,m)=>match P.underlying t with
   | some (.map kt _)=>(match zvM P kt with
    | some (len,e)=>(match szOf P e,zfi P t kt m 1 rest with
     | some s,some (es,[mv,ma])=>(match isMv mv,isMv ma with
      | some (s1,dm),some (s2,da)=>(match zCs (Nat.beq s1 m) (Nat.beq s2 dm) (zih mv (Nat.succ (Nat.mul 2 es.length))) (waits ma (Nat.succ (Nat.mul 2 es.length))) (zgu (dstsOf (zaZ 0 m dm da es))) ((dstsOf (zaZ 0 m dm da es)).all fun d=>Nat.blt d N),zvI P H kt e s len es es,znW 0 ops with
       | true,true,true=>some ⟨m,dm,da,es⟩
       | _,_,_=>none)
      | _,_=>none)
     | _,_=>none)
    | none=>none)
   | _=>none
inductive G where
 | yes|no
 | test (t:Nat) (b:SB) (want:Bool)
 | none
def zcJ (all:Array Oper) (env:T AV) (o:Oper):G:=
 match o.guard with
 | none=> .yes
 | some (j,want)=>match all[j]? with
  | none=> .no
  | some oj=>match oj.dst with
   | none=> .no
   | some t=>match env.get t with
    | none=> .no
    | some (.bool (.lit true))=>(match want with|true=> .yes|false=> .no)
    | some (.bool (.lit false))=>(match want with|true=> .no|false=> .yes)
    | some (.bool b)=> .test t b want
    | some (.tup [])=> .no
    | some (.nun _ _)=> .no
    | _=> .none
def zs5 (t:TypeId) (name:String):Option FuncId:=
 match P.info? t with
 | none=>none
 | some i=>match i.methods.find? (·.name==name) with
  | none=>none
  | some m=>match m.path.toList,m.func,P.underlying t with
   | [], some (f,true),some (.pointer _)=>some f
   | [], some (_,false),some (.pointer _)=>none
   | [], some (f,false),some _=>some f
   | _,_,_=>none
def zd2 (H:Heap) (env:T AV):List ResultVar→Option (List AV)
 | [] => some []
 | .tmp t::l=>match opd env (.tmp t),zd2 H env l with
  | some v,some m=>some (v::m)
  | _,_=>none
 | .cell a t::l=>match light P (.load t (.tmp a)) env H,zd2 H env l with
  | some v,some m=>some (v::m)
  | _,_=>none
def zso (fn:Func) (H:Heap) (env:T AV):Option AV:=
 match zd2 P H env fn.results.toList with
 | some [v]=>some v
 | some l=>some (.tup l)
 | none=>none
def zrq:List AV→Nat→T AV→T AV
 | [], _,env=>env
 | a::l,i,env=>zrq l (Nat.succ i) (env.set i a)
def zEb (H:Heap) (x:AV):Option (List (AV×Heap)):=
 match x with
 | .ptr n 0=>match H.m.get n with
  | some (.iter none _ _ _)=>some [(.tup [.bool (.lit false)],H)]
  | some (.iter (some m) since seen stepped)=>match H.mapAt m with
   | none=>none
   | some (es,clock)=>
    match (match seen,es with| [],_=>false|_,[]=>false|_,es=>es.all fun e=>Nat.ble stepped e.born) with
    | true=>none
    | false=>
     let left:=leftOf seen es
     let old:=zkd since left
     let new:=zk4 since left
     let ways:=(old++new).map fun e=>((.tup [.bool (.lit true),e.key,e.val]:AV),H.upd n (.iter (some m) since (seen++ [e.born]) clock))
     some (match old with
      | [] => (.tup [.bool (.lit false)],H)::ways
      | _::_=>ways)
  | _=>none
 | _=>none
def zkv (k:AV→Heap→Ob):List (AV×Heap)→Ob
  | [] => .bad 90 "no way"
  | [(v,H)]=>k v H
  | l=> .all (l.map fun x=>k x.1 x.2)
abbrev K:=AV→Heap→Ob
abbrev D:=T AV→Heap→K→Ob
def dNo : D := fun _ _ _ => .bad 29 ""
def okH (k:K):Option Heap→Ob
  | some H=>k zbR H
  | none => .bad 3 ""
def okVH (k:K):Option (AV×Heap)→Ob
  | some (v,H)=>k v H
  | none => .bad 4 ""
def zv8 (t:TypeId) (a v:Operand):D:=fun env H k=>
  match opd env a,opd env v with
  | some (.ptr n off),some x=>okH k (zFh P H t n off x)
  | _, _ => .bad 5 ""
def zhr (t:TypeId) (m kk v:Operand):D:=fun env H k=>
  match opd env m,opd env kk,opd env v with
  | some m,some kk,some v=>okH k (znA P H t m kk v)
  | _, _, _ => .bad 6 ""
def zgS (t:TypeId) (m kk:Operand):D:=fun env H k=>
  match opd env m,opd env kk with
  | some m,some kk=>okVH k (zqR P H t m kk)
  | _, _ => .bad 9 ""
def zem (_:TypeId) (m s v:Operand):D:=fun env H k=>
  match opd env m,opd env s,opd env v with
  | some m,some s,some v=>okH k (zkz H m s v)
  | _, _, _ => .bad 11 ""
def zv9 (t:TypeId) (x:Operand):D:=fun env H k=>
  match P.underlying t,opd env x,H with
  | some (.map _ _),some .nilm,⟨_,nx,_⟩=>k (.ptr nx 0) (H.alloc (.iter none 0 [] 0))
  | some (.map _ _),some (.map m),⟨_,nx,_⟩=>match H.mapAt m with
    | some (_,clock)=>k (.ptr nx 0) (H.alloc (.iter (some m) clock [] clock))
    | none => .bad 13 ""
  | _, _, _ => .bad 14 ""
def zEv (x:Operand) (str:Bool):D:=fun env H k=>
  match str,opd env x with
  | false,some x=>match zEb H x with
    | some l=>zkv k l
    | none => .bad 15 ""
  | _, _ => .bad 16 ""
def zwb (rec:Task→Ob) (f:Operand) (args:List Operand):D:=fun env H k=>
  match opd env f,opds env args with
  | some (.func g first cap),some args=>match first,cap with
    | [], [] => rec (.call g args H k)
    | _,_=>rec (.call g (first++(args++cap)) H k)
  | _, _ => .bad 17 ""
def zwc (rec:Task→Ob) (r:Operand) (name:String) (args:List Operand):D:=fun env H k=>
  match opd env r,opds env args with
  | some (.iface t v),some args=>match zs5 P t name with
    | some g=>rec (.call g (v::args) H k)
    | none => .bad 18 ""
  | _, _ => .bad 19 ""
def appX (rec:Task→Ob) (ts tx:TypeId) (rest:List TypeId) (s x:AV) (H:Heap) (k:K):Ob:=
  match rest,Nat.beq tx ts,ziu P ts,x with
  | [], true,some (_,sz),.sl b off len _=>(match H.row b with
    | some v=>(match Nat.ble (Nat.add off (Nat.mul len sz)) v.n with
      | true=>rec (.app ts s len (v.list off (Nat.mul len sz)) H k)
      | false => .bad 4 "")
    | none => .bad 4 "")
  | _, _, _, _ => .bad 4 ""
def zn0 (rec:Task→Ob) (ts:List TypeId) (args:List Operand):D:=fun env H k=>
  match ts,opds env args with
  | ts::tx::rest,some [s,x]=>(match ztC P H ts tx s x with
    | some q=>k q.1 q.2
    | none=>appX P rec ts tx rest s x H k)
  | _, _ => .bad 21 ""
def zEw (ts:List TypeId) (args:List Operand):D:=fun env H k=>
  match ts,opds env args with
  | td::_,some [d,s]=>okVH k (zIw P H td d s)
  | _, _ => .bad 23 ""
def znZ (ts:List TypeId) (args:List Operand):D:=fun env H k=>
  match ts,opds env args with
  | t::_,some [m,kk]=>okH k (zta P H t m kk)
  | _, _ => .bad 25 ""
def zwa (ts:List TypeId) (args:List Operand):D:=fun env H k=>
  match ts,opds env args with
  | t::_,some [x]=>okH k (zBX P H t x)
  | _, _ => .bad 27 ""
def ziw (rec:Task→Ob) (b:Builtin) (c:Call):D:=
 match b with
 | .append=>zn0 P rec c.argTypes.toList c.args.toList
 | .copy=>zEw P c.argTypes.toList c.args.toList
 | .delete=>znZ P c.argTypes.toList c.args.toList
 | .clear=>zwa P c.argTypes.toList c.args.toList
 | _=>dNo
def zIu (rec:Task→Ob) (c:Call):D:=
 match c.callee with
 | .value f=>zwb rec f c.args.toList
 | .invoke r name=>zwc P rec r name c.args.toList
 | .builtin b=>ziw P rec b c
def heavy (rec:Task→Ob) (o:Op):D:=
 Op.casesOn (motive:=fun _=>D) o (fun _=>dNo) (fun _=>dNo) (fun _ _ _=>dNo) (fun _=>dNo) (fun _ _=>dNo) (fun _ _=>dNo) (fun _ _ _=>dNo) (zhr P) (fun _ _=>dNo)
  (zv8 P) (fun _=>dNo) (fun _=>dNo) (fun _=>dNo) (fun _ _ _ _ _=>dNo) (fun _ _ _=>dNo) (fun _ _ _=>dNo) (fun _ _=>dNo) (fun _ _=>dNo) (fun _ _ _=>dNo) (fun _ _=>dNo) (fun _ _=>dNo)
  (fun _ _ _=>dNo) (fun _ _ _ _ _=>dNo) (fun _ _ _=>dNo) (fun _ _ _=>dNo) (fun _ _ _=>dNo) (fun _ _ _=>dNo) (fun _ _ _ _=>dNo) (zhr P) (zgS P) (zem)
  (zv9 P) zEv (fun _=>dNo) (fun _ _ _ _=>dNo) (fun _ _=>dNo) (zIu P rec) (fun _=>dNo) (fun _=>dNo) (fun _=>dNo) (fun _ _=>dNo) (fun _ _ _=>dNo) (fun _ _=>dNo)
def okL (o:Oper) (H:Heap) (k:K):Option AV→Ob
 | some v=>k v H
 | none=> .bad 1 o.pos
def okA (o:Oper) (H:Heap) (k:K):Option (AV×Obj)→Ob
 | some (v,ob)=>k v (H.alloc ob)
 | none=> .bad 2 o.pos
abbrev K3:=T AV→AV→Heap→Ob
abbrev D3:=T AV→Heap→K3→Ob
def zIm (_:Task→Ob) (o:Oper):D3:=fun env H k=>okL o H (k env) (light P o.op env H)
def zIo (_:Task→Ob) (o:Oper):D3:=fun env H k=>match H with|⟨m,nx,gw⟩=>okA o ⟨m,nx,gw⟩ (k env) (zdj P o.op env nx)
def zIn (rec:Task→Ob) (o:Oper):D3:=fun env H k=>heavy P rec o.op env H (k env)
def ztx (_:Task→Ob) (o:Oper):D3:=fun env H k=>
 match o.op with
 | .defer c=>match c.callee with
  | .value f=>match opd env f,opds env c.args.toList with
   | some (.func g first cap),some args=>k (env.set zaP (.tup [.func g [] (first++(args++cap)),match env.get zaP with|some v=>v|none=>zbR])) zbR H
   | _,_=> .bad 60 o.pos
  | _=> .bad 61 o.pos
 | _=> .bad 62 o.pos
def doOp (rec:Task→Ob) (o:Oper):D3:=
 Cls.casesOn (motive:=fun _=>(Task→Ob)→Oper→D3) (zhs o.op) (zIm P) (zIo P) (zIn P) ztx rec o
def putA (dst:Option Tmp) (N:Nat) (env:T AV) (v:AV) (k:T AV→Ob):Ob:=
  match dst with
  | none=>k env
  | some d=>match Nat.blt d N with
    | true=>k (env.set d v)
    | false => .bad 30 ""
def zf1 (c:SB):List (SB×Bool)→Option Bool
 | [] => none
 | p::l=>match SB.eqv c p.1 with|true=>some p.2|false=>zf1 c l
def zgM (fs:List (SB×Bool)) (all:Array Oper) (env:T AV) (o:Oper):G:=
 match zcJ all env o with
 | .test t b want=>(match zf1 b fs with
  | some true=>(match want with|true=> .yes|false=> .no)
  | some false=>(match want with|true=> .no|false=> .yes)
  | none=> .test t b want)
 | g=>g
def zHV (all:Array Oper) (env:T AV) (o:Oper):AV:=
 match zcJ all env o with
 | .test _ b want=> .nun b want
 | _=>zbR
def chkA (fs:List (SB×Bool)) (all:Array Oper) (env:T AV) (H:Heap):List Oper→Bool
 | [] => true
 | o::l=>match zgM fs all env o with
  | .no=>chkA fs all env H l
  | .yes=>match light P o.op env H,o.dst with
   | some v,some d=>match env.get d with
    | some u=>match AV.beq v u with|true=>chkA fs all env H l|false=>false
    | none=>false
   | some _,none=>chkA fs all env H l
   | none,_=>false
  | _=>false
def zp1 (rec:Task→Ob) (o:Oper) (N:Nat) (kk:T AV→Heap→Ob) (env:T AV) (H:Heap) (b:Bool) (z:AV):Ob:=
 match b with
 | true=>doOp P rec o env H fun env v H=>putA o.dst N env v fun env'=>kk env' H
 | false=>putA o.dst N env z fun env'=>kk env' H
def za9 (rec:Task→Ob) (all:Array Oper) (N:Nat) (k:T AV→Heap→Ob):List zkS→List (SB×Bool)→T AV→Heap→Ob
  | [], _,env,H=>k env H
  | .run o::rest,fs,env,H=>(match zgM fs all env o with
    | .yes=>zp1 P rec o N (za9 rec all N k rest fs) env H true zbR
    | .no=>zp1 P rec o N (za9 rec all N k rest fs) env H false (zHV all env o)
    | .test _ b want=> .ite b (zp1 P rec o N (za9 rec all N k rest ((b,true)::fs)) env H want (.nun b want)) (zp1 P rec o N (za9 rec all N k rest ((b,false)::fs)) env H (match want with|true=>false|false=>true) (.nun b want))
    | .none=> .bad 47 o.pos)
  | .chk os::rest,fs,env,H=>(match chkA P fs all env H os with
    | true=>za9 rec all N k rest fs env H
    | false => .bad 48 (match os with | o :: _ => o.pos | [] => ""))
abbrev KC:=Ex→T AV→Heap→Ob
abbrev SC:=(Task→Ob)→List Nat→Nat→T AV→Heap→KC→Ob
def sNo : SC := fun _ _ _ _ _ _ => .bad 43 "a statement"
def zJl:SC:=fun _ _ _ env H k=>k .normal env H
def zsg (_:Nat) (ops:Array Oper) (draw:Bool):SC:=fun rec _ N env H k=>
  match draw with
  | false=>rec (.ops ops ops.toList N env H (k .normal))
  | true=>match zAo ops with
    | some l=>za9 P rec ops N (k .normal) l [] env H
    | none=>match zEf P N H ops.toList with
      | some r=>(match H with|⟨hm,nx,gw⟩=>k .normal (zkW env (zaZ nx r.m r.dm r.da r.es)) (Heap.alloc ⟨hm,nx,gw⟩ (.mapu (zki r.es))))
      | none => .bad 40 "a region without a plan"
def zCL (rec:Task→Ob) (b:Code) (p:List Nat) (N:Nat) (k:KC):KC:=fun e env H=>
 Ex.casesOn e (rec (.code b p N env H k)) (fun id=>k (.exit id) env H) (k .ret env H)
def sSeq (a b:Code):SC:=fun rec p N env H k=>rec (.code a (0::p) N env H (zCL rec b (1::p) N k))
def zJo (c:Operand) (a b:Code):SC:=fun rec p N env H k=>
  match opd env c with
  | some (.bool s)=>match s with
    | .lit true=>rec (.code a (0::p) N env H k)
    | .lit false=>rec (.code b (1::p) N env H k)
    | s=>match c with
      | .tmp t=>match Nat.blt t N with
        | true=> .ite s (rec (.code a (0::p) N (env.set t (.bool (.lit true))) H k)) (rec (.code b (1::p) N (env.set t (.bool (.lit false))) H k))
        | false => .bad 41 ""
      | _ => .bad 41 ""
  | _ => .bad 42 "a test"
def zF4 (id:Nat) (k:KC):KC:=fun e env H=>
 match e with
 | .exit id'=>match Nat.beq id' id with
  | true=>k .normal env H
  | false=>k (.exit id') env H
 | e=>k e env H
def zJp (id:Nat) (c:Code):SC:=fun rec p N env H k=>rec (.code c (0::p) N env H (zF4 id k))
abbrev LAns:=List (SB×Ex×T AV×Heap)
abbrev LOrc:=List Nat→Nat→T AV→Heap→Option LAns
def noL:LOrc:=fun _ _ _ _=>none
abbrev AOrc:=TypeId→AV→Nat→List AV→Heap→Option (AV×Heap)
def noA:AOrc:=fun _ _ _ _ _=>none
def zBH (k:KC):LAns→Ob
  | [] => .bad 91 "no end"
  | (b,x,env,H)::l=>match b with
    | .lit true=>k x env H
    | b=> .ite b (k x env H) (zBH k l)
def zfh:List Nat→List Nat
 | 2::i::q=>i::q
 | p=>p
def zDa (lorc:LOrc) (c:Code):SC:=fun rec p N env H k=>
 match lorc p N env H with
 | some l=>zBH k l
 | none=>rec (.code c (0::zfh p) N env H (zCL rec (.loop c) (2::zfh p) N k))
def zJm (lorc:LOrc) (a b:Code):SC:=fun rec p N env H k=>
 match lorc p N env H with
 | some l=>zBH k l
 | none=>sSeq a b rec p N env H k
def zKm (id:Nat):SC:=fun _ _ _ env H k=>k (.exit id) env H
def zJn (_:Nat):SC:=zJl
def sRet:SC:=fun _ _ _ env H k=>k .ret env H
def znc (lorc:LOrc) (rec:Task→Ob) (c:Code) (p:List Nat) (N:Nat) (env:T AV) (H:Heap) (k:KC):Ob:=
 Code.casesOn (motive:=fun _=>SC) c zJl (zsg P) (zJm lorc) zJo zJp (zDa lorc) (fun _ _ _ _=>sNo) zKm (fun _=>sNo) zJn (fun _=>sNo) sRet (fun _=>sNo) rec p N env H k
def opsK (rec:Task→Ob) (all:Array Oper) (rest:List Oper) (N:Nat) (k:T AV→Heap→Ob) (o:Oper):K3:=fun env v H=>
 putA o.dst N env v fun env'=>rec (.ops all rest N env' H k)
def zr5 (rec:Task→Ob) (all:Array Oper) (l:List Oper) (N:Nat) (env:T AV) (H:Heap) (k:T AV→Heap→Ob):Ob:=
  match l with
  | [] => k env H
  | o::rest=>match zcJ all env o with
    | .yes=>doOp P rec o env H (opsK rec all rest N k o)
    | .no=>putA o.dst N env zbR fun env'=>rec (.ops all rest N env' H k)
    | .test t b _=>match Nat.blt t N with
      | true=> .ite b (rec (.ops all l N (env.set t (.bool (.lit true))) H k)) (rec (.ops all l N (env.set t (.bool (.lit false))) H k))
      | false => .bad 44 ""
    | .none=> .bad 45 o.pos
def zm6 (f:FuncId):Option (Func×Code):=
  match P.funcs[f]? with
  | none=>none
  | some fn=>match fn.body with
    | none=>none
    | some c => if fn.name = "runtime.NumGoroutine" then none else some (fn, c)
def leave (fn:Func) (env:T AV) (k:K):Heap→Ob:=fun H=>
 match zso P fn H env with
 | some v=>k v H
 | none=> .bad 54 fn.name
def zJ6 (fn:Func) (k:K):KC:=fun e env H=>
 match e with
 | .exit _=> .bad 56 fn.name
 | _=>match env.get zaP with
  | none=>leave P fn env k H
  | some _=> .bad 57 fn.name
def zdG (rec:Task→Ob) (fin:Heap→Ob):Nat→AV→Heap→Ob
  | 0, _, _ => .bad 70 ""
  | n+1,d,H=>match d with
    | .tup []=>fin H
    | .tup [.func g [] args,rest]=>(match zm6 P g with
      | none => .bad 72 ""
      | some (fn,c)=>(match Nat.ble args.length fn.ntmps&&Nat.ble fn.ntmps zaP with
        | true=>rec (.code c [g] fn.ntmps (zrq args 0 .leaf) H (zJ6 P fn fun _ H'=>zdG rec fin n rest H'))
        | false=> .bad 73 fn.name))
    | _ => .bad 71 ""
def zKu (rec:Task→Ob) (fn:Func) (k:K):KC:=fun e env H=>
 match e with
 | .exit _=> .bad 53 fn.name
 | _=>match env.get zaP with
  | none=>leave P fn env k H
  | some d=>zdG P rec (leave P fn env k) 8 d H
def znd (orc:FuncId→List AV→Heap→Option (List (AV×Heap))) (rec:Task→Ob) (f:FuncId) (args:List AV) (H:Heap) (k:K):Ob:=
  match orc f args H with
  | some l=>zkv k l
  | none=>match zm6 P f with
    | none => .bad 50 ""
    | some (fn,c)=>match Nat.ble args.length fn.ntmps&&Nat.ble fn.ntmps zaP with
      | true=>rec (.code c [f] fn.ntmps (zrq args 0 .leaf) H (zKu P rec fn k))
      | false=> .bad 55 fn.name
def zr6 (aorc:AOrc) (t:TypeId) (s:AV) (n:Nat) (xs:List AV) (H:Heap) (k:K):Ob:=
  match aorc t s n xs H with
  | some q=>k q.1 q.2
  | none => .bad 4 "append"
def step (orc:FuncId→List AV→Heap→Option (List (AV×Heap))) (lorc:LOrc) (aorc:AOrc) (rec:Task→Ob) (t:Task):Ob:=
 Task.casesOn (motive:=fun _=>Ob) t (znc P lorc rec) (zr5 P rec) (znd P orc rec) (zr6 aorc)
noncomputable def evL (orc:FuncId→List AV→Heap→Option (List (AV×Heap))) (lorc:LOrc) (aorc:AOrc) (n:Nat):Task→Ob:=
  Nat.rec (motive := fun _ => Task → Ob) (fun _ => .bad 0 "no fuel") (fun _ ih => step P orc lorc aorc ih) n
noncomputable def ev (orc:FuncId→List AV→Heap→Option (List (AV×Heap))) (n:Nat):Task→Ob:=evL P orc noL noA n
def zCW (i:Nat):Code→Code
 | .seq a b=>(match i with|0=>a|1=>b|_=> .skip)
 | .cond _ a b=>(match i with|0=>a|1=>b|_=> .skip)
 | .block _ c=>(match i with|0=>c|_=> .skip)
 | .loop c=>(match i with|0=>c|2=> .loop c|_=> .skip)
 | _=> .skip
def zaK:List Nat→Code
 | [] => .skip
 | i::p=>match p with
  | [] => (match zm6 P i with|some (_,c)=>c|none=> .skip)
  | _::_=>zCW i (zaK p)
def heap0:Heap:=⟨.leaf,1,.leaf⟩
def isTrue (v:AV) (_:Heap):Ob:=
  match v with
  | .bool (.lit true)=> .ok
  | .bool (.lit false) => .bad 99 "false"
  | .bool b => .ite b .ok (.bad 98 "false")
  | _ => .bad 97 "no bool"
def zxE:FuncId→List AV→Heap→Option (List (AV×Heap)):=fun _ _ _=>none
end
end Go.Dw
namespace Go.Dw
namespace T
variable {α:Type}
theorem zcW (n:Nat):(leaf:T α).get n=none:=rfl
theorem zfn (l:T α) (v:Option α) (r:T α):(node l v r).get 0=v:=rfl
theorem zcV (l:T α) (v:Option α) (r:T α) (m:Nat):
  (node l v r).get (m+1)=if m%2=0 then l.get (m/2) else r.get (m/2):=by
 show Nat.casesOn (motive:=fun _=>Option α) (Nat.mod m 2) (l.get (Nat.div m 2)) (fun _=>r.get (Nat.div m 2))=_
 have h:Nat.mod m 2=m%2:=rfl
 have h2:Nat.div m 2=m/2:=rfl
 rw [h,h2]
 cases e:m%2 with
 | zero=>rw [if_pos rfl];rfl
 | succ k=>rw [if_neg (by omega)]
theorem zFT (v:Option α) (r l:T α):mkL v r l=node l v r:=by cases l<;>rfl
theorem zFS (v:Option α) (l r:T α):mkR v l r=node l v r:=by cases r<;>rfl
theorem zkZ (f:Nat) (x:α):setF (f+1) leaf 0 x=node leaf (some x) leaf:=rfl
theorem zkX (f:Nat) (l:T α) (v:Option α) (r:T α) (x:α):setF (f+1) (node l v r) 0 x=node l (some x) r:=rfl
theorem zk0 (f m:Nat) (x:α):setF (f+1) (leaf:T α) (m+1) x=
  if m%2=0 then node (setF f leaf (m/2) x) none leaf else node leaf none (setF f leaf (m/2) x):=by
 show Nat.casesOn (motive:=fun _=>T α) (Nat.mod m 2) (mkL none leaf (setF f leaf (Nat.div m 2) x)) (fun _=>mkR none leaf (setF f leaf (Nat.div m 2) x))=_
 have h:Nat.mod m 2=m%2:=rfl
 have h2:Nat.div m 2=m/2:=rfl
 rw [h,h2]
 cases e:m%2 with
 | zero=>rw [if_pos rfl];exact zFT _ _ _
 | succ k=>rw [if_neg (by omega)];exact zFS _ _ _
theorem zkY (f m:Nat) (l:T α) (v:Option α) (r:T α) (x:α):setF (f+1) (node l v r) (m+1) x=
  if m%2=0 then node (setF f l (m/2) x) v r else node l v (setF f r (m/2) x):=by
 show Nat.casesOn (motive:=fun _=>T α) (Nat.mod m 2) (mkL v r (setF f l (Nat.div m 2) x)) (fun _=>mkR v l (setF f r (Nat.div m 2) x))=_
 have h:Nat.mod m 2=m%2:=rfl
 have h2:Nat.div m 2=m/2:=rfl
 rw [h,h2]
 cases e:m%2 with
 | zero=>rw [if_pos rfl];exact zFT _ _ _
 | succ k=>rw [if_neg (by omega)];exact zFS _ _ _
theorem zEm: ∀(f:Nat) (t:T α) (n m:Nat) (x:α),n<f→(setF f t n x).get m=if m=n then some x else t.get m:=by
 intro f
 induction f with
 | zero=>intro t n m x h;omega
 | succ f ih=>
  intro t n m x h
  cases n with
  | zero=>
   cases t with
   | leaf=>
    rw [zkZ]
    cases m with
    | zero=>rfl
    | succ m=>rw [zcV];simp [zcW]
   | node l v r=>
    rw [zkX]
    cases m with
    | zero=>rfl
    | succ m=>rw [zcV,zcV];simp
  | succ n=>
   have hn:n/2<f:=by omega
   cases t with
   | leaf=>
    rw [zk0]
    by_cases hp:n%2=0
    ·rw [if_pos hp]
     cases m with
     | zero=>rw [zfn];simp [zcW]
     | succ m=>
      rw [zcV,zcW,zcW,ih _ _ _ _ hn,zcW]
      by_cases hm:m%2=0
      ·rw [if_pos hm]
       by_cases e:m/2=n/2
       ·rw [if_pos e,if_pos (by omega)]
       ·rw [if_neg e,if_neg (by omega)]
      ·rw [if_neg hm,if_neg (by omega)]
    ·rw [if_neg hp]
     cases m with
     | zero=>rw [zfn];simp [zcW]
     | succ m=>
      rw [zcV,zcW,zcW,ih _ _ _ _ hn,zcW]
      by_cases hm:m%2=0
      ·rw [if_pos hm,if_neg (by omega)]
      ·rw [if_neg hm]
       by_cases e:m/2=n/2
       ·rw [if_pos e,if_pos (by omega)]
       ·rw [if_neg e,if_neg (by omega)]
   | node l v r=>
    rw [zkY]
    by_cases hp:n%2=0
    ·rw [if_pos hp]
     cases m with
     | zero=>rw [zfn,zfn];simp
     | succ m=>
      rw [zcV,zcV,ih _ _ _ _ hn]
      by_cases hm:m%2=0
      ·rw [if_pos hm,if_pos hm]
       by_cases e:m/2=n/2
       ·rw [if_pos e,if_pos (by omega)]
       ·rw [if_neg e,if_neg (by omega)]
      ·rw [if_neg hm,if_neg hm,if_neg (by omega)]
    ·rw [if_neg hp]
     cases m with
     | zero=>rw [zfn,zfn];simp
     | succ m=>
      rw [zcV,zcV,ih _ _ _ _ hn]
      by_cases hm:m%2=0
      ·rw [if_pos hm,if_pos hm,if_neg (by omega)]
      ·rw [if_neg hm,if_neg hm]
       by_cases e:m/2=n/2
       ·rw [if_pos e,if_pos (by omega)]
       ·rw [if_neg e,if_neg (by omega)]
theorem get_set (t:T α) (n m:Nat) (x:α):(t.set n x).get m=if m=n then some x else t.get m:=zEm _ _ _ _ _ (Nat.lt_succ_self n)
theorem get_set_same (t:T α) (n:Nat) (x:α):(t.set n x).get n=some x:=by rw [get_set,if_pos rfl]
theorem get_set_ne (t:T α) {n m:Nat} (x:α) (h:m≠n):(t.set n x).get m=t.get m:=by rw [get_set,if_neg h]
end T
theorem zcq {β:Type} (n:Nat) (k:Nat→β):zet n k=k n:=by cases n<;>rfl
theorem Vec.get_eq (v:Vec) (i:Nat):v.get i=(v.t.get i).getD v.d:=by
 unfold Vec.get;cases v.t.get i<;>rfl
theorem Vec.set_eq (v:Vec) (i:Nat) (x:AV):v.set i x=⟨v.t.set i x,v.n,v.d⟩:=by
 obtain ⟨t,n,d⟩:=v
 show (match t.set i x with| .leaf=>(⟨.leaf,n,d⟩:Vec)| .node a b c=>⟨.node a b c,n,d⟩)=_
 cases t.set i x<;>rfl
theorem Vec.get_set (v:Vec) (i j:Nat) (x:AV):(v.set i x).get j=if j=i then x else v.get j:=by
 rw [Vec.set_eq,Vec.get_eq,Vec.get_eq,T.get_set]
 by_cases h:j=i<;>simp [h]
theorem Vec.n_set (v:Vec) (i:Nat) (x:AV):(v.set i x).n=v.n:=by rw [Vec.set_eq]
theorem Vec.n_put: ∀(l:List AV) (v:Vec) (i:Nat),(v.put i l).n=v.n
 | [], _,_=>rfl
 | x::l,v,i=>by unfold Vec.put;rw [Vec.n_put l,Vec.n_set]
theorem Vec.get_put: ∀(l:List AV) (v:Vec) (i j:Nat),(v.put i l).get j=if h:i≤j∧j<i+l.length then l[j-i]'(by omega) else v.get j
 | [], v,i,j=>by
  unfold Vec.put
  rw [dif_neg (by simp)]
 | x::l,v,i,j=>by
  unfold Vec.put
  rw [Vec.get_put l,Vec.get_set]
  by_cases h:j=i
  ·subst h
   rw [dif_neg (by simp;omega),if_pos rfl,dif_pos (by simp)]
   simp
  ·by_cases h2:i≤j∧j<i+(x::l).length
   ·rw [dif_pos (by simp at h2 ⊢;omega),dif_pos h2]
    have e:j-i=(j-Nat.succ i)+1:=by simp at h2;omega
    simp only [e,List.getElem_cons_succ]
   ·rw [dif_neg (by simp at h2 ⊢;omega),dif_neg h2,if_neg h]
theorem Vec.n_ofList (l:List AV):(Vec.ofList l).n=l.length:=by unfold Vec.ofList;rw [Vec.n_put]
theorem Vec.get_ofList (l:List AV) (i:Nat) (h:i<l.length):(Vec.ofList l).get i=l[i]:=by
 unfold Vec.ofList
 rw [Vec.get_put,dif_pos (by omega)]
 simp
theorem Vec.length_list: ∀(n:Nat) (v:Vec) (i:Nat),(v.list i n).length=n
 | 0,_,_=>rfl
 | n+1,v,i=>by unfold Vec.list;rw [List.length_cons,Vec.length_list]
theorem Vec.getElem_list: ∀(n:Nat) (v:Vec) (i k:Nat) (h:k<n),(v.list i n)[k]? =some (v.get (i+k))
 | 0,_,_,_,h=>by omega
 | n+1,v,i,0,_=>by unfold Vec.list;simp
 | n+1,v,i,k+1,h=>by
  unfold Vec.list
  rw [List.getElem?_cons_succ,Vec.getElem_list n v (Nat.succ i) k (by omega)]
  congr 2;omega
theorem zBe (x y:Int):ltI x y=decide (x<y):=by
 cases x<;>cases y<;>unfold ltI<;>rw [Bool.eq_iff_iff]<;>simp [Nat.blt_eq]<;>omega
theorem zFV (x y:Int):eqI x y=(x==y):=by
 cases x<;>cases y<;>unfold eqI<;>rw [Bool.eq_iff_iff]<;>simp [Nat.beq_eq]<;>omega
theorem zIy (o:BinOp) (x y:Int):cmpF o x y=zen o x y:=by
 cases o<;>simp only [cmpF,zen,zFV,zBe]
 case neq=>show (match (x==y) with|true=>false|false=>true)=(!(x==y));cases (x==y)<;>rfl
 case leq=>by_cases h:y<x<;>simp [h]<;>omega
 all_goals (by_cases h:x<y<;>simp [h]<;>omega)
theorem zIP (x y:Int):addI x y=x+y:=by cases x<;>cases y<;>rfl
theorem zHZ (x y:Int):mulI x y=x*y:=by cases x<;>cases y<;>rfl
theorem zIr (x y:Int):divI x y=x.tdiv y:=by cases x<;>cases y<;>rfl
theorem zH0 (x y:Int):modI x y=x.tmod y:=by cases x<;>cases y<;>rfl
theorem zGD (x y:Int):subI x y=x-y:=by
 cases x<;>cases y<;>try rfl
 rename_i a b
 have e:subI (Int.ofNat a) (Int.ofNat b)=match Nat.ble b a with|true=>Int.ofNat (Nat.sub a b)|false=>Int.negSucc (Nat.sub (Nat.sub b a) 1):=rfl
 rw [e]
 cases h:Nat.ble b a with
 | true=>
  have:=Nat.le_of_ble_eq_true h
  show Int.ofNat (a-b)=(a:Int)-(b:Int)
  simp only [Int.ofNat_eq_natCast];omega
 | false=>
  have: ¬b≤a:=fun hh=>by rw [Nat.ble_eq_true_of_le hh] at h;cases h
  show Int.negSucc (b-a-1)=(a:Int)-(b:Int)
  rw [Int.negSucc_eq];omega
theorem zev {k:IntKind} {n:Int} (h1:k.min≤n) (h2:n≤k.max):k.wrap n=n:=by
 cases k<;>simp [IntKind.min,IntKind.max,IntKind.signed,IntKind.bits] at h1 h2<;>simp [IntKind.wrap,IntKind.signed,IntKind.bits]<;>omega
theorem zif (k:IntKind) (n:Int):ziz k n=k.wrap n:=by
 cases n with
 | ofNat m=>
  have e:ziz k (Int.ofNat m)=match Nat.blt m (zdE k) with|true=>Int.ofNat m|false=>k.wrap (Int.ofNat m):=rfl
  rw [e]
  cases h:Nat.blt m (zdE k) with
  | true=>
   rw [Nat.blt_eq] at h
   refine (zev ?_ ?_).symm<;>cases k<;>simp [zdE] at h<;>simp [IntKind.min,IntKind.max,IntKind.signed,IntKind.bits]<;>omega
  | false=>rfl
 | negSucc m=>
  have e:ziz k (Int.negSucc m)=match k.signed with|true=>(match Nat.blt m (zdE k) with|true=>Int.negSucc m|false=>k.wrap (Int.negSucc m))|false=>k.wrap (Int.negSucc m):=rfl
  rw [e]
  cases hs:k.signed with
  | false=>rfl
  | true=>
   cases h:Nat.blt m (zdE k) with
   | true=>
    rw [Nat.blt_eq] at h
    refine (zev ?_ ?_).symm<;>cases k<;>simp [zdE] at h<;>simp [IntKind.signed] at hs<;>simp [IntKind.min,IntKind.max,IntKind.signed,IntKind.bits]<;>omega
   | false=>rfl
theorem ofInt_ofNat (n x:Nat):BitVec.ofInt n (Int.ofNat x)=BitVec.ofNat n x:=by
 apply BitVec.eq_of_toNat_eq;simp
theorem zie {k:IntKind} {m:Nat} (h:m<zdE k):k.wrap ((m:Nat):Int)=Int.ofNat m:=by
 refine zev ?_ ?_<;>cases k<;>simp [zdE] at h<;>simp [IntKind.min,IntKind.max,IntKind.signed,IntKind.bits]<;>omega
theorem zyT (k:IntKind): ∃e,zdE k=2^e∧e≤k.bits:=by
 cases k<;>simp only [zdE,IntKind.bits]
 ·exact ⟨7,by decide,by decide⟩
 ·exact ⟨15,by decide,by decide⟩
 ·exact ⟨31,by decide,by decide⟩
 ·exact ⟨63,by decide,by decide⟩
 ·exact ⟨8,by decide,by decide⟩
 ·exact ⟨16,by decide,by decide⟩
 ·exact ⟨32,by decide,by decide⟩
 ·exact ⟨64,by decide,by decide⟩
theorem zgY (o:BinOp) (ho:o= .and∨o= .or∨o= .xor∨o= .andNot) (k:IntKind) (x y:Int):bitsF o k x y=zdQ o k x y:=by
 cases x with
 | negSucc a=>cases y<;>rfl
 | ofNat a=>
  cases y with
  | negSucc b=>rfl
  | ofNat b=>
   cases ha:Nat.blt a (zdE k) with
   | false=>simp only [bitsF,ha]
   | true=>
    cases hb:Nat.blt b (zdE k) with
    | false=>simp only [bitsF,ha,hb]
    | true=>
     have key:bitsF o k (Int.ofNat a) (Int.ofNat b)=bitsF.nat o a b:=by simp only [bitsF,ha,hb]
     rw [key]
     rw [Nat.blt_eq] at ha hb
     obtain ⟨e,he,hle⟩:=zyT k
     have ha2:a<2^k.bits:=Nat.lt_of_lt_of_le (he▸ha) (Nat.pow_le_pow_right (by omega) hle)
     have hb2:b<2^k.bits:=Nat.lt_of_lt_of_le (he▸hb) (Nat.pow_le_pow_right (by omega) hle)
     have ea:(BitVec.ofNat k.bits a).toNat=a:=by rw [BitVec.toNat_ofNat,Nat.mod_eq_of_lt ha2]
     have eb:(BitVec.ofNat k.bits b).toNat=b:=by rw [BitVec.toNat_ofNat,Nat.mod_eq_of_lt hb2]
     rcases ho with rfl|rfl|rfl|rfl
     ·show Int.ofNat (a&&&b)=k.wrap _
      rw [ofInt_ofNat,ofInt_ofNat,BitVec.toNat_and,ea,eb,zie (by rw [he];exact Nat.and_lt_two_pow _ (he▸hb))]
     ·show Int.ofNat (a|||b)=k.wrap _
      rw [ofInt_ofNat,ofInt_ofNat,BitVec.toNat_or,ea,eb,zie (by rw [he];exact Nat.or_lt_two_pow (he▸ha) (he▸hb))]
     ·show Int.ofNat (a^^^b)=k.wrap _
      rw [ofInt_ofNat,ofInt_ofNat,BitVec.toNat_xor,ea,eb,zie (by rw [he];exact Nat.xor_lt_two_pow (he▸ha) (he▸hb))]
     ·show Int.ofNat (a^^^(a&&&b))=k.wrap (((BitVec.ofInt k.bits (Int.ofNat a)&&& ~~~(BitVec.ofInt k.bits (Int.ofNat b))).toNat:Nat):Int)
      have e3:(BitVec.ofInt k.bits (Int.ofNat a)&&& ~~~(BitVec.ofInt k.bits (Int.ofNat b))).toNat=a^^^(a&&&b):=by
       rw [ofInt_ofNat,ofInt_ofNat,BitVec.toNat_and,ea]
       apply Nat.eq_of_testBit_eq
       intro i
       rw [Nat.testBit_and,Nat.testBit_xor,Nat.testBit_and]
       by_cases hi:i<k.bits
       ·have:(~~~(BitVec.ofNat k.bits b)).toNat.testBit i= !(b.testBit i):=by
         have h1:(~~~(BitVec.ofNat k.bits b)).toNat.testBit i=(~~~(BitVec.ofNat k.bits b)).getLsbD i:=rfl
         rw [h1,BitVec.getLsbD_not]
         have h2:(BitVec.ofNat k.bits b).getLsbD i=(BitVec.ofNat k.bits b).toNat.testBit i:=rfl
         rw [h2,eb];simp [hi]
        rw [this]
        cases a.testBit i<;>cases b.testBit i<;>rfl
       ·have:a.testBit i=false:=Nat.testBit_lt_two_pow (Nat.lt_of_lt_of_le ha2 (Nat.pow_le_pow_right (by omega) (by omega)))
        simp [this]
      rw [e3,zie (by rw [he];exact Nat.xor_lt_two_pow (he▸ha) (Nat.and_lt_two_pow _ (he▸hb)))]
theorem zA8 (y b:Nat):(match Nat.blt y b with|true=>y|false=>b)=min y b:=by
 cases h:Nat.blt y b with
 | true=>rw [Nat.blt_eq] at h;simp;omega
 | false=>
  have: ¬y<b:=fun hh=>by rw [←Nat.blt_eq] at hh;rw [hh] at h;cases h
  simp;omega
theorem zGV (k:IntKind) (x:Int) (y:Nat):shrF k x y=x.fdiv (2^(min y k.bits)):=by
 cases x with
 | negSucc a=>rfl
 | ofNat a=>
  show Int.ofNat (Nat.div a (Nat.pow 2 (match Nat.blt y k.bits with|true=>y|false=>k.bits)))=_
  rw [zA8]
  show ((a/2^(min y k.bits):Nat):Int)=_
  rw [Int.natCast_ediv,Int.fdiv_eq_ediv_of_nonneg _ (by exact_mod_cast Nat.zero_le _)]
  simp
theorem zGW (k:IntKind) (x:Int) (y:Nat):shlF k x y=k.wrap (x*2^(min y k.bits)):=by
 cases x with
 | negSucc a=>rfl
 | ofNat a=>
  show ziz k (Int.ofNat (Nat.mul a (Nat.pow 2 (match Nat.blt y k.bits with|true=>y|false=>k.bits))))=_
  rw [zA8,zif]
  congr 1
theorem zBx {o:BinOp} {k:IntKind} {x y z:Int} (h:intF o k x y=some z):zdc o k x y=z:=by
 cases o<;>simp only [intF,zIP,zGD,zHZ,zIr,zH0,zif] at h
 case add=>exact Option.some.inj h
 case sub=>exact Option.some.inj h
 case mul=>exact Option.some.inj h
 case quo=>split at h<;>simp_all [zdc]
 case rem=>split at h<;>simp_all [zdc]
 case shl=>split at h<;>simp_all [zdc,zGW]
 case shr=>split at h<;>simp_all [zdc,zGV]
 case and=>rw [zgY _ (by simp)] at h;exact Option.some.inj h
 case or=>rw [zgY _ (by simp)] at h;exact Option.some.inj h
 case xor=>rw [zgY _ (by simp)] at h;exact Option.some.inj h
 case andNot=>rw [zgY _ (by simp)] at h;exact Option.some.inj h
 all_goals cases h
theorem zBn {k k':IntKind} (h:Nat.beq (kn k) (kn k')=true):k=k':=by
 cases k<;>cases k'<;>first|rfl|cases h
theorem zav {a b:Nat} (h:Nat.beq a b=true):a=b:=Nat.eq_of_beq_eq_true h
theorem zhg: ∀ {a b:List Nat},zb1 a b=true→a=b
 | [], [], _=>rfl
 | [], _::_,h=>by cases h
 | _::_,[],h=>by cases h
 | a::l,b::m,h=>by
  unfold zb1 at h
  split at h
  ·rename_i h1;rw [zav h1,zhg h]
  ·cases h
theorem zeG: ∀(a:List Nat),zb1 a a=true
 | [] => rfl
 | a::l=>by unfold zb1;rw [Nat.beq_refl];exact zeG l
theorem zs4 {a b:List Nat}:zb1 a b=decide (a=b):=by
 by_cases h:a=b
 ·subst h;simp [zeG]
 ·cases e:zb1 a b with
  | true=>exact absurd (zhg e) h
  | false=>simp [h]
theorem Fld.beq_eq {f g:Fld} (h:Fld.beq f g=true):f=g:=by
 obtain ⟨a,b,c,d,e,p⟩:=f
 obtain ⟨a',b',c',d',e',p'⟩:=g
 unfold Fld.beq at h
 simp only at h
 split at h
 ·rename_i h1 h2 h3 h4 h5 h6
  rw [zav h1,zav h2,zav h3,zav h4,zav h5,zav h6]
 ·cases h
theorem zmN: ∀ {l m:List Fld},znR l m=true→l=m
 | [], [], _=>rfl
 | [], _::_,h=>by cases h
 | _::_,[],h=>by cases h
 | f::l,g::m,h=>by
  unfold znR at h
  split at h
  ·rename_i h1;rw [Fld.beq_eq h1,zmN h]
  ·cases h
theorem SE.beq_eq: ∀ {a b:SE},SE.beq a b=true→a=b:=by
 intro a
 induction a with
 | lit n=>
  intro b h
  cases b<;>simp only [SE.beq] at h<;>try cases h
  split at h
  ·rw [zav h]
  ·rw [zav h]
  ·cases h
 | var i=>
  intro b h
  cases b<;>simp only [SE.beq] at h<;>try cases h
  rw [zav h]
 | bin o k a b iha ihb=>
  intro c h
  cases c<;>simp only [SE.beq] at h<;>try cases h
  split at h
  ·split at h
   ·split at h
    ·rename_i h1 h2 _ h3;rw [h1,h2,iha h3,ihb h]
    ·cases h
   ·cases h
  ·cases h
 | wrap k a ih=>
  intro c h
  cases c<;>simp only [SE.beq] at h<;>try cases h
  split at h
  ·rename_i h1;rw [h1,ih h]
  ·cases h
 | flds l c=>
  intro b h
  cases b<;>simp only [SE.beq] at h<;>try cases h
  split at h
  ·rename_i h1;rw [zmN h1,zav h]
  ·cases h
theorem SB.eqv_eq: ∀ {a b:SB},SB.eqv a b=true→a=b:=by
 intro a
 induction a with
 | lit n=>
  intro b h
  cases b<;>simp only [SB.eqv] at h<;>try cases h
  simp at h;rw [h]
 | var i=>
  intro b h
  cases b<;>simp only [SB.eqv] at h<;>try cases h
  rw [zav h]
 | cmp o a b=>
  intro c h
  cases c<;>simp only [SB.eqv] at h<;>try cases h
  split at h
  ·split at h
   ·rename_i h1 _ h2;rw [h1,SE.beq_eq h2,SE.beq_eq h]
   ·cases h
  ·cases h
 | not a ih=>
  intro b h
  cases b<;>simp only [SB.eqv] at h<;>try cases h
  rw [ih h]
 | beq a b iha ihb=>
  intro c h
  cases c<;>simp only [SB.eqv] at h<;>try cases h
  split at h
  ·rename_i h1;rw [iha h1,ihb h]
  ·cases h
 | and a b iha ihb=>
  intro c h
  cases c<;>simp only [SB.eqv] at h<;>try cases h
  split at h
  ·rename_i h1;rw [iha h1,ihb h]
  ·cases h
theorem CapI.beq_eq {a b:CapI} (h:CapI.beq a b=true):a=b:=by
 cases a<;>cases b<;>simp only [CapI.beq] at h<;>first|rw [zav h]|cases h
theorem zqJ {a b:Option SE} (h:zvA a b=true):a=b:=by
 cases a<;>cases b<;>simp only [zvA] at h<;>first|rfl|rw [SE.beq_eq h]|cases h
theorem zt4: ∀ {a b:List (SE×Nat)},zCM a b=true→a=b
 | [], [], _=>rfl
 | x::a,y::b,h=>by
  unfold zCM at h
  split at h
  ·rename_i h1 h2;rw [zt4 h,Prod.ext (SE.beq_eq h1) (zav h2)]
  ·cases h
 | [], _::_,h=>by cases h
 | _::_,[],h=>by cases h
mutual
theorem AV.beq_eq: ∀ {a b:AV},AV.beq a b=true→a=b
 | .bool a,b,h=>by cases b<;>simp only [AV.beq] at h<;>first|rw [SB.eqv_eq h]|cases h
 | .int k n,b,h=>by
  cases b<;>simp only [AV.beq] at h<;>try cases h
  split at h
  ·split at h
   ·rename_i h1 h2;rw [SE.beq_eq h1,h2]
   ·cases h
  ·cases h
 | .str a,b,h=>by cases b<;>simp only [AV.beq] at h<;>first|rw [zhg h]|cases h
 | .nilp,b,h=>by cases b<;>simp only [AV.beq] at h<;>first|rfl|cases h
 | .ptr a c,b,h=>by
  cases b<;>simp only [AV.beq] at h<;>try cases h
  split at h
  ·rename_i h1;rw [zav h1,zav h]
  ·cases h
 | .nils,b,h=>by cases b<;>simp only [AV.beq] at h<;>first|rfl|cases h
 | .sl a c d e,b,h=>by
  cases b<;>simp only [AV.beq] at h<;>try cases h
  split at h
  ·rename_i h1 h2 h3;rw [zav h1,zav h2,zav h3,CapI.beq_eq h]
  ·cases h
 | .emp,b,h=>by cases b<;>simp only [AV.beq] at h<;>first|rfl|cases h
 | .slu a,b,h=>by cases b<;>simp only [AV.beq] at h<;>first|rw [SE.beq_eq h]|cases h
 | .sla,b,h=>by cases b<;>simp only [AV.beq] at h<;>first|rfl|cases h
 | .nilm,b,h=>by cases b<;>simp only [AV.beq] at h<;>first|rfl|cases h
 | .map a,b,h=>by cases b<;>simp only [AV.beq] at h<;>first|rw [zav h]|cases h
 | .func f l m,b,h=>by
  cases b<;>simp only [AV.beq] at h<;>try cases h
  split at h
  ·rename_i h1 h2;rw [zav h1,AV.beqL_eq h2,AV.beqL_eq h]
  ·cases h
 | .nilf,b,h=>by cases b<;>simp only [AV.beq] at h<;>first|rfl|cases h
 | .nili,b,h=>by cases b<;>simp only [AV.beq] at h<;>first|rfl|cases h
 | .iface t v,b,h=>by
  cases b<;>simp only [AV.beq] at h<;>try cases h
  split at h
  ·rename_i h1;rw [zav h1,AV.beq_eq h]
  ·cases h
 | .agg l,b,h=>by cases b<;>simp only [AV.beq] at h<;>first|rw [AV.beqL_eq h]|cases h
 | .tup l,b,h=>by cases b<;>simp only [AV.beq] at h<;>first|rw [AV.beqL_eq h]|cases h
 | .cst a l,b,h=>by
  cases b<;>simp only [AV.beq] at h<;>try cases h
  split at h
  ·rename_i h1;rw [zav h1,zqJ h]
  ·cases h
 | .opq a l,b,h=>by
  cases b<;>simp only [AV.beq] at h<;>try cases h
  split at h
  ·rename_i h1;rw [zav h1,zqJ h]
  ·cases h
 | .sx i n s l,b,h=>by
  cases b<;>simp only [AV.beq] at h<;>try cases h
  split at h
  ·rename_i h1 h2 h3;rw [zav h1,SE.beq_eq h2,zav h3,zt4 h]
  ·cases h
 | .junk,b,h=>by cases b<;>simp only [AV.beq] at h<;>first|rfl|cases h
 | .nun c w,b,h=>by
  cases b<;>simp only [AV.beq] at h<;>try cases h
  split at h
  ·rename_i h1
   split at h
   ·rw [SB.eqv_eq h1]
   ·rw [SB.eqv_eq h1]
   ·cases h
  ·cases h
theorem AV.beqL_eq: ∀ {a b:List AV},AV.beqL a b=true→a=b
 | [], b,h=>by cases b<;>simp only [AV.beqL] at h<;>first|rfl|cases h
 | x::l,b,h=>by
  cases b<;>simp only [AV.beqL] at h<;>try cases h
  split at h
  ·rename_i h1;rw [AV.beq_eq h1,AV.beqL_eq h]
  ·cases h
end
end Go.Dw
namespace Go.Dw
structure Loc where
 blk:Nat
 off:Nat
 cap:Nat
 q:Option Value
abbrev J:=Nat→Option Loc
def zkF (L:Loc):CapI→Nat
 | .known c=>c
 | .upto k=>L.cap-k
def zKr (L:Loc) (len:Nat):CapI→Prop
 | .known c=>len≤c
 | .upto k=>k+len≤L.cap∧0<L.cap
def SXs (ρ:Val) (j:J) (sz:Nat) (b:Option Addr) (len:Nat):List (SE×Nat)→Prop
 | [] => True
 | p::l=>(∃bb o L k,b=some ⟨bb,o,none⟩∧j p.2=some L∧L.blk=bb∧p.1.den ρ=Int.ofNat k∧k<len∧L.off=o+sz*k)∧SXs ρ j sz b len l
mutual
def R (ρ:Val) (j:J):AV→Value→Prop
 | .bool b,v=>v= .bool (b.den ρ)
 | .int k n,v=>v= .int k (n.den ρ)
 | .str s,v=>(∀b∈s,b<256)∧v= .string ⟨(s.map UInt8.ofNat).toArray⟩
 | .nilp,v=>v= .pointer none
 | .ptr n o,v=> ∃L,j n=some L∧v= .pointer (some ⟨L.blk,L.off+o,none⟩)
 | .nils,v=>v= .slice none 0 0
 | .sl n o len cap,v=> ∃L,j n=some L∧zKr L len cap∧v= .slice (some ⟨L.blk,L.off+o,none⟩) len (zkF L cap)
 | .emp,v=> ∃a c,v= .slice (some a) 0 c
 | .slu n,v=> ∃b l c,v= .slice b l c∧Int.ofNat l=n.den ρ
 | .sla,v=> ∃a l c,v= .slice (some a) l c
 | .nilm,v=>v= .map none
 | .map n,v=> ∃L,j n=some L∧v= .map (some L.blk)
 | .func f first cap,v=> ∃l m,v= .func (.func f) l.toArray m.toArray∧RL ρ j first l∧RL ρ j cap m
 | .nilf,v=>v= .nilFunc
 | .nili,v=>v= .nilIface
 | .iface t x,v=> ∃y,v= .iface t y∧R ρ j x y
 | .agg l,v=> ∃m,v= .agg m.toArray∧RL ρ j l m
 | .tup l,v=> ∃m,v= .tuple m.toArray∧RL ρ j l m
 | .cst i len,v=>v=ρ.v i∧v.oneCell'=true∧ ∀n,len=some n→ ∃b l c,v= .slice b l c∧Int.ofNat l=n.den ρ
 | .nun c b,v=>v=undef∧c.den ρ= !b
 | .junk,_=>False
 | .sx i n sz l,v=>v=ρ.v i∧ ∃b len cap,v= .slice b len cap∧Int.ofNat len=n.den ρ∧SXs ρ j sz b len l
 | .opq m len,v=>(∃L,j m=some L∧L.q=some v)∧v.oneCell'=true∧ ∀n,len=some n→ ∃b l c,v= .slice b l c∧Int.ofNat l=n.den ρ
def RL (ρ:Val) (j:J):List AV→List Value→Prop
 | [], l=>l= []
 | a::l,m=> ∃v m',m=v::m'∧R ρ j a v∧RL ρ j l m'
end
def Sub (j j':J):Prop:= ∀n L,j n=some L→j' n=some L
theorem Sub.refl (j:J):Sub j j:=fun _ _ h=>h
theorem Sub.trans {j j' j'':J} (h:Sub j j') (h':Sub j' j''):Sub j j'':=fun n L e=>h' n L (h n L e)
theorem SXs.mono {ρ:Val} {j j':J} (h: ∀n L,j n=some L→j' n=some L) {sz:Nat} {b:Option Addr} {len:Nat}: ∀ {l:List (SE×Nat)},SXs ρ j sz b len l→SXs ρ j' sz b len l
 | [], _=>trivial
 | _::_,r=>let ⟨⟨bb,o,L,k,h1,h2,h3⟩,h4⟩:=r;⟨⟨bb,o,L,k,h1,h _ _ h2,h3⟩,SXs.mono h h4⟩
mutual
theorem R.mono {ρ:Val} {j j':J} (h:Sub j j'): ∀ {a:AV} {v:Value},R ρ j a v→R ρ j' a v
 | .bool _,_,r=>r
 | .int _ _,_,r=>r
 | .str _,_,r=>r
 | .nilp,_,r=>r
 | .ptr _ _,_,r=>let ⟨L,e,x⟩:=r;⟨L,h _ _ e,x⟩
 | .nils,_,r=>r
 | .sl _ _ _ _,_,r=>let ⟨L,e,x⟩:=r;⟨L,h _ _ e,x⟩
 | .emp,_,r=>r
 | .slu _,_,r=>r
 | .sla,_,r=>r
 | .nilm,_,r=>r
 | .map _,_,r=>let ⟨L,e,x⟩:=r;⟨L,h _ _ e,x⟩
 | .func _ _ _,_,r=>let ⟨l,m,e,x,y⟩:=r;⟨l,m,e,RL.mono h x,RL.mono h y⟩
 | .nilf,_,r=>r
 | .nili,_,r=>r
 | .iface _ _,_,r=>let ⟨y,e,x⟩:=r;⟨y,e,R.mono h x⟩
 | .agg _,_,r=>let ⟨m,e,x⟩:=r;⟨m,e,RL.mono h x⟩
 | .tup _,_,r=>let ⟨m,e,x⟩:=r;⟨m,e,RL.mono h x⟩
 | .cst _ _,_,r=>r
 | .nun _ _,_,r=>r
 | .junk,_,r=>r.elim
 | .sx _ _ _ _,_,r=>let ⟨h1,b,len,cap,h2,h3,h4⟩:=r;⟨h1,b,len,cap,h2,h3,h4.mono h⟩
 | .opq _ _,_,r=>let ⟨⟨L,e,x⟩,y⟩:=r;⟨⟨L,h _ _ e,x⟩,y⟩
theorem RL.mono {ρ:Val} {j j':J} (h:Sub j j'): ∀ {a:List AV} {v:List Value},RL ρ j a v→RL ρ j' a v
 | [], _,r=>r
 | _::_,_,r=>let ⟨v,m,e,x,y⟩:=r;⟨v,m,e,R.mono h x,RL.mono h y⟩
end
section
variable {ρ:Val} {j:J}
theorem RL.length: ∀ {l:List AV} {m:List Value},RL ρ j l m→m.length=l.length
 | [], m,r=>by have e:m= []:=r;rw [e];rfl
 | _::l,_,r=>by obtain ⟨v,m,rfl,_,y⟩:=r;simp [RL.length y]
theorem RL.get: ∀ {l:List AV} {m:List Value},RL ρ j l m→ ∀(i:Nat) (a:AV),l[i]? =some a→ ∃v,m[i]? =some v∧R ρ j a v
 | [], _,_,_,_,h=>by simp at h
 | _::l,_,r,0,a,h=>by obtain ⟨v,m,rfl,x,_⟩:=r;simp at h;subst h;exact ⟨v,rfl,x⟩
 | _::l,_,r,i+1,a,h=>by obtain ⟨v,m,rfl,_,y⟩:=r;simp at h;simpa using RL.get y i a h
theorem RL.of_get: ∀ {l:List AV} {m:List Value},m.length=l.length→(∀(i:Nat) (a:AV),l[i]? =some a→ ∃v,m[i]? =some v∧R ρ j a v)→RL ρ j l m
 | [], m,h,_=>by
  have e:m= []:=by simpa using h
  exact e
 | a::l,[],h,_=>by simp at h
 | a::l,v::m,h,hg=>by
  refine ⟨v,m,rfl,?_,RL.of_get (by simpa using h) fun i b hb=>by simpa using hg (i+1) b (by simpa using hb)⟩
  obtain ⟨v',h1,h2⟩:=hg 0 a rfl
  simp at h1;subst h1;exact h2
theorem RL.append: ∀ {l l':List AV} {m m':List Value},RL ρ j l m→RL ρ j l' m'→RL ρ j (l++l') (m++m')
 | [], _,_,_,r,r'=>by rw [show _= [] from r];exact r'
 | _::l,_,_,_,r,r'=>by obtain ⟨v,m,rfl,x,y⟩:=r;exact ⟨v,_,rfl,x,RL.append y r'⟩
theorem RL.cons {a:AV} {v:Value} {l:List AV} {m:List Value} (h:R ρ j a v) (h':RL ρ j l m):RL ρ j (a::l) (v::m):=⟨v,m,rfl,h,h'⟩
theorem RL.nil:RL ρ j [] []:=rfl
theorem RL.one {a:AV} {v:Value} (h:R ρ j a v):RL ρ j [a] [v]:=⟨v,[],rfl,h,rfl⟩
theorem RL.two {a b:AV} {v u:Value} (h:R ρ j a v) (h':R ρ j b u):RL ρ j [a,b] [v,u]:= .cons h (.one h')
end
theorem zg1 (l:List UInt8):(l.map (·.toNat)).map UInt8.ofNat=l:=by
 rw [List.map_map]
 conv=>rhs;rw [←List.map_id l]
 apply List.map_congr_left
 intro a _
 simp
theorem zwx {ρ:Val} {j:J} {v:Value} {a:AV} (h:zvz v=some a):R ρ j a v:=by
  unfold zvz at h
  split at h<;>first|(cases h;done)|skip
  all_goals (cases h)
  all_goals first
    | (simp [R,SB.den,SE.den];done)
    | skip
  rename_i s
  refine ⟨by simp;intro b _;exact b.toNat_lt,?_⟩
  rw [zg1]
theorem zhy {ρ:Val} {j:J}: ∀ {vs:List Value} {l:List AV},zhd vs=some l→RL ρ j l vs
 | [], l,h=>by unfold zhd at h;cases h;rfl
 | v::vs,l,h=>by
  unfold zhd at h
  split at h
  ·cases h
  ·rename_i a ha
   split at h
   ·cases h
   ·rename_i m hm
    cases h
    exact ⟨v,vs,rfl,zwx ha,zhy hm⟩
theorem zkR {ρ:Val} {j:J} {v:Value} {a:AV} (h:ofValue v=some a):R ρ j a v:=by
 unfold ofValue at h
 split at h
 ·split at h
  ·rename_i hl;cases h;exact ⟨_,by simp,zhy hl⟩
  ·cases h
 ·split at h
  ·rename_i hl;cases h;exact ⟨_,by simp,zhy hl⟩
  ·cases h
 ·exact zwx h
theorem zcQ {ρ:Val} {j:J}:R ρ j zbR undef:=⟨[],rfl,rfl⟩
theorem zcX {ρ:Val} {j:J} {a:AV} {v:Value} (h:R ρ j a v):RL ρ j a.cells v.cells.toList:=by
  cases a with
  | agg l=>obtain ⟨m,rfl,r⟩:=h;simpa [AV.cells,Value.cells] using r
  | junk=>exact h.elim
  | _=>
    have hv:v.cells= #[v]:=by
      simp only [R] at h
      first
        | (subst h;rfl)
        | (obtain ⟨_,_,rfl⟩:=h;rfl)
        | (obtain ⟨_,_,_,rfl⟩:=h;rfl)
        | (obtain ⟨_,rfl,_⟩:=h;rfl)
        | (obtain ⟨_,rfl⟩:=h;rfl)
        | (obtain ⟨_,_,_,_,rfl,_⟩:=h;rfl)
        | (obtain ⟨_,_,rfl,_⟩:=h;rfl)
        | (obtain ⟨_,_,_,rfl,_⟩:=h;rfl)
        | (obtain ⟨rfl,_⟩:=h;rfl)
        | (have h1:=h.2.1;revert h1;cases v<;>intro h1<;>first|rfl|cases h1)
    rw [hv]
    exact RL.one h
theorem zhc {ρ:Val} {j:J} {a:AV} {v:Value} (h:R ρ j a v) (hc:zBv a=true):v.oneCell'=true:=by
  cases a<;>simp only [zBv] at hc<;>try (cases hc;done)
  all_goals
    simp only [R] at h
    first
      | (subst h;rfl)
      | (obtain ⟨_,_,rfl⟩:=h;rfl)
      | (obtain ⟨_,_,_,rfl⟩:=h;rfl)
      | (obtain ⟨_,rfl,_⟩:=h;rfl)
      | (obtain ⟨_,rfl⟩:=h;rfl)
      | (obtain ⟨_,_,_,_,rfl,_⟩:=h;rfl)
      | (obtain ⟨_,_,rfl,_⟩:=h;rfl)
      | (obtain ⟨_,_,_,rfl,_⟩:=h;rfl)
      | exact h.2.1
theorem znw {ρ:Val} {j:J}: ∀ {l:List AV} {m:List Value},RL ρ j l m→zeo l=true→ ∀v∈m,v.oneCell'=true
 | [], _,r,_=>by rw [show _= [] from r];simp
 | a::l,_,r,h=>by
  obtain ⟨v,m,rfl,x,y⟩:=r
  unfold zeo at h
  split at h
  ·rename_i hc
   intro u hu
   rcases List.mem_cons.1 hu with rfl|hu
   ·exact zhc x hc
   ·exact znw y h u hu
  ·cases h
def Mine (j:J) (b:Nat):Prop:= ∃n L,j n=some L∧L.q=none∧L.blk=b
structure Cx where
 w:World
 K:Nat→Prop
 G:Nat→J→World→Prop
 stab: ∀k j j' w w',G k j w→Sub j j'→w.heap.size≤w'.heap.size→(∀b,b<w.heap.size→ ¬Mine j b→w'.heap[b]? =w.heap[b]?)→(∀b,Mine j' b→Mine j b∨w.heap.size≤b)→G k j' w'
def Cx.own (x:Cx) (b:Nat):Prop:=x.w.heap.size≤b∨x.K b
def Cx.plain (w:World):Cx:=⟨w,fun _=>False,fun _ _ _=>True,fun _ _ _ _ _ _ _ _ _ _=>trivial⟩
structure Fr (w0:Cx) (w:World):Prop where
 os:w.os=w0.w.os
 out:w.output=w0.w.output
 tape:w.tape=w0.w.tape
 size:w0.w.heap.size≤w.heap.size
 old: ∀i,i<w0.w.heap.size→ ¬w0.K i→w.heap[i]? =w0.w.heap[i]?
theorem Fr.below {w w':World} (h:Fr (Cx.plain w) w'):RowKit.Below w.heap.size w w':=⟨h.os,h.tape,h.out,h.size,fun i hi=>h.old i hi id⟩
theorem Fr.refl (x:Cx):Fr x x.w:=⟨rfl,rfl,rfl,Nat.le_refl _,fun _ _ _=>rfl⟩
theorem Fr.then {x:Cx} {b c:World} (h:Fr x b) (h1:c.os=b.os) (h2:c.output=b.output) (h3:c.tape=b.tape) (h4:b.heap.size≤c.heap.size) (h5: ∀i,i<b.heap.size→ ¬x.own i→c.heap[i]? =b.heap[i]?):Fr x c:=
 ⟨h1.trans h.os,h2.trans h.out,h3.trans h.tape,Nat.le_trans h.size h4,fun i hi hk=>(h5 i (Nat.lt_of_lt_of_le hi h.size) (fun ho=>ho.elim (fun h=>absurd hi (Nat.not_lt_of_le h)) hk)).trans (h.old i hi hk)⟩
def RM (ρ:Val) (j:J):List ME→List MapEntry→Prop
 | [], l=>l= []
 | e::l,m=> ∃x m',m=x::m'∧R ρ j e.key x.key∧R ρ j e.val x.val∧x.born=e.born∧RM ρ j l m'
theorem RM.mono {ρ:Val} {j j':J} (h:Sub j j'): ∀ {l:List ME} {m:List MapEntry},RM ρ j l m→RM ρ j' l m
 | [], _,r=>r
 | _::_,_,r=>let ⟨x,m,e,a,b,c,d⟩:=r;⟨x,m,e,a.mono h,b.mono h,c,RM.mono h d⟩
def RK (ρ:Val) (j:J):List ME→List MapEntry→Prop
 | [], l=>l= []
 | e::l,m=> ∃x m',m=x::m'∧R ρ j e.key x.key∧R ρ j e.val x.val∧RK ρ j l m'
theorem RK.mono {ρ:Val} {j j':J} (h:Sub j j'): ∀ {l:List ME} {m:List MapEntry},RK ρ j l m→RK ρ j' l m
 | [], _,r=>r
 | _::_,_,r=>let ⟨x,m,e,a,b,d⟩:=r;⟨x,m,e,a.mono h,b.mono h,RK.mono h d⟩
def zxW (v:Value) (n:Int):Bool:=
 match v with
 | .int .i64 m=>m==n
 | _=>false
def zbm (arr:Array MapEntry) (n:Int):Option Value:=(arr.toList.find? fun e=>zxW e.key n).map (·.val)
def mlog (D:Int→Option Value):List (Int×Option Value)→Int→Option Value
 | [], n=>D n
 | e::l,n=>if n=e.1 then e.2 else mlog D l n
def RO (ρ:Val) (j:J):Option AV→Option Value→Prop
 | none,o=>o=none
 | some a,o=> ∃v,o=some v∧R ρ j a v
def RX (ρ:Val) (j:J):List (AV×Option AV)→List (Int×Option Value)→Prop
 | [], l=>l= []
 | e::l,m=> ∃x o m',m=(x,o)::m'∧R ρ j e.1 (.int .i64 x)∧RO ρ j e.2 o∧RX ρ j l m'
theorem RO.mono {ρ:Val} {j j':J} (h:Sub j j'): ∀ {a:Option AV} {o:Option Value},RO ρ j a o→RO ρ j' a o
 | none,_,r=>r
 | some _,_,r=>let ⟨v,e,x⟩:=r;⟨v,e,x.mono h⟩
theorem RX.mono {ρ:Val} {j j':J} (h:Sub j j'): ∀ {l:List (AV×Option AV)} {m:List (Int×Option Value)},RX ρ j l m→RX ρ j' l m
 | [], _,r=>r
 | _::_,_,r=>let ⟨x,o,m,e,a,b,c⟩:=r;⟨x,o,m,e,a.mono h,b.mono h,RX.mono h c⟩
structure zdA (arr:Array MapEntry):Prop where
 keys: ∀e∈arr.toList,∃n,e.key= .int .i64 n
 once:arr.toList.Pairwise fun a b=>a.key≠b.key
def Born (arr:Array MapEntry) (clock:Nat):Prop:=(∀e∈arr.toList,e.born<clock)∧(arr.toList.map (·.born)).Nodup
def PendR (ρ:Val) (j:J) (arr:Array MapEntry) (e:AV×Option AV):Prop:=
 match e.1 with
 | .tup [s,k]=> ∃(x:Int) (b p:Nat) (ent:MapEntry),R ρ j s (.int .i64 b)∧R ρ j k (.int .i64 x)∧arr.toList.findIdx? (fun e=>(e.born:Int)==(b:Int))=some p∧arr.toList[p]? =some ent∧ent.key= .int .i64 x
 | _=>True
theorem PendR.mono {ρ:Val} {j j':J} (h:Sub j j') {arr:Array MapEntry} {e:AV×Option AV} (r:PendR ρ j arr e):PendR ρ j' arr e:=by
 unfold PendR at r ⊢
 split at r
 ·obtain ⟨x,b,p,ent,h1,h2,h3⟩:=r
  exact ⟨x,b,p,ent,h1.mono h,h2.mono h,h3⟩
 ·trivial
theorem zg4 {ρ:Val} {j:J}: ∀ {l:List (AV×Option AV)} {m:List (Int×Option Value)},RX ρ j l m→zdu l=l∧ ∀arr,∀e∈l,PendR ρ j arr e
 | [], _,_=>⟨rfl,fun _ e h=>by cases h⟩
 | e::l,_,r=>by
  obtain ⟨x,o,m',rfl,h1,_,h3⟩:=r
  obtain ⟨i1,i2⟩:=zg4 h3
  have ht: ∀l',e.1≠ .tup l':=fun l' he=>by
   rw [he] at h1
   obtain ⟨_,h4,_⟩:=h1
   cases h4
  have hf:zH6 e.1=false:=by
   cases he:e.1<;>first|rfl|exact absurd he (ht _)
  refine ⟨by unfold zdu;rw [hf];exact congrArg _ i1,fun arr e' he'=> ?_⟩
  rcases List.mem_cons.1 he' with rfl|he'
  ·unfold PendR
   split
   ·rename_i he;exact absurd he (ht _)
   ·trivial
  ·exact i2 arr e' he'
def ObjR (ρ:Val) (j:J) (w0:Cx) (w:World) (gw:T Nat) (L:Loc):Obj→Prop
  | .cells v esz g closed _ own=>L.q=none∧
    (if own=true then w0.own L.blk else¬w0.own L.blk)∧
    (alive gw g closed=true→ ∃arr e fr,w.heap[L.blk]? =some (.cells arr e fr)∧L.off+v.n≤arr.size∧(L.off+L.cap*esz≤arr.size∧(0<L.cap→v.n≤L.cap*esz))∧
      ∀ i,i<v.n→ ∃x,arr[L.off+i]? =some x∧R ρ j (v.get i) x)
  | .map es clock=>L.q=none∧w0.own L.blk∧L.off=0∧ ∃arr,w.heap[L.blk]? =some (.map arr clock)∧RM ρ j es arr.toList
  | .iter m since seen stepped=>L.q=none∧w0.own L.blk∧L.off=0∧ ∃m' sa,w.heap[L.blk]? =some (.mapIter m' since sa stepped)∧sa.toList=seen∧
      (match m with|none=>m'=none|some n=> ∃Lm,j n=some Lm∧m'=some Lm.blk)
  | .mapu es=>L.q=none∧w0.own L.blk∧L.off=0∧ ∃arr clock es',w.heap[L.blk]? =some (.map arr clock)∧es'.Perm es∧RK ρ j es' arr.toList
  | .mapx kn log=>L.q=none∧w0.own L.blk∧L.off=0∧ ∃arr clock arr0 clock0 m0 m1,w.heap[L.blk]? =some (.map arr clock)∧w0.w.heap[L.blk]? =some (.map arr0 clock0)∧(zdA arr∧Born arr clock∧ ∀e∈kn,PendR ρ j arr e)∧
      RX ρ j (zdu kn) m0∧RX ρ j log m1∧(∀x o,(x,o)∈m0→zbm arr x=o)∧ ∀n,zbm arr n=mlog (zbm arr0) m1 n
  | .opq=>L.q≠none
  | .gs _=>False
def Sep (H:Heap) (n m:Nat) (Ln Lm:Loc):Prop:=
 ∃ vn en gn cn sn on vm em gm cm sm om,H.m.get n=some (.cells vn en gn cn sn on)∧H.m.get m=some (.cells vm em gm cm sm om)∧on=om∧
  (on=true→gn=gm∧(alive H.gw gn cn=true→alive H.gw gm cm=true→cn=none→sn=true∧cm≠none∧Lm.off+vm.n≤Ln.off+vn.n))
structure Inv (ρ:Val) (w0:Cx) (j:J) (H:Heap) (w:World):Prop where
 fr:Fr w0 w
 dom: ∀n L,j n=some L→n<H.nx
 blk: ∀n L,j n=some L→L.q=none→L.blk<w.heap.size
 used: ∀n o,H.m.get n=some o→n<H.nx
 obj: ∀n L,j n=some L→ ∃o,H.m.get n=some o∧ObjR ρ j w0 w H.gw L o
 sep: ∀n m Ln Lm,n≠m→j n=some Ln→j m=some Lm→Ln.q=none→Lm.q=none→Ln.blk=Lm.blk→Sep H n m Ln Lm
 tim: ∀n v e g t sh ow,H.m.get n=some (.cells v e g (some t) sh ow)→t≤H.nx
 gwt: ∀g x,H.gw.get g=some x→x≤H.nx
 grp: ∀n L v e g c sh,j n=some L→H.m.get n=some (.cells v e g c sh true)→ ∃Lg,j g=some Lg
 fz: ∀n L,j n=some L→L.q=none→w0.own L.blk→ ∀c e fr,w.heap[L.blk]? =some (.cells c e fr)→fr=(0,0)
 off0: ∀n L v e c sh,j n=some L→H.m.get n=some (.cells v e n c sh true)→L.off=0
 n0:j 0=none
 nx0:0<H.nx
 z0: ∀o,H.m.get 0=some o→ ∃k,o= .gs k
 gho:w0.G H.gs j w
theorem ObjR.plain {ρ:Val} {j:J} {w0:Cx} {w:World} {gw:T Nat} {L:Loc} {o:Obj} (h:ObjR ρ j w0 w gw L o) (ho:o≠ .opq):L.q=none:=by
 cases o with
 | cells=>exact h.1
 | map=>exact h.1
 | iter=>exact h.1
 | mapu=>exact h.1
 | mapx=>exact h.1
 | opq=>exact absurd rfl ho
 | gs=>exact h.elim
structure St (j:J) (H:Heap) (j':J) (H':Heap):Prop where
 sub:Sub j j'
 fresh: ∀n L,j' n=some L→j n=none→H.nx≤n
 keep: ∀n,0<n→j n=none→n<H.nx→H'.m.get n=H.m.get n∧H'.gw.get n=H.gw.get n
 nx:H.nx≤H'.nx
theorem St.refl (j:J) (H:Heap):St j H j H:=⟨Sub.refl j,(fun n L h h'=>by rw [h] at h';cases h'),fun _ _ _ _=>⟨rfl,rfl⟩,Nat.le_refl _⟩
theorem St.trans {j j' j'':J} {H H' H'':Heap} (h:St j H j' H') (h':St j' H' j'' H''):St j H j'' H'':=by
 refine ⟨h.sub.trans h'.sub,fun n L e e0=> ?_,fun n hp e hn=> ?_,Nat.le_trans h.nx h'.nx⟩
 ·cases e1:j' n with
  | none=>exact Nat.le_trans h.nx (h'.fresh n L e e1)
  | some L'=>exact h.fresh n L' e1 e0
 ·have e1:j' n=none:=by
   cases e1:j' n with
   | none=>rfl
   | some L'=>have:=h.fresh n L' e1 e;omega
  have a:=h.keep n hp e hn
  have b:=h'.keep n hp e1 (Nat.lt_of_lt_of_le hn h.nx)
  exact ⟨b.1.trans a.1,b.2.trans a.2⟩
theorem Heap.alloc_eq (H:Heap) (o:Obj):H.alloc o=⟨H.m.set H.nx o,H.nx+1,H.gw⟩:=by
 obtain ⟨m,nx,gw⟩:=H
 show (match m.set nx o with| .leaf=>(⟨.leaf,nx+1,gw⟩:Heap)| .node a b c=>zet (nx+1) fun x=>⟨.node a b c,x,gw⟩)=_
 cases m.set nx o<;>simp [zcq]
theorem Heap.upd_eq (H:Heap) (n:Nat) (o:Obj):H.upd n o=⟨H.m.set n o,H.nx,H.gw⟩:=by
 obtain ⟨m,nx,gw⟩:=H
 show (match m.set n o with| .leaf=>(⟨.leaf,nx,gw⟩:Heap)| .node a b c=>⟨.node a b c,nx,gw⟩)=_
 cases m.set n o<;>rfl
theorem Heap.wrote_eq (H:Heap) (g:Nat):H.wrote g=⟨H.m,H.nx,H.gw.set g H.nx⟩:=rfl
end Go.Dw
namespace Go.Dw
section
variable {ρ:Val} {w0:Cx} {j:J} {H:Heap} {w:World}
def jset (j:J) (n:Nat) (L:Loc):J:=fun k=>if k=n then some L else j k
theorem za3 (j:J) (n:Nat) (L:Loc):jset j n L n=some L:=by simp [jset]
theorem zbO (j:J) {n k:Nat} (L:Loc) (h:k≠n):jset j n L k=j k:=by simp [jset,h]
theorem zbX {j:J} {n:Nat} {L:Loc} (h:j n=none):Sub j (jset j n L):=fun k L' e=>by
 by_cases hk:k=n
 ·subst hk;rw [h] at e;cases e
 ·rw [zbO j L hk];exact e
theorem zrj (H:Heap) (o:Obj) {n:Nat} (hn:n≠0) {nx:Nat} {gw:T Nat}:Heap.gs ⟨H.m.set n o,nx,gw⟩=H.gs:=by
 unfold Heap.gs
 rw [show (H.m.set n o).get 0=H.m.get 0 from T.get_set_ne _ _ (Ne.symm hn)]
theorem Inv.ne0 (h:Inv ρ w0 j H w) {n:Nat} {L:Loc} (hj:j n=some L):n≠0:=fun e=>by
 subst e
 rw [h.n0] at hj
 cases hj
theorem Inv.z0set (h:Inv ρ w0 j H w) {n:Nat} (hn:n≠0) (o:Obj): ∀o',(H.m.set n o).get 0=some o'→ ∃k,o'= .gs k:=fun o' e=>by
 rw [show (H.m.set n o).get 0=H.m.get 0 from T.get_set_ne _ _ (Ne.symm hn)] at e
 exact h.z0 o' e
theorem Inv.q (h:Inv ρ w0 j H w) {n:Nat} {L:Loc} {o:Obj} (hj:j n=some L) (hm:H.m.get n=some o) (ho:o≠ .opq):L.q=none:=by
 obtain ⟨o',h1,h2⟩:=h.obj n L hj
 rw [hm] at h1;cases h1
 exact h2.plain ho
theorem Inv.qrow (h:Inv ρ w0 j H w) {n:Nat} {L:Loc} {v:Vec} {e g:Nat} {c:Option Nat} {s ow:Bool} (hj:j n=some L) (hm:H.m.get n=some (.cells v e g c s ow)):L.q=none:=h.q hj hm (by intro e;cases e)
theorem Inv.gho' (h:Inv ρ w0 j H w) {j':J} {w':World} (hs:Sub j j') (h1:w.heap.size≤w'.heap.size) (h2: ∀b,b<w.heap.size→ ¬Mine j b→w'.heap[b]? =w.heap[b]?) (h3: ∀b,Mine j' b→Mine j b∨w.heap.size≤b):w0.G H.gs j' w':=w0.stab _ _ _ _ _ h.gho hs h1 h2 h3
theorem Inv.extend (h:Inv ρ w0 j H w) (o:Obj) (ho: ∀v e g t sh ow,o= .cells v e g (some t) sh ow→t≤H.nx+1):Inv ρ w0 j (H.alloc o) w:=by
 rw [Heap.alloc_eq]
 have old: ∀n L,j n=some L→(H.m.set H.nx o).get n=H.m.get n:=fun n L e=>T.get_set_ne _ _ (by have:=h.dom n L e;omega)
 refine ⟨h.fr,fun n L e=>Nat.lt_succ_of_lt (h.dom n L e),h.blk,fun n o' e=> ?_,fun n L e=> ?_,fun n m Ln Lm hne e1 e2 q1 q2 hb=> ?_,fun n v e g t sh ow he=> ?_,fun g x e=>Nat.le_succ_of_le (h.gwt g x e),fun n L v e g c sh e1 e2=> ?_,h.fz,fun n L v e c sh e1 e2=>h.off0 n L v e c sh e1 (by rw [←old n L e1];exact e2),h.n0,Nat.succ_pos _,h.z0set (by have:=h.nx0;omega) o,?_⟩
 ·show n<H.nx+1
  rw [show (H.m.set H.nx o).get n=if n=H.nx then some o else H.m.get n from T.get_set _ _ _ _] at e
  split at e
  ·omega
  ·have:=h.used n o' e;omega
 ·obtain ⟨o',h1,h2⟩:=h.obj n L e
  exact ⟨o',by rw [old n L e];exact h1,h2⟩
 ·obtain ⟨vn,en,gn,cn,sn,on,vm,em,gm,cm,sm,om,h1,h2,h3⟩:=h.sep n m Ln Lm hne e1 e2 q1 q2 hb
  exact ⟨vn,en,gn,cn,sn,on,vm,em,gm,cm,sm,om,by rw [old n Ln e1];exact h1,by rw [old m Lm e2];exact h2,h3⟩
 ·show t≤H.nx+1
  rw [show (H.m.set H.nx o).get n=if n=H.nx then some o else H.m.get n from T.get_set _ _ _ _] at he
  split at he
  ·exact ho _ _ _ _ _ _ (Option.some.inj he)
  ·have:=h.tim n v e g t sh ow he;omega
 ·rw [old n L e1] at e2
  exact h.grp n L v e g c sh e1 e2
 ·rw [zrj H _ (by have:=h.nx0;omega)]
  exact h.gho
theorem St.extend (h:Inv ρ w0 j H w) (o:Obj):St j H j (H.alloc o):=by
 rw [Heap.alloc_eq]
 refine ⟨Sub.refl j,(fun n L e e'=>by rw [e] at e';cases e'),fun n _ _ hn=>⟨?_,rfl⟩,Nat.le_succ _⟩
 show (H.m.set H.nx o).get n=_
 exact T.get_set_ne _ _ (by omega)
def NewR (ρ:Val) (j:J) (o:Obj) (ob:Go.Obj) (c:Nat):Prop:=
 match o with
 | .cells v esz _ closed _ own=>own=true∧closed=none∧ ∃arr e,ob= .cells arr e (0,0)∧v.n≤arr.size∧(c*esz≤arr.size∧(0<c→v.n≤c*esz))∧ ∀i,i<v.n→ ∃x,arr[i]? =some x∧R ρ j (v.get i) x
 | .map es clock=>c=0∧ ∃arr,ob= .map arr clock∧RM ρ j es arr.toList
 | .iter m since seen stepped=>c=0∧ ∃m' sa,ob= .mapIter m' since sa stepped∧sa.toList=seen∧(match m with|none=>m'=none|some n=> ∃Lm,j n=some Lm∧m'=some Lm.blk)
 | .mapu es=>c=0∧ ∃arr clock es',ob= .map arr clock∧es'.Perm es∧RK ρ j es' arr.toList
 | .mapx _ _=>False
 | .opq=>False
 | .gs _=>False
theorem ObjR.grow {o:Obj} {L:Loc} {gw:T Nat} {j':J} {w':World} (hs:Sub j j') (hw:L.q=none→w'.heap[L.blk]? =w.heap[L.blk]?) (h:ObjR ρ j w0 w gw L o):ObjR ρ j' w0 w' gw L o:=by
 cases o with
 | cells v esz g closed sh own=>
  obtain ⟨h0,h1,h2⟩:=h
  have hw:=hw h0
  refine ⟨h0,h1,fun ha=> ?_⟩
  obtain ⟨arr,e,fr,h3,h4,h5,h6⟩:=h2 ha
  exact ⟨arr,e,fr,hw▸h3,h4,h5,fun i hi=>let ⟨x,h7,h8⟩:=h6 i hi;⟨x,h7,h8.mono hs⟩⟩
 | map es clock=>
  obtain ⟨h0,h1,h2,arr,h3,h4⟩:=h
  have hw:=hw h0
  exact ⟨h0,h1,h2,arr,hw▸h3,h4.mono hs⟩
 | iter m since seen stepped=>
  obtain ⟨h0,h1,h2,m',sa,h3,h4,h5⟩:=h
  have hw:=hw h0
  refine ⟨h0,h1,h2,m',sa,hw▸h3,h4,?_⟩
  cases m with
  | none=>exact h5
  | some n=>obtain ⟨Lm,e,x⟩:=h5;exact ⟨Lm,hs _ _ e,x⟩
 | mapu es=>
  obtain ⟨h0,h1,h2,arr,clock,es',h3,h4,h5⟩:=h
  have hw:=hw h0
  exact ⟨h0,h1,h2,arr,clock,es',hw▸h3,h4,h5.mono hs⟩
 | mapx kn log=>
  obtain ⟨h0,h1,h2,arr,clock,arr0,clock0,m0,m1,h3,h4,h5,h6,h7,h8⟩:=h
  have hw:=hw h0
  exact ⟨h0,h1,h2,arr,clock,arr0,clock0,m0,m1,hw▸h3,h4,⟨h5.1,h5.2.1,fun e he=>(h5.2.2 e he).mono hs⟩,h6.mono hs,h7.mono hs,h8⟩
 | opq=>exact h
 | gs k=>exact h.elim
theorem Inv.adopt (h:Inv ρ w0 j H w) {n:Nat} {o:Obj} {ob:Go.Obj} {c:Nat} (hn:H.m.get n=some o) (hj:j n=none) (hnew:NewR ρ j o ob c)
  (hg: ∀v e g cl sh,o= .cells v e g cl sh true→g=n∨ ∃Lg,j g=some Lg):
  Inv ρ w0 (jset j n ⟨w.heap.size,0,c,none⟩) H { w with heap:=w.heap.push ob }:=by
 have hsub:=zbX (L:=⟨w.heap.size,0,c,none⟩) hj
 have hold: ∀i,i<w.heap.size→(w.heap.push ob)[i]? =w.heap[i]? :=fun i hi=>by
  rw [Array.getElem?_push];rw [if_neg (by omega)]
 have hne: ∀k L,j k=some L→k≠n:=fun k L e hk=>by subst hk;rw [hj] at e;cases e
 have hback: ∀k L,jset j n ⟨w.heap.size,0,c,none⟩ k=some L→(k=n∧L=⟨w.heap.size,0,c,none⟩)∨(k≠n∧j k=some L):=fun k L e=>by
  by_cases hk:k=n
  ·subst hk;rw [za3] at e;exact .inl ⟨rfl,(Option.some.inj e).symm⟩
  ·rw [zbO _ _ hk] at e;exact .inr ⟨hk,e⟩
 have hfr:Fr w0 { w with heap:=w.heap.push ob }:=h.fr.then rfl rfl rfl (by simp) (fun i hi _=>hold i hi)
 refine ⟨hfr,fun k L e=> ?_,fun k L e q=> ?_,h.used,fun k L e=> ?_,fun k m Lk Lm hkm e1 e2 q1 q2 hb=> ?_,h.tim,h.gwt,fun k L v e g cl sh e1 e2=> ?_,fun k L hjk hq hi cs e fr he=> ?_,fun k L v e cl sh e1 e2=>(hback k L e1).elim (fun x=>x.2▸rfl) (fun x=>h.off0 k L v e cl sh x.2 e2),?_,h.nx0,h.z0,?_⟩
 ·rcases hback k L e with ⟨rfl,_⟩|⟨_,e⟩
  ·exact h.used _ _ hn
  ·exact h.dom k L e
 ·show L.blk<(w.heap.push ob).size
  rcases hback k L e with ⟨_,rfl⟩|⟨_,e⟩
  ·simp
  ·have:=h.blk k L e q;simp;omega
 ·rcases hback k L e with ⟨rfl,rfl⟩|⟨_,e⟩
  ·refine ⟨o,hn,?_⟩
   have hown:w0.own w.heap.size:=Or.inl h.fr.size
   have hnewb:(w.heap.push ob)[w.heap.size]? =some ob:=by simp
   cases o with
   | cells v esz g cl sh own=>
    obtain ⟨ho,_,arr,e',rfl,h1,h2,h3⟩:=hnew
    refine ⟨rfl,by rw [if_pos ho];exact hown,fun _=>⟨arr,e',(0,0),hnewb,by simpa using h1,⟨by simpa using h2.1,h2.2⟩,fun i hi=> ?_⟩⟩
    obtain ⟨x,h4,h5⟩:=h3 i hi
    exact ⟨x,by simpa using h4,h5.mono hsub⟩
   | map es clock=>
    obtain ⟨_,arr,rfl,h1⟩:=hnew
    exact ⟨rfl,hown,rfl,arr,hnewb,h1.mono hsub⟩
   | iter m since seen stepped=>
    obtain ⟨_,m',sa,rfl,h1,h2⟩:=hnew
    refine ⟨rfl,hown,rfl,m',sa,hnewb,h1,?_⟩
    cases m with
    | none=>exact h2
    | some n=>obtain ⟨Lm,e,x⟩:=h2;exact ⟨Lm,hsub _ _ e,x⟩
   | mapu es=>
    obtain ⟨_,arr,clock,es',rfl,h1,h2⟩:=hnew
    exact ⟨rfl,hown,rfl,arr,clock,es',hnewb,h1,h2.mono hsub⟩
   | mapx=>exact hnew.elim
   | opq=>exact hnew.elim
   | gs=>exact hnew.elim
  ·obtain ⟨o',h1,h2⟩:=h.obj k L e
   exact ⟨o',h1,ObjR.grow hsub (fun q=>hold _ (h.blk k L e q)) h2⟩
 ·rcases hback k Lk e1 with ⟨rfl,rfl⟩|⟨_,e1⟩<;>rcases hback m Lm e2 with ⟨rfl,rfl⟩|⟨_,e2⟩
  ·exact absurd rfl hkm
  ·rename_i e2;have:=h.blk m Lm e2 q2;rw [←hb] at this;exact absurd this (Nat.lt_irrefl _)
  ·rename_i e1 _;have:=h.blk k Lk (by assumption) q1;rw [hb] at this;exact absurd this (Nat.lt_irrefl _)
  ·exact h.sep k m Lk Lm hkm (by assumption) (by assumption) q1 q2 hb
 ·rcases hback k L e1 with ⟨rfl,rfl⟩|⟨_,e1⟩
  ·rw [hn] at e2
   rcases hg _ _ _ _ _ (Option.some.inj e2) with rfl|⟨Lg,e3⟩
   ·exact ⟨_,za3 _ _ _⟩
   ·exact ⟨Lg,hsub _ _ e3⟩
  ·obtain ⟨Lg,e3⟩:=h.grp k L v e g cl sh e1 e2
   exact ⟨Lg,hsub _ _ e3⟩
 ·have he:(w.heap.push ob)[L.blk]? =some (.cells cs e fr):=he
  rcases hback k L hjk with ⟨rfl,rfl⟩|⟨_,hjk⟩
  ·rw [show (w.heap.push ob)[w.heap.size]? =some ob by simp] at he
   cases o with
   | cells v esz g cl sh own=>
    obtain ⟨_,_,arr,e',rfl,_⟩:=hnew
    cases he;rfl
   | map es clock=>obtain ⟨_,arr,rfl,_⟩:=hnew;cases he
   | iter m since seen stepped=>obtain ⟨_,m',sa,rfl,_⟩:=hnew;cases he
   | mapu es=>obtain ⟨_,arr,clock,es',rfl,_⟩:=hnew;cases he
   | mapx=>exact hnew.elim
   | opq=>exact hnew.elim
   | gs=>exact hnew.elim
  ·rw [hold _ (h.blk k L hjk hq)] at he
   exact h.fz k L hjk hq hi cs e fr he
 ·by_cases hk:0=n
  ·rw [←hk] at hn
   obtain ⟨kk,rfl⟩:=h.z0 _ hn
   exact hnew.elim
  ·rw [zbO _ _ hk];exact h.n0
 ·refine h.gho' hsub (by simp) (fun b hb _=>hold b hb) (fun b hb=> ?_)
  obtain ⟨k,L,e,q,rfl⟩:=hb
  rcases hback k L e with ⟨_,rfl⟩|⟨_,e⟩
  ·exact Or.inr (Nat.le_refl _)
  ·exact Or.inl ⟨k,L,e,q,rfl⟩
theorem Inv.alloc (h:Inv ρ w0 j H w) {o:Obj} {ob:Go.Obj} {c:Nat} (hnew:NewR ρ j o ob c)
  (hg: ∀v e g cl sh,o= .cells v e g cl sh true→g=H.nx∨ ∃Lg,j g=some Lg):
  Inv ρ w0 (jset j H.nx ⟨w.heap.size,0,c,none⟩) (H.alloc o) { w with heap:=w.heap.push ob }∧St j H (jset j H.nx ⟨w.heap.size,0,c,none⟩) (H.alloc o):=by
 have hj:j H.nx=none:=by
  cases e:j H.nx with
  | none=>rfl
  | some L=>exact absurd (h.dom _ _ e) (Nat.lt_irrefl _)
 have h1:=h.extend o (fun v e g t sh ow ho=>by
  subst ho
  obtain ⟨_,hc,_⟩:=hnew
  cases hc)
 have hn:(H.alloc o).m.get H.nx=some o:=by rw [Heap.alloc_eq];exact T.get_set_same _ _ _
 refine ⟨h1.adopt hn hj hnew hg,zbX hj,fun n L e e0=> ?_,(St.extend h o).keep,(St.extend h o).nx⟩
 by_cases hk:n=H.nx
 ·omega
 ·rw [zbO _ _ hk,e0] at e;cases e
theorem zJq {n:Nat} {v:Vec} (h:H.row n=some v): ∃e g c sh ow,H.m.get n=some (.cells v e g c sh ow)∧alive H.gw g c=true:=by
 unfold Heap.row at h
 split at h
 ·split at h
  ·rename_i hm _ ha;cases h;exact ⟨_,_,_,_,_,hm,ha⟩
  ·cases h
 ·cases h
theorem Inv.row (h:Inv ρ w0 j H w) {n:Nat} {L:Loc} {v:Vec} (hj:j n=some L) (hr:H.row n=some v):
  ∃ arr e fr,w.heap[L.blk]? =some (.cells arr e fr)∧L.off+v.n≤arr.size∧ ∀i,i<v.n→ ∃x,arr[L.off+i]? =some x∧R ρ j (v.get i) x:=by
 obtain ⟨e,g,c,sh,ow,hm,ha⟩:=zJq hr
 obtain ⟨o,h1,h2⟩:=h.obj n L hj
 rw [hm] at h1
 cases h1
 obtain ⟨arr,e,fr,h3,h4,_,h5⟩:=h2.2.2 ha
 exact ⟨arr,e,fr,h3,h4,h5⟩
theorem Inv.cell (h:Inv ρ w0 j H w) {n off:Nat} {L:Loc} {v:Vec} (hj:j n=some L) (hr:H.row n=some v) (ho:off<v.n):
  ∃ x,w.cell? ⟨L.blk,L.off+off,none⟩=some x∧R ρ j (v.get off) x:=by
 obtain ⟨arr,e,fr,h1,_,h3⟩:=h.row hj hr
 obtain ⟨x,h4,h5⟩:=h3 off ho
 exact ⟨x,by simp [World.cell?,h1,h4],h5⟩
theorem addr_add (b o i:Nat):(⟨b,o,none⟩:Addr).add i=⟨b,o+i,none⟩:=by unfold Addr.add;split<;>simp_all
theorem Inv.loadCells {P:Program} (h:Inv ρ w0 j H w) {n off k:Nat} {L:Loc} {v:Vec} (hj:j n=some L) (hr:H.row n=some v) (ho:off+k≤v.n):
  ∃ xs:List Value,(Go.loadCells ⟨L.blk,L.off+off,none⟩ k).run P w= .ok xs.toArray w∧RL ρ j (v.list off k) xs:=by
 have hc: ∀i,i<k→ ∃x,w.cell? ⟨L.blk,L.off+off+i,none⟩=some x∧R ρ j (v.get (off+i)) x:=fun i hi=>by
  have:=h.cell hj hr (off:=off+i) (by omega)
  rwa [←Nat.add_assoc] at this
 let f:Nat→Value:=fun i=>(w.cell? ⟨L.blk,L.off+off+i,none⟩).getD undef
 refine ⟨(List.range k).map f,run_loadCells w _ k f fun i hi=> ?_,RL.of_get (by simp [Vec.length_list]) fun i a ha=> ?_⟩
 ·obtain ⟨x,h1,_⟩:=hc i hi
  rw [addr_add,h1];simp [f,h1]
 ·have hi:i<k:=by
   rcases Nat.lt_or_ge i k with h'|h'
   ·exact h'
   ·rw [List.getElem?_eq_none (by rw [Vec.length_list];exact h')] at ha;cases ha
  rw [Vec.getElem_list k v off i hi] at ha
  obtain ⟨x,h1,h2⟩:=hc i hi
  refine ⟨x,by simp [hi,f,h1],?_⟩
  rw [←Option.some.inj ha];exact h2
theorem zCt (gw:T Nat) (g x g':Nat) (c:Option Nat) (h:alive (gw.set g x) g' c=true) (hx: ∀y,gw.get g=some y→y≤x):alive gw g' c=true:=by
 unfold alive at*
 cases c with
 | none=>rfl
 | some t=>
  simp only at*
  by_cases hg:g'=g
  ·subst hg
   rw [T.get_set_same] at h
   simp only [Nat.blt_eq] at h
   cases e:gw.get g' with
   | none=>rfl
   | some y=>simp only [Nat.blt_eq];have:=hx y e;omega
  ·rw [T.get_set_ne _ _ hg] at h;exact h
theorem Inv.stored (h:Inv ρ w0 j H w) {n off:Nat} {L:Loc} {v:Vec} {esz g:Nat} {sh:Bool} {l:List AV} {vs:List Value} {gw':T Nat} (hj:j n=some L)
  (hm:H.m.get n=some (.cells v esz g none sh true)) (hl:off+l.length≤v.n) (hc:zeo l=true) (hr:RL ρ j l vs)
  (hA: ∀g' c,alive gw' g' c=true→alive H.gw g' c=true)
  (hB: ∀m Lm vm em gm cm sm om,m≠n→j m=some Lm→Lm.blk=L.blk→H.m.get m=some (.cells vm em gm cm sm om)→alive gw' gm cm=false)
  (hC: ∀g x,gw'.get g=some x→x≤H.nx) (P:Program):
  ∃ w',(storeCells ⟨L.blk,L.off+off,none⟩ vs).run P w= .ok () w'∧Inv ρ w0 j ⟨H.m.set n (.cells (v.put off l) esz g none false true),H.nx,gw'⟩ w':=by
 obtain ⟨o,h1,h2⟩:=h.obj n L hj
 rw [hm] at h1
 cases h1
 obtain ⟨hq,hbase,hcont⟩:=h2
 rw [if_pos rfl] at hbase
 obtain ⟨arr,e,fr,hb,hs1,hs2,hcells⟩:=hcont rfl
 have hfr:=h.fz _ _ hj hq hbase _ _ _ hb
 subst hfr
 have hlen:=hr.length
 have hrun:=run_storeCells_at (P:=P) L.blk (L.off+off) e vs 0 arr w hb (by omega) (znw hr hc)
 refine ⟨_,hrun,?_⟩
 generalize harr':(arr.toList.take (L.off+off+0)++vs++arr.toList.drop (L.off+off+0+vs.length)).toArray=arr'
 have hsz:arr'.size=arr.size:=by rw [←harr'];simp;omega
 have hget: ∀k,arr'[k]? =if L.off+off≤k∧k<L.off+off+vs.length then vs[k-(L.off+off)]? else arr[k]? :=fun k=>by
  rw [←harr']
  simp only [Nat.add_zero,List.getElem?_toArray]
  by_cases hk:k<L.off+off
  ·rw [if_neg (by omega),List.append_assoc,List.getElem?_append_left (by simp;omega),List.getElem?_take_of_lt hk];simp
  ·by_cases hk2:k<L.off+off+vs.length
   ·rw [if_pos (by omega),List.append_assoc,List.getElem?_append_right (by simp;omega),List.getElem?_append_left (by simp;omega)]
    congr 1;simp;omega
   ·rw [if_neg (by omega),List.getElem?_append_right (by simp;omega),List.getElem?_drop]
    simp only [List.length_append,List.length_take,Array.length_toList,Array.getElem?_toList]
    congr 1;omega
 have hset:=setRow_heap w L.blk arr arr' e (0,0) hb
 have hoth: ∀k,k≠L.blk→(w.setRow L.blk arr').heap[k]? =w.heap[k]? :=fun k hk=>setRow_other w L.blk k arr' hk
 have hold: ∀k,k≠n→(H.m.set n (.cells (v.put off l) esz g none false true)).get k=H.m.get k:=fun k hk=>T.get_set_ne _ _ hk
 refine ⟨h.fr.then (by simp) (by simp) rfl (by simp) (fun i _ ho=>hoth i (fun e=>ho (e▸hbase))),h.dom,fun k Lk e q=>by simpa using h.blk k Lk e q,fun k o' e=> ?_,fun k Lk e=> ?_,fun k m Lk Lm hkm e1 e2 q1 q2 hbk=> ?_,fun k v' e' g' t sh' ow he=> ?_,hC,fun k Lk v' e' g' c sh' e1 e2=> ?_,fun k Lk hjk hqk hi c e' fr he=> ?_,fun k Lk v' e' c sh' e1 e2=> ?_,h.n0,h.nx0,h.z0set (h.ne0 hj) _,?_⟩
 ·by_cases hk:k=n
  ·subst hk;exact h.dom _ _ hj
  ·rw [hold k hk] at e;exact h.used k o' e
 ·by_cases hk:k=n
  ·subst hk
   rw [hj] at e;cases e
   refine ⟨_,T.get_set_same _ _ _,hq,by rw [if_pos rfl];exact hbase,fun _=>⟨arr',e,(0,0),hset,by rw [Vec.n_put,hsz];exact hs1,⟨by rw [hsz];exact hs2.1,by rw [Vec.n_put];exact hs2.2⟩,fun i hi=> ?_⟩⟩
   rw [Vec.n_put] at hi
   rw [hget,Vec.get_put]
   by_cases hin:off≤i∧i<off+l.length
   ·rw [if_pos (by omega),dif_pos hin]
    obtain ⟨x,h3,h4⟩:=hr.get (i-off) _ (List.getElem?_eq_getElem (by omega))
    exact ⟨x,by rw [←h3];congr 1;omega,h4⟩
   ·rw [if_neg (by omega),dif_neg hin]
    exact hcells i hi
  ·obtain ⟨o',h3,h4⟩:=h.obj k Lk e
   refine ⟨o',by rw [hold k hk];exact h3,?_⟩
   by_cases hqk:Lk.q=none
   case neg=>
    cases o' with
    | opq=>exact h4
    | gs=>exact h4.elim
    | _=>exact absurd h4.1 hqk
   by_cases hbk:Lk.blk=L.blk
   ·obtain ⟨vn,en,gn,cn,sn,on,vm,em,gm,cm,sm,om,h5,h6,_⟩:=h.sep k n Lk L hk e hj hqk hq hbk
    rw [h3] at h5;cases h5
    refine ⟨h4.1,h4.2.1,fun ha=> ?_⟩
    rw [hB k Lk vn en gn cn sn on hk e hbk h3] at ha
    cases ha
   ·have hw:=hoth _ hbk
    cases o' with
    | cells v' esz' g' c' sh' ow'=>exact ⟨h4.1,h4.2.1,fun ha=>let ⟨a1,a2,a3,a4,a5⟩:=h4.2.2 (hA _ _ ha);⟨a1,a2,a3,by rw [hw];exact a4,a5⟩⟩
    | map es clock=>obtain ⟨a0,a1,a2,a3,a4,a5⟩:=h4;exact ⟨a0,a1,a2,a3,by rw [hw];exact a4,a5⟩
    | iter m since seen stepped=>obtain ⟨a0,a1,a2,a3,a4,a5,a6⟩:=h4;exact ⟨a0,a1,a2,a3,a4,by rw [hw];exact a5,a6⟩
    | mapu es=>obtain ⟨a0,a1,a2,a3,a4,a5,a6⟩:=h4;exact ⟨a0,a1,a2,a3,a4,a5,by rw [hw];exact a6⟩
    | mapx kn log=>obtain ⟨a0,a1,a2,a3,a4,a5,a6,a7,a8,a9,a10⟩:=h4;exact ⟨a0,a1,a2,a3,a4,a5,a6,a7,a8,by rw [hw];exact a9,a10⟩
    | opq=>exact h4
    | gs=>exact h4.elim
 ·obtain ⟨vn,en,gn,cn,sn,on,vm,em,gm,cm,sm,om,h3,h4,h5,h6⟩:=h.sep k m Lk Lm hkm e1 e2 q1 q2 hbk
  by_cases hk:k=n
  ·subst hk
   have hmk:m≠k:=fun h'=>hkm h'.symm
   rw [hj] at e1;cases e1
   rw [hm] at h3;cases h3
   refine ⟨_,_,_,_,_,_,vm,em,gm,cm,sm,om,T.get_set_same _ _ _,by rw [hold m hmk];exact h4,h5,fun ho=>⟨(h6 ho).1,fun _ ha=> ?_⟩⟩
   rw [hB m Lm vm em gm cm sm om hmk e2 hbk.symm h4] at ha
   cases ha
  ·by_cases hmn:m=n
   ·subst hmn
    rw [hj] at e2;cases e2
    rw [hm] at h4;cases h4
    refine ⟨vn,en,gn,cn,sn,on,_,_,_,_,_,_,by rw [hold k hk];exact h3,T.get_set_same _ _ _,h5,fun ho=>⟨(h6 ho).1,fun ha=> ?_⟩⟩
    rw [hB k Lk vn en gn cn sn on hk e1 hbk h3] at ha
    cases ha
   ·exact ⟨vn,en,gn,cn,sn,on,vm,em,gm,cm,sm,om,by rw [hold k hk];exact h3,by rw [hold m hmn];exact h4,h5,fun ho=>⟨(h6 ho).1,fun a1 a2=>(h6 ho).2 (hA _ _ a1) (hA _ _ a2)⟩⟩
 ·by_cases hk:k=n
  ·subst hk;rw [T.get_set_same] at he;cases he
  ·rw [hold k hk] at he;exact h.tim k v' e' g' t sh' ow he
 ·by_cases hk:k=n
  ·subst hk
   rw [T.get_set_same] at e2;cases e2
   exact h.grp k Lk _ _ _ _ _ e1 hm
  ·rw [hold k hk] at e2;exact h.grp k Lk v' e' g' c sh' e1 e2
 ·by_cases hi2:Lk.blk=L.blk
  ·rw [hi2] at he;rw [hset] at he;cases he;rfl
  ·rw [hoth _ hi2] at he;exact h.fz k Lk hjk hqk hi c e' fr he
 ·by_cases hk:k=n
  ·subst hk
   rw [T.get_set_same] at e2;cases e2
   exact h.off0 _ Lk _ _ _ _ e1 hm
  ·rw [hold k hk] at e2;exact h.off0 k Lk v' e' c sh' e1 e2
 ·rw [zrj H _ (h.ne0 hj)]
  exact h.gho' (Sub.refl j) (by simp) (fun b _ hb=>hoth b (fun e=>hb ⟨n,L,hj,hq,e.symm⟩)) (fun b hb=>Or.inl hb)
theorem Inv.store (h:Inv ρ w0 j H w) {n off:Nat} {L:Loc} {l:List AV} {vs:List Value} {H':Heap} (hst:H.store n off l=some H') (hj:j n=some L) (hr:RL ρ j l vs) (P:Program):
    ∃ w',(storeCells ⟨L.blk,L.off+off,none⟩ vs).run P w= .ok () w'∧Inv ρ w0 j H' w'∧St j H j H':=by
  unfold Heap.store at hst
  split at hst
  case h_2=>cases hst
  rename_i v esz g sh hm
  split at hst
  case h_2=>cases hst
  rename_i hle hc
  have hle:off+l.length≤v.n:=Nat.le_of_ble_eq_true hle
  have hgs:=h.grp n L v esz g none sh hj hm
  have hne: ∀k,j k=none→k≠n:=fun k e hk=>by subst hk;rw [hj] at e;cases e
  split at hst
  · cases hst
    obtain ⟨w',h1,h2⟩:=h.stored hj hm hle hc hr (gw':=H.gw) (fun _ _ x=>x) (fun m Lm vm em gm cm sm om hmn e hb hmm=>by
      obtain ⟨vn,en,gn,cn,sn,on,vm',em',gm',cm',sm',om',h3,h4,h5,h6⟩:=h.sep n m L Lm (fun h'=>hmn h'.symm) hj e (h.qrow hj hm) (h.qrow e hmm) hb.symm
      rw [hm] at h3;cases h3
      rw [hmm] at h4;cases h4
      cases ha:alive H.gw gm cm with
      | false=>rfl
      | true=>exact absurd ((h6 rfl).2 rfl ha rfl).1 (by simp)) h.gwt P
    refine ⟨w',h1,by rw [Heap.upd_eq];exact h2,?_⟩
    rw [Heap.upd_eq]
    exact ⟨Sub.refl j,(fun k L e e'=>by rw [e] at e';cases e'),fun k _ e _=>⟨T.get_set_ne _ _ (hne k e),rfl⟩,Nat.le_refl _⟩
  · cases hst
    obtain ⟨w',h1,h2⟩:=h.stored hj hm hle hc hr (gw':=H.gw.set g H.nx) (fun g' c x=>zCt _ _ _ _ _ x (fun y hy=>h.gwt g y hy)) (fun m Lm vm em gm cm sm om hmn e hb hmm=>by
      obtain ⟨vn,en,gn,cn,sn,on,vm',em',gm',cm',sm',om',h3,h4,h5,h6⟩:=h.sep n m L Lm (fun h'=>hmn h'.symm) hj e (h.qrow hj hm) (h.qrow e hmm) hb.symm
      rw [hm] at h3;cases h3
      rw [hmm] at h4;cases h4
      obtain ⟨rfl,h7⟩:=h6 rfl
      cases cm with
      | none=>exact absurd rfl (h7 rfl rfl rfl).2.1
      | some t=>
        have:=h.tim m vm em g t sm _ hmm
        simp only [alive,T.get_set_same]
        cases hx:Nat.blt H.nx t with
        | false=>rfl
        | true=>rw [Nat.blt_eq] at hx;omega)
      (fun g' x e=>by
        by_cases hg:g'=g
        · subst hg;rw [T.get_set_same] at e;cases e;exact Nat.le_refl _
        · rw [T.get_set_ne _ _ hg] at e;exact h.gwt g' x e) P
    refine ⟨w',h1,by rw [Heap.wrote_eq,Heap.upd_eq];exact h2,?_⟩
    rw [Heap.wrote_eq,Heap.upd_eq]
    obtain ⟨Lg,hLg⟩:=hgs
    exact ⟨Sub.refl j,(fun k L e e'=>by rw [e] at e';cases e'),fun k _ e _=>⟨T.get_set_ne _ _ (hne k e),T.get_set_ne _ _ (fun hk=>by subst hk;rw [hLg] at e;cases e)⟩,Nat.le_refl _⟩
theorem Inv.turned (h:Inv ρ w0 j H w) {n:Nat} {L:Loc} {v:Vec} {row:List AV} (hj:j n=some L) (hm:H.m.get n=some (.cells v 0 n none false true)) (hl:row.length=v.n)
  {w':World} {arr':Array Value} {e':TypeId} (hset:w'.heap[L.blk]? =some (.cells arr' e' (0,0))) (hoth: ∀k,k≠L.blk→w'.heap[k]? =w.heap[k]?) (hsize:w'.heap.size=w.heap.size)
  (hos:w'.os=w.os) (hout:w'.output=w.output) (htape:w'.tape=w.tape) (hn:L.off+v.n≤arr'.size) (hc: ∀i a,row[i]? =some a→ ∃x,arr'[L.off+i]? =some x∧R ρ j a x):
  Inv ρ w0 j ⟨H.m.set n (.cells (Vec.ofList row) 0 n none false true),H.nx,H.gw⟩ w':=by
 obtain ⟨o,h1,h2⟩:=h.obj n L hj
 rw [hm] at h1
 cases h1
 obtain ⟨hq,hbase,hcont⟩:=h2
 rw [if_pos rfl] at hbase
 obtain ⟨arr,e,fr,hb,hs1,hs2,hcells⟩:=hcont rfl
 have hB: ∀m Lm vm em gm cm sm om,m≠n→j m=some Lm→Lm.blk=L.blk→H.m.get m=some (.cells vm em gm cm sm om)→alive H.gw gm cm=false:=fun m Lm vm em gm cm sm om hmn e hb hmm=>by
  obtain ⟨vn,en,gn,cn,sn,on,vm',em',gm',cm',sm',om',h3,h4,h5,h6⟩:=h.sep n m L Lm (fun h'=>hmn h'.symm) hj e (h.qrow hj hm) (h.qrow e hmm) hb.symm
  rw [hm] at h3;cases h3
  rw [hmm] at h4;cases h4
  cases ha:alive H.gw gm cm with
  | false=>rfl
  | true=>exact absurd ((h6 rfl).2 rfl ha rfl).1 (by simp)
 have hold: ∀k,k≠n→(H.m.set n (.cells (Vec.ofList row) 0 n none false true)).get k=H.m.get k:=fun k hk=>T.get_set_ne _ _ hk
 refine ⟨h.fr.then hos hout htape (by omega) (fun i _ ho=>hoth i (fun e=>ho (e▸hbase))),h.dom,fun k Lk e q=>by rw [hsize];exact h.blk k Lk e q,fun k o' e=> ?_,fun k Lk e=> ?_,fun k m Lk Lm hkm e1 e2 q1 q2 hbk=> ?_,fun k v' e' g' t sh' ow he=> ?_,h.gwt,fun k Lk v' e' g' c sh' e1 e2=> ?_,fun k Lk hjk hqk hi c e' fr he=> ?_,fun k Lk v' e' c sh' e1 e2=> ?_,h.n0,h.nx0,h.z0set (h.ne0 hj) _,?_⟩
 ·by_cases hk:k=n
  ·subst hk;exact h.dom _ _ hj
  ·rw [hold k hk] at e;exact h.used k o' e
 ·by_cases hk:k=n
  ·subst hk
   rw [hj] at e;cases e
   refine ⟨_,T.get_set_same _ _ _,hq,by rw [if_pos rfl];exact hbase,fun _=>⟨arr',e',(0,0),hset,by rw [Vec.n_ofList,hl];exact hn,⟨by omega,fun h0=> ?_⟩,fun i hi=> ?_⟩⟩
   ·rw [Vec.n_ofList,hl];exact hs2.2 h0
   ·rw [Vec.n_ofList] at hi
    rw [Vec.get_ofList row i hi]
    exact hc i _ (List.getElem?_eq_getElem hi)
  ·obtain ⟨o',h3,h4⟩:=h.obj k Lk e
   refine ⟨o',by rw [hold k hk];exact h3,?_⟩
   by_cases hqk:Lk.q=none
   case neg=>
    cases o' with
    | opq=>exact h4
    | gs=>exact h4.elim
    | _=>exact absurd h4.1 hqk
   by_cases hbk:Lk.blk=L.blk
   ·obtain ⟨vn,en,gn,cn,sn,on,vm,em,gm,cm,sm,om,h5,h6,_⟩:=h.sep k n Lk L hk e hj hqk hq hbk
    rw [h3] at h5;cases h5
    refine ⟨h4.1,h4.2.1,fun ha=> ?_⟩
    have ha:alive H.gw gn cn=true:=ha
    rw [hB k Lk vn en gn cn sn on hk e hbk h3] at ha
    cases ha
   ·have hw:=hoth _ hbk
    cases o' with
    | cells v' esz' g' c' sh' ow'=>exact ⟨h4.1,h4.2.1,fun ha=>let ⟨a1,a2,a3,a4,a5⟩:=h4.2.2 ha;⟨a1,a2,a3,by rw [hw];exact a4,a5⟩⟩
    | map es clock=>obtain ⟨a0,a1,a2,a3,a4,a5⟩:=h4;exact ⟨a0,a1,a2,a3,by rw [hw];exact a4,a5⟩
    | iter m since seen stepped=>obtain ⟨a0,a1,a2,a3,a4,a5,a6⟩:=h4;exact ⟨a0,a1,a2,a3,a4,by rw [hw];exact a5,a6⟩
    | mapu es=>obtain ⟨a0,a1,a2,a3,a4,a5,a6⟩:=h4;exact ⟨a0,a1,a2,a3,a4,a5,by rw [hw];exact a6⟩
    | mapx kn log=>obtain ⟨a0,a1,a2,a3,a4,a5,a6,a7,a8,a9,a10⟩:=h4;exact ⟨a0,a1,a2,a3,a4,a5,a6,a7,a8,by rw [hw];exact a9,a10⟩
    | opq=>exact h4
    | gs=>exact h4.elim
 ·obtain ⟨vn,en,gn,cn,sn,on,vm,em,gm,cm,sm,om,h3,h4,h5,h6⟩:=h.sep k m Lk Lm hkm e1 e2 q1 q2 hbk
  by_cases hk:k=n
  ·subst hk
   have hmk:m≠k:=fun h'=>hkm h'.symm
   rw [hj] at e1;cases e1
   rw [hm] at h3;cases h3
   refine ⟨_,_,_,_,_,_,vm,em,gm,cm,sm,om,T.get_set_same _ _ _,by rw [hold m hmk];exact h4,h5,fun ho=>⟨(h6 ho).1,fun _ ha=> ?_⟩⟩
   have ha:alive H.gw gm cm=true:=ha
   rw [hB m Lm vm em gm cm sm om hmk e2 hbk.symm h4] at ha
   cases ha
  ·by_cases hmn:m=n
   ·subst hmn
    rw [hj] at e2;cases e2
    rw [hm] at h4;cases h4
    refine ⟨vn,en,gn,cn,sn,on,_,_,_,_,_,_,by rw [hold k hk];exact h3,T.get_set_same _ _ _,h5,fun ho=>⟨(h6 ho).1,fun ha=> ?_⟩⟩
    have ha:alive H.gw gn cn=true:=ha
    rw [hB k Lk vn en gn cn sn on hk e1 hbk h3] at ha
    cases ha
   ·exact ⟨vn,en,gn,cn,sn,on,vm,em,gm,cm,sm,om,by rw [hold k hk];exact h3,by rw [hold m hmn];exact h4,h5,h6⟩
 ·by_cases hk:k=n
  ·subst hk;rw [T.get_set_same] at he;cases he
  ·rw [hold k hk] at he;exact h.tim k v' e' g' t sh' ow he
 ·by_cases hk:k=n
  ·subst hk
   rw [T.get_set_same] at e2;cases e2
   exact h.grp k Lk _ _ _ _ _ e1 hm
  ·rw [hold k hk] at e2;exact h.grp k Lk v' e' g' c sh' e1 e2
 ·by_cases hi2:Lk.blk=L.blk
  ·rw [hi2] at he;rw [hset] at he;cases he;rfl
  ·rw [hoth _ hi2] at he;exact h.fz k Lk hjk hqk hi c e' fr he
 ·by_cases hk:k=n
  ·subst hk
   rw [T.get_set_same] at e2;cases e2
   exact h.off0 _ Lk _ _ _ _ e1 hm
  ·rw [hold k hk] at e2;exact h.off0 k Lk v' e' c sh' e1 e2
 ·rw [zrj H _ (h.ne0 hj)]
  exact h.gho' (Sub.refl j) (by omega) (fun b _ hb=>hoth b (fun e=>hb ⟨n,L,hj,hq,e.symm⟩)) (fun b hb=>Or.inl hb)
def zim:Obj→Bool
 | .cells .. =>false
 | .opq=>false
 | .gs _=>false
 | _=>true
def zA4:Go.Obj→Bool
 | .cells .. =>false
 | _=>true
theorem Inv.setObj (h:Inv ρ w0 j H w) {n:Nat} {L:Loc} {o o':Obj} {ob:Go.Obj} (hj:j n=some L) (hm:H.m.get n=some o) (ho:zim o=true) (ho':zim o'=true)
  (hob:zA4 ob=true) (hR: ∀w':World,w'.heap[L.blk]? =some ob→ObjR ρ j w0 w' H.gw L o'):
  Inv ρ w0 j (H.upd n o') { w with heap:=w.heap.setIfInBounds L.blk ob }∧St j H j (H.upd n o'):=by
 rw [Heap.upd_eq]
 obtain ⟨o1,h1,h2⟩:=h.obj n L hj
 rw [hm] at h1;cases h1
 have hq:L.q=none:=h.q hj hm (by intro e;subst e;cases ho)
 have hbase:w0.own L.blk:=by
  cases o with
  | cells=>cases ho
  | map=>exact h2.2.1
  | iter=>exact h2.2.1
  | mapu=>exact h2.2.1
  | mapx=>exact h2.2.1
  | opq=>cases ho
  | gs=>cases ho
 have hlt:=h.blk n L hj hq
 have hself:(w.heap.setIfInBounds L.blk ob)[L.blk]? =some ob:=by simp [hlt]
 have hoth: ∀k,k≠L.blk→(w.heap.setIfInBounds L.blk ob)[k]? =w.heap[k]? :=fun k hk=>by rw [Array.getElem?_setIfInBounds_ne (Ne.symm hk)]
 have hold: ∀k,k≠n→(H.m.set n o').get k=H.m.get k:=fun k hk=>T.get_set_ne _ _ hk
 have huniq: ∀m Lm,m≠n→j m=some Lm→Lm.q=none→Lm.blk≠L.blk:=fun m Lm hmn e hqm hb=>by
  obtain ⟨vn,en,gn,cn,sn,on,vm,em,gm,cm,sm,om,h3,h4,_⟩:=h.sep m n Lm L hmn e hj hqm hq hb
  rw [hm] at h4;cases h4;cases ho
 have hne: ∀k,j k=none→k≠n:=fun k e hk=>by subst hk;rw [hj] at e;cases e
 refine ⟨⟨h.fr.then rfl rfl rfl (by simp) (fun i _ hi=>hoth i (fun e=>hi (e▸hbase))),h.dom,fun k Lk e q=> ?_,fun k o' e=> ?_,fun k Lk e=> ?_,fun k m Lk Lm hkm e1 e2 q1 q2 hbk=> ?_,fun k v' e' g' t sh' ow he=> ?_,h.gwt,fun k Lk v' e' g' c sh' e1 e2=> ?_,fun k Lk hjk hqk hi c e' fr he=> ?_,fun k Lk v' e' c sh' e1 e2=> ?_,h.n0,h.nx0,h.z0set (h.ne0 hj) _,?_⟩,
  Sub.refl j,(fun k L e e'=>by rw [e] at e';cases e'),fun k _ e _=>⟨hold k (hne k e),rfl⟩,Nat.le_refl _⟩
 ·show Lk.blk<(w.heap.setIfInBounds L.blk ob).size
  simpa using h.blk k Lk e q
 ·by_cases hk:k=n
  ·subst hk;exact h.dom _ _ hj
  ·rw [hold k hk] at e;exact h.used k _ e
 ·by_cases hk:k=n
  ·subst hk
   rw [hj] at e;cases e
   exact ⟨o',T.get_set_same _ _ _,hR _ hself⟩
  ·obtain ⟨o2,h3,h4⟩:=h.obj k Lk e
   exact ⟨o2,by rw [hold k hk];exact h3,ObjR.grow (Sub.refl j) (fun q=>hoth _ (huniq k Lk hk e q)) h4⟩
 ·by_cases hk:k=n
  ·subst hk
   rw [hj] at e1;cases e1
   exact absurd hbk.symm (huniq m Lm (fun h'=>hkm h'.symm) e2 q2)
  ·by_cases hmn:m=n
   ·subst hmn
    rw [hj] at e2;cases e2
    exact absurd hbk (huniq k Lk hk e1 q1)
   ·obtain ⟨vn,en,gn,cn,sn,on,vm,em,gm,cm,sm,om,h3,h4,h5⟩:=h.sep k m Lk Lm hkm e1 e2 q1 q2 hbk
    exact ⟨vn,en,gn,cn,sn,on,vm,em,gm,cm,sm,om,by rw [hold k hk];exact h3,by rw [hold m hmn];exact h4,h5⟩
 ·by_cases hk:k=n
  ·subst hk;rw [T.get_set_same] at he;cases he;cases ho'
  ·rw [hold k hk] at he;exact h.tim k v' e' g' t sh' ow he
 ·by_cases hk:k=n
  ·subst hk;rw [T.get_set_same] at e2;cases e2;cases ho'
  ·rw [hold k hk] at e2;exact h.grp k Lk v' e' g' c sh' e1 e2
 ·have he:(w.heap.setIfInBounds L.blk ob)[Lk.blk]? =some (.cells c e' fr):=he
  by_cases hi2:Lk.blk=L.blk
  ·rw [hi2,hself] at he;cases he;cases hob
  ·rw [hoth _ hi2] at he;exact h.fz k Lk hjk hqk hi c e' fr he
 ·by_cases hk:k=n
  ·subst hk;rw [T.get_set_same] at e2;cases e2;cases ho'
  ·rw [hold k hk] at e2;exact h.off0 k Lk v' e' c sh' e1 e2
 ·rw [zrj H _ (h.ne0 hj)]
  exact h.gho' (Sub.refl j) (by simp) (fun b _ hb=>hoth b (fun e=>hb ⟨n,L,hj,hq,e.symm⟩)) (fun b hb=>Or.inl hb)
theorem znC {n:Nat} {es:List ME} {c:Nat} (h:H.mapAt n=some (es,c)):H.m.get n=some (.map es c):=by
 unfold Heap.mapAt at h
 split at h
 ·rename_i hm;cases h;exact hm
 ·cases h
theorem Inv.mapAt (h:Inv ρ w0 j H w) {n:Nat} {L:Loc} {es:List ME} {c:Nat} (hj:j n=some L) (hm:H.mapAt n=some (es,c)):
  ∃ arr,w.heap[L.blk]? =some (.map arr c)∧RM ρ j es arr.toList:=by
 obtain ⟨o,h1,h2⟩:=h.obj n L hj
 rw [znC hm] at h1;cases h1
 exact h2.2.2.2
theorem zBc {n:Nat} {es:List ME} (h:H.mapuAt n=some es):H.m.get n=some (.mapu es):=by
 unfold Heap.mapuAt at h
 split at h
 ·rename_i hm;cases h;exact hm
 ·cases h
theorem Inv.mapuAt (h:Inv ρ w0 j H w) {n:Nat} {L:Loc} {es:List ME} (hj:j n=some L) (hm:H.mapuAt n=some es):
  ∃ arr clock es',w.heap[L.blk]? =some (.map arr clock)∧es'.Perm es∧RK ρ j es' arr.toList:=by
 obtain ⟨o,h1,h2⟩:=h.obj n L hj
 rw [zBc hm] at h1;cases h1
 exact h2.2.2.2
theorem Inv.hand (h:Inv ρ w0 j H w) {n:Nat} (hn:H.m.get n=some .opq) (hj:j n=none) (v:Value):Inv ρ w0 (jset j n ⟨0,0,0,some v⟩) H w:=by
 have hsub:=zbX (L:=⟨0,0,0,some v⟩) hj
 have hback: ∀k L,jset j n ⟨0,0,0,some v⟩ k=some L→(k=n∧L=⟨0,0,0,some v⟩)∨(k≠n∧j k=some L):=fun k L e=>by
  by_cases hk:k=n
  ·subst hk;rw [za3] at e;exact .inl ⟨rfl,(Option.some.inj e).symm⟩
  ·rw [zbO _ _ hk] at e;exact .inr ⟨hk,e⟩
 have hbq: ∀k L,jset j n ⟨0,0,0,some v⟩ k=some L→L.q=none→j k=some L:=fun k L e q=>by
  rcases hback k L e with ⟨_,rfl⟩|⟨_,e⟩
  ·cases q
  ·exact e
 refine ⟨h.fr,fun k L e=> ?_,fun k L e q=>h.blk k L (hbq k L e q) q,h.used,fun k L e=> ?_,fun k m Lk Lm hkm e1 e2 q1 q2 hb=>h.sep k m Lk Lm hkm (hbq _ _ e1 q1) (hbq _ _ e2 q2) q1 q2 hb,h.tim,h.gwt,fun k L v' e g cl sh e1 e2=> ?_,
  fun k L e q=>h.fz k L (hbq _ _ e q) q,fun k L v' e cl sh e1 e2=> ?_,?_,h.nx0,h.z0,h.gho' hsub (Nat.le_refl _) (fun _ _ _=>rfl) fun b hm=> ?_⟩
 ·rcases hback k L e with ⟨rfl,_⟩|⟨_,e⟩
  ·exact h.used _ _ hn
  ·exact h.dom k L e
 ·rcases hback k L e with ⟨rfl,rfl⟩|⟨_,e⟩
  ·exact ⟨.opq,hn,by show (some v)≠none;simp⟩
  ·obtain ⟨o',h1,h2⟩:=h.obj k L e
   exact ⟨o',h1,ObjR.grow hsub (fun _=>rfl) h2⟩
 ·rcases hback k L e1 with ⟨rfl,_⟩|⟨_,e1⟩
  ·rw [hn] at e2;cases e2
  ·obtain ⟨Lg,e3⟩:=h.grp k L v' e g cl sh e1 e2
   exact ⟨Lg,hsub _ _ e3⟩
 ·rcases hback k L e1 with ⟨rfl,_⟩|⟨_,e1⟩
  ·rw [hn] at e2;cases e2
  ·exact h.off0 k L v' e cl sh e1 e2
 ·by_cases hk:0=n
  ·rw [←hk] at hn
   obtain ⟨kk,h1⟩:=h.z0 _ hn
   cases h1
  ·rw [zbO _ _ hk];exact h.n0
 ·obtain ⟨k,L,e,q,rfl⟩:=hm
  exact .inl ⟨k,L,hbq k L e q,q,rfl⟩
theorem run_getObj_map (P:Program) {r:Nat} {arr:Array MapEntry} {c:Nat} (h:w.heap[r]? =some (.map arr c)):(getObj r).run P w= .ok (.map arr c) w:=by
 simp [getObj,Sem.run,h]
theorem run_setObj_map (P:Program) {r:Nat} {o o':Go.Obj} (h:w.heap[r]? =some o) (ho:zA4 o=true):(setObj r o').run P w= .ok () { w with heap:=w.heap.setIfInBounds r o' }:=by
 cases o<;>first|(cases ho;done)|simp [setObj,Sem.run,h]
theorem Inv.mapped (h:Inv ρ w0 j H w) {n:Nat} {L:Loc} {es es':List ME} {c c':Nat} {arr':Array MapEntry} (hj:j n=some L) (hm:H.mapAt n=some (es,c)) (hr:RM ρ j es' arr'.toList) (P:Program):
  ∃ w',(Go.setObj L.blk (.map arr' c')).run P w= .ok () w'∧Inv ρ w0 j (H.upd n (.map es' c')) w'∧St j H j (H.upd n (.map es' c')):=by
 obtain ⟨arr,h1,h2⟩:=h.mapAt hj hm
 obtain ⟨o,h3,h4⟩:=h.obj n L hj
 rw [znC hm] at h3;cases h3
 exact ⟨_,run_setObj_map P h1 rfl,h.setObj hj (znC hm) rfl rfl rfl fun w' e=>⟨h4.1,h4.2.1,h4.2.2.1,arr',e,hr⟩⟩
end
end Go.Dw
namespace Go.Dw
theorem znN {v:Value} {n:Int} (h:zxW v n=true):v= .int .i64 n:=by
 unfold zxW at h
 split at h
 ·rename_i m
  have:m=n:=by simpa using h
  rw [this]
 ·cases h
theorem zmF (n:Int):zxW (.int .i64 n) n=true:=by simp [zxW]
theorem zD7 {l:List MapEntry} (h:l.Pairwise fun a b=>a.key≠b.key) {e:MapEntry} {n:Int} (he:e∈l) (hk:e.key= .int .i64 n):l.find? (fun e=>zxW e.key n)=some e:=by
 induction l with
 | nil=>cases he
 | cons x l ih=>
  rw [List.pairwise_cons] at h
  rcases List.mem_cons.1 he with rfl|he
  ·rw [List.find?_cons_of_pos (by rw [hk];exact zmF n)]
  ·rw [List.find?_cons_of_neg (fun hx=>h.1 e he (by rw [znN hx,hk])),ih h.2 he]
theorem zcT {arr:Array MapEntry} (h:zdA arr) {e:MapEntry} {n:Int} (he:e∈arr.toList) (hk:e.key= .int .i64 n):zbm arr n=some e.val:=by
 unfold zbm
 rw [zD7 h.once he hk]
 rfl
theorem zdK {arr:Array MapEntry} {n:Int} (h: ∀e∈arr.toList,e.key≠ .int .i64 n):zbm arr n=none:=by
 unfold zbm
 rw [List.find?_eq_none.2 (fun e he hk=>h e he (znN hk))]
 rfl
theorem zgw {arr:Array MapEntry} {n:Int} {v:Value} (h:zbm arr n=some v): ∃e∈arr.toList,e.key= .int .i64 n∧e.val=v:=by
 unfold zbm at h
 rw [Option.map_eq_some_iff] at h
 obtain ⟨e,he,rfl⟩:=h
 exact ⟨e,List.mem_of_find?_eq_some he,znN (by simpa using List.find?_some he),rfl⟩
theorem zhi {arr:Array MapEntry} {n:Int} (h:zbm arr n=none): ∀e∈arr.toList,e.key≠ .int .i64 n:=fun e he hk=>by
 unfold zbm at h
 rw [Option.map_eq_none_iff,List.find?_eq_none] at h
 exact h e he (by rw [hk];exact zmF n)
theorem zcA {kk:IntKind} {n:Int}: ∀(xs:List MapEntry) (i:Nat),(∀e∈xs,∃m,e.key= .int .i64 m)→
  (Instr.findNow (.int kk) (.int .i64 n) xs i=some none∧ ∀e∈xs,e.key≠ .int .i64 n)∨(∃p e,Instr.findNow (.int kk) (.int .i64 n) xs i=some (some (i+p,e.val))∧xs[p]? =some e∧e.key= .int .i64 n)
 | [], i,_=> .inl ⟨rfl,by simp⟩
 | x::xs,i,h=>by
  obtain ⟨m,hm⟩:=h x (by simp)
  by_cases hmn:n=m
  ·subst hmn
   exact .inr ⟨0,x,by simp [Instr.findNow,Instr.sameNow,hm],rfl,hm⟩
  ·have hs:Instr.findNow (.int kk) (.int .i64 n) (x::xs) i=Instr.findNow (.int kk) (.int .i64 n) xs (i+1):=by
    have hb:(n==m)=false:=by simpa using hmn
    simp [Instr.findNow,Instr.sameNow,hm,hb]
   rw [hs]
   rcases zcA xs (i+1) (fun e he=>h e (by simp [he])) with ⟨h1,h2⟩|⟨p,e,h1,h2,h3⟩
   ·refine .inl ⟨h1,fun e he=> ?_⟩
    rcases List.mem_cons.1 he with rfl|he
    ·rw [hm];intro hh;cases hh;exact hmn rfl
    ·exact h2 e he
   ·exact .inr ⟨p+1,e,by rw [h1];congr 3;omega,by simpa using h2,h3⟩
theorem zdL {α:Type} (l:List α) (f:α→α) (p i:Nat):(l.modify p f)[i]? =if p=i then l[i]?.map f else l[i]? :=by
 rw [List.getElem?_modify]
 by_cases h:p=i
 ·simp only [if_pos h];cases l[i]? <;>rfl
 ·simp only [if_neg h];cases l[i]? <;>rfl
theorem zoi {arr:Array MapEntry} (h:zdA arr) {p:Nat} {e:MapEntry} {k:Int} {v:Value} (hp:arr.toList[p]? =some e) (hk:e.key= .int .i64 k):
  zdA (arr.modify p fun y=> { y with key:= .int .i64 k,val:=v })∧ ∀n,zbm (arr.modify p fun y=> { y with key:= .int .i64 k,val:=v }) n=if n=k then some v else zbm arr n:=by
 have hlt:p<arr.toList.length:=by
  rw [List.getElem?_eq_some_iff] at hp
  exact hp.1
 have hkeys:(arr.modify p fun y=> { y with key:= .int .i64 k,val:=v }).toList.map (·.key)=arr.toList.map (·.key):=by
  rw [Array.toList_modify]
  apply List.ext_getElem?
  intro i
  simp only [List.getElem?_map,zdL]
  by_cases hip:p=i
  ·subst hip;rw [hp];simp [hk]
  ·rw [if_neg hip]
 have hw:zdA (arr.modify p fun y=> { y with key:= .int .i64 k,val:=v }):=by
  refine ⟨fun e' he'=> ?_,?_⟩
  ·have:e'.key∈arr.toList.map (·.key):=by rw [←hkeys];exact List.mem_map_of_mem he'
   obtain ⟨e2,h2,h3⟩:=List.mem_map.1 this
   obtain ⟨n,hn⟩:=h.keys e2 h2
   exact ⟨n,by rw [←h3];exact hn⟩
  ·have h1:(arr.toList.map (·.key)).Pairwise (· ≠ ·):=List.pairwise_map.2 h.once
   rw [←hkeys] at h1
   exact List.pairwise_map.1 h1
 refine ⟨hw,fun n=> ?_⟩
 have hat:(arr.modify p fun y=> { y with key:= .int .i64 k,val:=v }).toList[p]? =some { e with key:= .int .i64 k,val:=v }:=by
  rw [Array.toList_modify,zdL,if_pos rfl,hp];rfl
 by_cases hn:n=k
 ·subst hn
  rw [if_pos rfl]
  exact zcT hw (List.mem_of_getElem? hat) rfl
 ·rw [if_neg hn]
  have oth: ∀e',e'.key≠ .int .i64 k→(e'∈(arr.modify p fun y=> { y with key:= .int .i64 k,val:=v }).toList↔e'∈arr.toList):=fun e' hne=>by
   rw [Array.toList_modify]
   simp only [List.mem_iff_getElem?,zdL]
   constructor
   ·rintro ⟨i,hi⟩
    by_cases hip:p=i
    ·subst hip;rw [if_pos rfl,hp] at hi;cases hi;exact absurd rfl hne
    ·rw [if_neg hip] at hi;exact ⟨i,by simpa using hi⟩
   ·rintro ⟨i,hi⟩
    by_cases hip:p=i
    ·subst hip;rw [hp] at hi;cases hi;exact absurd hk hne
    ·exact ⟨i,by rw [if_neg hip];simpa using hi⟩
  cases hv:zbm arr n with
  | none=>
   refine zdK fun e' he' hk'=> ?_
   have hne:e'.key≠ .int .i64 k:=by rw [hk'];intro hh;cases hh;exact hn rfl
   exact zhi hv e' ((oth e' hne).1 he') hk'
  | some u=>
   obtain ⟨e',he',hk',rfl⟩:=zgw hv
   have hne:e'.key≠ .int .i64 k:=by rw [hk'];intro hh;cases hh;exact hn rfl
   exact zcT hw ((oth e' hne).2 he') hk'
theorem zyn {arr:Array MapEntry} (h:zdA arr) {k:Int} {v:Value} {c:Nat} (hk: ∀e∈arr.toList,e.key≠ .int .i64 k):
  zdA (arr.push { key:= .int .i64 k,val:=v,born:=c })∧ ∀n,zbm (arr.push { key:= .int .i64 k,val:=v,born:=c }) n=if n=k then some v else zbm arr n:=by
 have hw:zdA (arr.push { key:= .int .i64 k,val:=v,born:=c }):=by
  refine ⟨fun e he=> ?_,?_⟩
  ·rw [Array.toList_push,List.mem_append] at he
   rcases he with he|he
   ·exact h.keys e he
   ·rw [List.mem_singleton] at he;subst he;exact ⟨k,rfl⟩
  ·rw [Array.toList_push,List.pairwise_append]
   refine ⟨h.once,by simp,fun a ha b hb=> ?_⟩
   rw [List.mem_singleton] at hb
   subst hb
   exact hk a ha
 refine ⟨hw,fun n=> ?_⟩
 by_cases hn:n=k
 ·subst hn
  rw [if_pos rfl]
  exact zcT hw (e:= { key:= .int .i64 n,val:=v,born:=c }) (by rw [Array.toList_push];simp) rfl
 ·rw [if_neg hn]
  cases hv:zbm arr n with
  | none=>
   refine zdK fun e he hke=> ?_
   rw [Array.toList_push,List.mem_append] at he
   rcases he with he|he
   ·exact zhi hv e he hke
   ·rw [List.mem_singleton] at he;subst he;cases hke;exact hn rfl
  | some u=>
   obtain ⟨e,he,hke,rfl⟩:=zgw hv
   exact zcT hw (by rw [Array.toList_push];simp [he]) hke
theorem zCF {arr:Array MapEntry} (h:zdA arr) {p:Nat} {e:MapEntry} {k:Int} (hp:arr.toList[p]? =some e) (hk:e.key= .int .i64 k):
  zdA (arr.eraseIdxIfInBounds p)∧ ∀n,zbm (arr.eraseIdxIfInBounds p) n=if n=k then none else zbm arr n:=by
 have hl:(arr.eraseIdxIfInBounds p).toList=arr.toList.eraseIdx p:=by
  unfold Array.eraseIdxIfInBounds
  split
  ·simp
  ·rw [List.eraseIdx_of_length_le];simp;omega
 have hlt:p<arr.toList.length:=by
  rw [List.getElem?_eq_some_iff] at hp
  exact hp.1
 have hsub:(arr.toList.eraseIdx p).Sublist arr.toList:=List.eraseIdx_sublist ..
 have hw:zdA (arr.eraseIdxIfInBounds p):=⟨fun e he=>h.keys e (hsub.subset (by rw [←hl];exact he)),by rw [hl];exact h.once.sublist hsub⟩
 have hsplit:arr.toList=arr.toList.take p++e::arr.toList.drop (p+1):=by
  have h1:=List.take_append_drop p arr.toList
  rw [List.drop_eq_getElem_cons hlt] at h1
  rw [List.getElem?_eq_some_iff] at hp
  obtain ⟨_,h2⟩:=hp
  rw [h2] at h1
  exact h1.symm
 have her:arr.toList.eraseIdx p=arr.toList.take p++arr.toList.drop (p+1):=List.eraseIdx_eq_take_drop_succ ..
 refine ⟨hw,fun n=> ?_⟩
 have hone:=h.once
 rw [hsplit,List.pairwise_append] at hone
 obtain ⟨_,h2,h3⟩:=hone
 rw [List.pairwise_cons] at h2
 by_cases hn:n=k
 ·subst hn
  rw [if_pos rfl]
  refine zdK fun e' he' hke=> ?_
  rw [hl,her,List.mem_append] at he'
  rcases he' with he'|he'
  ·exact h3 e' he' e (by simp) (by rw [hke,hk])
  ·exact h2.1 e' he' (by rw [hke,hk])
 ·rw [if_neg hn]
  cases hv:zbm arr n with
  | none=>
   refine zdK fun e' he' hke=> ?_
   rw [hl] at he'
   exact zhi hv e' (hsub.subset he') hke
  | some u=>
   obtain ⟨e',he',hke,rfl⟩:=zgw hv
   refine zcT hw ?_ hke
   rw [hl,her]
   rw [hsplit] at he'
   rcases List.mem_append.1 he' with he'|he'
   ·exact List.mem_append_left _ he'
   ·rcases List.mem_cons.1 he' with rfl|he'
    ·rw [hke] at hk;cases hk;exact absurd rfl hn
    ·exact List.mem_append_right _ he'
theorem zh8 {arr:Array MapEntry} {k:Int} (h: ∀e∈arr.toList,e.key≠ .int .i64 k) (n:Int):zbm arr n=if n=k then none else zbm arr n:=by
 by_cases hn:n=k
 ·rw [if_pos hn,hn];exact zdK h
 ·rw [if_neg hn]
end Go.Dw
end
