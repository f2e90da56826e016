/-
  Proved: laws on the way to 'SdriveHoldsProof' (texts YbB YaI YaK VaS VbA VaT QcA QcB QbV PtH PtI PtJ PtK PtL PtM PtN PuB PvA PvB PuA0 PuA PuC PvC PuD PuE PuF PuG PuH PuI PuI2 PvD PvE QcC QcD PvF PvH PvG PvI PvJ0 PvJ PvK PvL PvM PvN PvO0 PvO PvP PvQ XdK0 PvQ0 PvR1 QcE VbL VaU YbG YbC YbJ YbK YbL YbH VaV VaW YbI YbM); no condition.
-/
import Derived.Test.YtaichlekaoefpaaGreatM7
import Derived.Deep.CutRange
import Derived.Deep.RegionLaw
import Derived.Deep.QuietTactic
import Derived.BigQuiet
import Derived.Deep.MidRow
set_option linter.unusedSimpArgs false
set_option linter.unusedVariables false
set_option maxHeartbeats 4000000
noncomputable section
namespace Go.Proofs
open Go.Dw Go.RowKit Go.Maps Go.Sort Go.Deep
section
variable {fns fns':List Nat} {nw nw':Prop} {A A':Nat→Prop} {w w':World} {S P L Bs B M N:Nat} {r:Tryz.Rg} {s s':Tryz.SD} {g g':Nat→Int}
theorem Tryz.SDWf.mvNe (h:SDWf fns nw A w S P L Bs B M N r s g):S<w.heap.size∧M<w.heap.size∧P<w.heap.size∧L<w.heap.size∧Bs<w.heap.size∧B<w.heap.size:=
 ⟨h.lt S h.aS,h.lt M h.aM,h.mem.pl,h.mem.ll,h.mem.sl,h.lt B h.aB⟩
theorem Tryz.SDWf.box (h:SDWf fns nw A w S P L Bs B M N r s g) (o:Obj):SDWf fns nw (fun b=>A b∨b=w.heap.size) (w.alloc o) S P L Bs B M N r s g:=by
 have hb:=(Below.refl w.heap.size w).alloc (Nat.le_refl _) o;refine h.keepA (fun b hb' q=>q.elim id fun e=>by omega) (.inl h.aS) (.inl h.aM) (.inl h.aB) (fun b q=> ?_) (fun b hh _=>hb.block b hh) hb.size;rcases q with q|rfl
 ·exact Nat.lt_of_lt_of_le (h.lt b q) hb.size
 ·simp
theorem Tryz.SDWf.fin {X:Nat} (h:SDWf fns nw (fun b=>A b∨b=X) w S P L Bs B M N r s g) (aS:A S) (aM:A M) (aB:A B) (hX:X≠S∧X≠M∧X≠P∧X≠L∧X≠Bs∧X≠B) (hm:Dw.Mv (· =X) w w'):SDWf fns nw A w' S P L Bs B M N r s g:=by
 obtain ⟨n1,n2,n3,n4,n5,n6⟩:=hX;refine h.keepA (fun b _ q=> .inl q) aS aM aB (fun b q=>Nat.lt_of_lt_of_le (h.lt b (.inl q)) hm.size) (fun b hb hh=>hm.block b hb ?_) hm.size;rcases hh with hh|rfl|rfl|rfl|rfl|rfl|rfl
 ·exact fun e=>hh (.inr e)
 ·exact n1.symm
 ·exact n2.symm
 ·exact n3.symm
 ·exact n4.symm
 ·exact n5.symm
 ·exact n6.symm
theorem Tryz.SDWf.memB (h:SDWf fns nw A w S P L Bs B M N r s g) (hm:Dw.Mv (· =B) w w') (hg:GM w' P L Bs B N g'):SDWf fns nw A w' S P L Bs B M N r s g':=by
 obtain ⟨stv,nowv,sgv,fv,h1,h2⟩:=h.ptr (w':=w') fun b hb hn=>hm.block b hb fun e=>hn (by have e:b=B:=e;exact e▸h.aB);exact h.setSB (hm.mono fun b e=> .inr e) hg ⟨stv,nowv,sgv,fv,h1.kept (hm.block S h1.lt h.sd.2.2.2),h2⟩ rfl
theorem Tryz.SDWf.setRow (h:SDWf fns nw A w S P L Bs B M N r s g) (j:Nat) (v:Value) (hj:j<25) (hr: ∀stv nowv sgv fv,(s.row r P M stv nowv sgv fv).set j v=s'.row r P M stv nowv sgv fv) (hc:s'.c=s.c) (hsg:s'.sg=s.sg) (hpu:s'.F=s.F) (hL:s'.L=s.L):SDWf fns nw A (w.setCell ⟨S,j,none⟩ v) S P L Bs B M N r s' g:=by
 have hm:Dw.Mv (· =S) w (w.setCell ⟨S,j,none⟩ v):=zaH (zaa (Below.refl _ _)) S j v rfl;obtain ⟨stv,nowv,sgv,fv,h1,h2,h3,h4,h5,h6⟩:=h.ptr (w':=w.setCell ⟨S,j,none⟩ v) fun b hb hn=>hm.block b hb fun e=>hn (by have e:b=S:=e;exact e▸h.aS);exact h.setSB (hm.mono fun b e=> .inl e) (h.gmS hm) ⟨stv,nowv,sgv,fv,hr stv nowv sgv fv▸h1.set j v hj,h2,h3,fun q=>hc▸h4 q,hsg▸h5,hpu▸h6⟩ hL
theorem Tryz.SDWf.setStep (h:SDWf fns nw A w S P L Bs B M N r s g) {stv':Value} (hs:SStepV A w S stv' fns'):SDWf fns' nw A (w.setCell ⟨S,15,none⟩ stv') S P L Bs B M N r s g:=by
 have hm:Dw.Mv (· =S) w (w.setCell ⟨S,15,none⟩ stv'):=zaH (zaa (Below.refl _ _)) S 15 _ rfl;have hk: ∀b,b<w.heap.size→ ¬A b→(w.setCell ⟨S,15,none⟩ stv').heap[b]? =w.heap[b]? :=fun b hb hn=>hm.block b hb fun e=>hn (by have e:b=S:=e;exact e▸h.aS);obtain ⟨stv,nowv,sgv,fv,h1,h2,h3,h4,h5,h6⟩:=h.ptr hk;exact h.setSB (hm.mono fun b e=> .inl e) (h.gmS hm) ⟨stv',nowv,sgv,fv,h1.set 15 stv' (by show 15<25;decide),hs.setK (fun _ _ q=>q) hk,h3,h4,h5,h6⟩ rfl
theorem Tryz.SStepV.new {l:List Nat} {cs:Array Value} (hA: ∀b,A b→b<w.heap.size) (t:TypeId) (hcs:cs.toList=l.map (ztW S)):SStepV A (w.alloc (Obj.cells cs t)) S (.slice (some ⟨w.heap.size,0,none⟩) l.length l.length) l:=
 ⟨_,_,rfl,Nat.le_refl _,.inr ⟨w.heap.size,0,rfl,fun q=>absurd (hA _ q) (Nat.lt_irrefl _),fun j v hv=>by rw [Nat.zero_add];exact (Cl.new w cs t).cell j v (hcs▸hv)⟩⟩
theorem Tryz.SDWf.nwMono (h:SDWf fns nw A w S P L Bs B M N r s g) (hn:nw'→nw):SDWf fns nw' A w S P L Bs B M N r s g:=by
 obtain ⟨stv,nowv,sgv,fv,h1,h2,h3,h4,h5,h6⟩:=h.obj;exact ⟨⟨stv,nowv,sgv,fv,h1,h2,h3,fun q=>h4 (hn q),h5,h6⟩,h.out,h.mem,h.ne,h.aS,h.aM,h.aB,h.lt,h.rg,h.hN,h.fit,h.sd,h.md⟩
set_option maxRecDepth 100000 in
theorem Tryz.zn5 (h:SDWf fns nw A w S P L Bs B M N r s g) {stv:Value} (hs:SStepV A w S stv fns') (op tok wr:Int) (nn kk:Bool):
  Calls prog 65 #[.pointer (some ⟨S,0,none⟩),.agg #[.int .i64 op,.bool nn,.int .i64 tok,.int .u32 wr,.bool kk],stv] w fun e w'=>e= .returned (.tuple #[])∧SDWf fns' nw A w' S P L Bs B M N r { s with op:=op,nn:=nn,tok:=tok,wr:=wr,kk:=kk,dn:=false } g∧Dw.Mv (· =S) w w':=by
 have hlt:=h.mvNe;have hbx:=(Below.refl w.heap.size w).alloc (Nat.le_refl _) (Obj.cells #[.int .i64 op,.bool nn,.int .i64 tok,.int .u32 wr,.bool kk] 71);have k2:=Cl.new w #[.int .i64 op,.bool nn,.int .i64 tok,.int .u32 wr,.bool kk] 71;have hX:=h.below hbx;have hsX:SStepV A (w.alloc (Obj.cells #[.int .i64 op,.bool nn,.int .i64 tok,.int .u32 wr,.bool kk] 71)) S stv fns':=hs.setK (fun _ _ q=>q) fun b hb _=>hbx.block b hb;have hSX:S≠w.heap.size:=by omega
 have hXS:w.heap.size≠S:=by omega
 obtain ⟨stv0,nowv,sgv,fv,oX,_⟩:=hX.obj;have x15:=oX.cell 15 _ rfl;have f15:=oX.free 15;have x18:=oX.cell 18 _ rfl;have f18:=oX.free 18;have x19:=oX.cell 19 _ rfl;have f19:=oX.free 19;have x20:=oX.cell 20 _ rfl;have f20:=oX.free 20;have x21:=oX.cell 21 _ rfl;have f21:=oX.free 21;have x22:=oX.cell 22 _ rfl;have f22:=oX.free 22;have x23:=oX.cell 23 _ rfl;have f23:=oX.free 23;have b0:=k2.cell 0 _ rfl;have b1:=k2.cell 1 _ rfl;have b2:=k2.cell 2 _ rfl;have b3:=k2.cell 3 _ rfl;have b4:=k2.cell 4 _ rfl;have hst:=hs;obtain ⟨sa,sc,rfl,hs1,hs2⟩:=hs;replace hst:HidP _:=⟨hst⟩;clear hlt hs1 hs2 hsX;go_enter func65,ntmps65;go_wp2_with fail;go_end0;have hm6:=zaH (K:=(· =S)) (zaH (K:=(· =S)) (zaH (K:=(· =S)) (zaH (K:=(· =S)) (zaH (K:=(· =S)) (zaH (K:=(· =S)) (zaa (K:=(· =S)) hbx) S 18 (.int .i64 op) rfl) S 19 (.bool nn) rfl) S 20 (.int .i64 tok) rfl) S 21 (.int .u32 wr) rfl) S 22 (.bool kk) rfl) S 23 (.bool false) rfl;refine ⟨rfl,((((((hX.setRow (s':= { s with op:=op }) 18 (.int .i64 op) (by decide) (fun _ _ _ _=>rfl) rfl rfl rfl rfl).setRow (s':= { s with op:=op,nn:=nn }) 19 (.bool nn) (by decide) (fun _ _ _ _=>rfl) rfl rfl rfl rfl).setRow (s':= { s with op:=op,nn:=nn,tok:=tok }) 20 (.int .i64 tok) (by decide) (fun _ _ _ _=>rfl) rfl rfl rfl rfl).setRow (s':= { s with op:=op,nn:=nn,tok:=tok,wr:=wr }) 21 (.int .u32 wr) (by decide) (fun _ _ _ _=>rfl) rfl rfl rfl rfl).setRow (s':= { s with op:=op,nn:=nn,tok:=tok,wr:=wr,kk:=kk }) 22 (.bool kk) (by decide) (fun _ _ _ _=>rfl) rfl rfl rfl rfl).setRow (s':= { s with op:=op,nn:=nn,tok:=tok,wr:=wr,kk:=kk,dn:=false }) 23 (.bool false) (by decide) (fun _ _ _ _=>rfl) rfl rfl rfl rfl).setStep (hst.out.setK (fun _ _ q=>q) fun b hb hn=>hm6.block b hb fun e=>hn (by have e:b=S:=e;exact e▸h.aS)),zaH (K:=(· =S)) hm6 S 15 _ rfl⟩
theorem Tryz.SDWf.alt (h:SDWf fns nw A w S P L Bs B M N r s g) (hr: ∀stv nowv sgv fv,s.row r P M stv nowv sgv fv=s'.row r P M stv nowv sgv fv) (hc:s'.c=s.c) (hsg:s'.sg=s.sg) (hpu:s'.F=s.F) (hL:s'.L=s.L):SDWf fns nw A w S P L Bs B M N r s' g:=by
 obtain ⟨stv,nowv,sgv,fv,h1,h2,h3,h4,h5,h6⟩:=h.obj;exact ⟨⟨stv,nowv,sgv,fv,hr stv nowv sgv fv▸h1,h2,h3,fun q=>hc▸h4 q,hsg▸h5,hpu▸h6⟩,hL▸h.out,h.mem,h.ne,h.aS,h.aM,h.aB,h.lt,h.rg,h.hN,h.fit,h.sd,h.md⟩
set_option maxRecDepth 100000 in
theorem Tryz.zmc (h:SDW A w S P L Bs B M N r s g):Calls prog 25 #[.pointer (some ⟨S,0,none⟩)] w fun e w'=>e= .returned (.tuple #[s.out,.bool s.has])∧Below w.heap.size w w':=by
  have hbx:=(Below.refl w.heap.size w).alloc (Nat.le_refl _) (Obj.cells #[.int .i64 0,.bool false,.int .i64 0,.int .u32 0,.bool false] 71);have k2:=Cl.new w #[.int .i64 0,.bool false,.int .i64 0,.int .u32 0,.bool false] 71;have hm:=zg6 (h.f.below hbx);have hbz:=zeC (h.below hbx);obtain ⟨stv,nowv,sgv,fv,h1,_⟩:=h.f.obj;have kS:=h1.below hbx h1.lt;have c23:=kS.cell 23 _ rfl;by_cases hdn:s.ph=0∧s.dn=true
  · have e1:s.out= .agg #[.int .i64 s.op,.bool s.nn,.int .i64 s.tok,.int .u32 s.wr,.bool s.kk]:=if_pos hdn;have e2:s.has=true:=by unfold SD.has;rw [hdn.1,hdn.2];rfl
    rw [e1,e2];rw [hdn.2] at c23;rw [hdn.1] at hbz;have c18:=kS.cell 18 _ rfl;have c19:=kS.cell 19 _ rfl;have c20:=kS.cell 20 _ rfl;have c21:=kS.cell 21 _ rfl;have c22:=kS.cell 22 _ rfl;have f0:=k2.free 0;have f1:=k2.free 1;have f2:=k2.free 2;have f3:=k2.free 3;have f4:=k2.free 4;have x0:=k2.cell 0 _ rfl;have x1:=k2.cell 1 _ rfl;have x2:=k2.cell 2 _ rfl;have x3:=k2.cell 3 _ rfl;have x4:=k2.cell 4 _ rfl;clear e1 e2 hdn;go_enter func25,ntmps25;go_wp2_with (first
      | (go_at_call 83;refine hm.mono ?_;rintro e w' ⟨rfl,hw⟩;have hw:=hw.symm;subst hw)
      | (go_at_call 32;refine hbz.mono ?_;rintro e w' ⟨rfl,hw⟩;have hw:=hw.symm;subst hw)
      | go_in)
    refine bodyPost_ret (zaL rfl _ _ w.heap.size [.int .i64 s.op,.bool s.nn,.int .i64 s.tok,.int .u32 s.wr,.bool s.kk] _ rfl (fun j y hy=>by rw [Nat.zero_add];first|exact (Cl.new w #[.int .i64 s.op,.bool s.nn,.int .i64 s.tok,.int .u32 s.wr,.bool s.kk] 71).cell j y hy|exact (((((k2.set 0 (.int .i64 s.op) (by simp)).set 1 (.bool s.nn) (by simp)).set 2 (.int .i64 s.tok) (by simp)).set 3 (.int .u32 s.wr) (by simp)).set 4 (.bool s.kk) (by simp)).cell j y hy) underlying71 rfl (by kernel_rfl)) rfl ?_;refine ⟨rfl,?_⟩
    first
      | exact (Below.refl w.heap.size w).alloc (Nat.le_refl _) _
      | exact zbu (zaA (zaA (zaA (zaA (zaA (zaa (K:=fun _=>False) hbx) w.heap.size 0 _ (.inr (Nat.le_refl _))) w.heap.size 1 _ (.inr (Nat.le_refl _))) w.heap.size 2 _ (.inr (Nat.le_refl _))) w.heap.size 3 _ (.inr (Nat.le_refl _))) w.heap.size 4 _ (.inr (Nat.le_refl _)))
  · have e1:s.out= .agg #[.int .i64 0,.bool false,.int .i64 0,.int .u32 0,.bool false]:=if_neg hdn;have e2:s.has=false:=by
      unfold SD.has;cases q:s.dn with
      | false=>simp
      | true=>simp only [Bool.and_true,decide_eq_false_iff_not];exact fun e=>hdn ⟨e,q⟩
    rw [e1,e2];by_cases hp:s.ph=0
    · have hdf:s.dn=false:=by
        cases q:s.dn with
        | false=>rfl
        | true=>exact absurd ⟨hp,q⟩ hdn
      rw [hdf] at c23;rw [hp] at hbz;clear hdf hdn e1 e2;go_enter func25,ntmps25;go_wp2_with (first
        | (go_at_call 83;refine hm.mono ?_;rintro e w' ⟨rfl,hw⟩;have hw:=hw.symm;subst hw)
        | (go_at_call 32;refine hbz.mono ?_;rintro e w' ⟨rfl,hw⟩;have hw:=hw.symm;subst hw)
        | go_in)
      refine bodyPost_ret (zaL rfl _ _ w.heap.size [.int .i64 0,.bool false,.int .i64 0,.int .u32 0,.bool false] _ rfl (fun j y hy=>by rw [Nat.zero_add];exact k2.cell j y hy) underlying71 rfl (by kernel_rfl)) rfl ?_;exact ⟨rfl,hbx⟩
    · rw [decide_eq_true hp] at hbz;clear hdn hp e1 e2;go_enter func25,ntmps25;go_wp2_with (first
        | (go_at_call 83;refine hm.mono ?_;rintro e w' ⟨rfl,hw⟩;have hw:=hw.symm;subst hw)
        | (go_at_call 32;refine hbz.mono ?_;rintro e w' ⟨rfl,hw⟩;have hw:=hw.symm;subst hw)
        | go_in)
      refine bodyPost_ret (zaL rfl _ _ w.heap.size [.int .i64 0,.bool false,.int .i64 0,.int .u32 0,.bool false] _ rfl (fun j y hy=>by rw [Nat.zero_add];exact k2.cell j y hy) underlying71 rfl (by kernel_rfl)) rfl ?_;exact ⟨rfl,hbx⟩
end
end Go.Proofs
namespace Go.Proofs
open Go.Dw Go.RowKit
def Tryz.bmN:List Nat→Nat
 | [] => 0
 | x::r=>bmN r|||2^x
theorem Tryz.zn4 (x:Nat): ∀l:List Nat,(bmN l).testBit x=decide (x∈l)
 | [] => by simp [bmN]
 | y::r=>by
  unfold bmN;rw [Nat.testBit_or,zn4 x r,Nat.testBit_two_pow];by_cases h:x=y
  ·subst h;simp
  ·have h': ¬y=x:=fun e=>h e.symm;simp [h,h']
theorem Tryz.zk4: ∀ {l:List Nat},(∀x∈l,x<16)→bmN l<65536
 | [], _=>by decide
 | y::r,h=>by
  unfold bmN;have h1:=zk4 (l:=r) fun x hx=>h x (.tail _ hx);have h2:2^y<2^16:=Nat.pow_lt_pow_right (by decide) (h y (.head _));exact Nat.or_lt_two_pow (n:=16) h1 h2
theorem Tryz.zrJ (x:Nat) (l:List Nat):((bmN l:Nat):Int)/((2^x:Nat):Int)%2=if x∈l then 1 else 0:=by
 have h:=zn4 x l;rw [Nat.testBit_eq_decide_div_mod_eq] at h;have h2:bmN l/2^x%2=0∨bmN l/2^x%2=1:=by omega
 by_cases hx:x∈l
 ·rw [if_pos hx];have:bmN l/2^x%2=1:=by simpa [hx] using h
  omega
 ·rw [if_neg hx];have: ¬bmN l/2^x%2=1:=by simpa [hx] using h
  omega
theorem Tryz.zuf (x:Nat) {l:List Nat} (hl: ∀y∈l,y<16) (hx:x<16):bits .or .u64 ((bmN l:Nat):Int) ((2^x:Nat):Int)=((bmN (x::l):Nat):Int):=by
 have h1:=zk4 hl;have h2:2^x<2^16:=Nat.pow_lt_pow_right (by decide) hx;have h3:bmN (x::l)<65536:=zk4 fun y hy=>by
  rcases List.mem_cons.1 hy with rfl|hy
  ·exact hx
  ·exact hl y hy
 have h2':2^x<65536:=h2;unfold bits;simp only [BitVec.ofInt_natCast,BitVec.toNat_or,BitVec.toNat_ofNat];rw [show IntKind.bits .u64=64 from rfl,Nat.mod_eq_of_lt (by omega),Nat.mod_eq_of_lt (by omega)];show IntKind.wrap .u64 ((bmN (x::l):Nat):Int)=_;exact zai (by omega) (by omega)
theorem Tryz.SDB.free {n:Nat} {s:SD} (h:SDB n s):s.F.Nodup∧(∀x∈s.F,0≤x∧x<n)∧s.F.length≤n:=by
 refine ⟨(List.nodup_append.1 h.nd).1,fun x hx=>h.lo x (List.mem_append_left _ hx),?_⟩;have:=h.all;rw [List.length_append] at this;omega
theorem Tryz.SDB.ids {n:Nat} {s:SD} (h:SDB n s) {e:SO} (he:e∈s.L):e.ids.Nodup∧(∀x∈e.ids,0≤x∧x<n)∧(∀x∈e.ids,x∉s.F)∧e.ids.length+s.F.length≤n:=by
 obtain ⟨a,b,hab⟩:=List.append_of_mem he;have hnd:=h.nd;have hall:=h.all;have hin: ∀x∈e.ids,x∈s.L.flatMap (·.ids):=fun x hx=>List.mem_flatMap.2 ⟨e,he,hx⟩;have hs:e.ids.Sublist (s.L.flatMap (·.ids)):=by
  rw [hab,List.flatMap_append,List.flatMap_cons];exact (List.sublist_append_left e.ids _).trans (List.sublist_append_right _ _)
 refine ⟨((List.nodup_append.1 hnd).2.1).sublist hs,fun x hx=>h.lo x (List.mem_append_right _ (hin x hx)),fun x hx hF=>(List.nodup_append.1 hnd).2.2 x hF x (hin x hx) rfl,?_⟩;have:=hs.length_le;rw [List.length_append] at hall;omega
open Go.Maps Go.Sort Go.Deep
section
variable {fns fns':List Nat} {nw nw':Prop} {A A':Nat→Prop} {w w':World} {S P L Bs B I N:Nat} {r:Tryz.Rg} {s s':Tryz.DS} {g g':Nat→Int}
end
end Go.Proofs
namespace Go.Proofs
open Go.Dw Go.RowKit Go.Maps Go.Sort Go.Deep
def Tryz.zak (L:List DO):List Value:=L.flatMap DO.cells
theorem Tryz.zbC: ∀L:List DO,(zak L).length=L.length*3
 | [] => rfl
 | e::r=>by
  have:=zbC r;unfold zak at this ⊢;rw [List.flatMap_cons,List.length_append,this,List.length_cons,show (DO.cells e).length=3 from rfl];omega
theorem Tryz.zgZ: ∀(L:List DO) (i:Nat) (hi:i<L.length),(zak L)[i*3]? =some (.int .i64 L[i].id)∧(zak L)[i*3+1]? =some (.int .i64 L[i].tk)∧(zak L)[i*3+2]? =some (.int .i64 L[i].ct)
 | e::r,0,_=>⟨rfl,rfl,rfl⟩
 | e::r,i+1,hi=>by
  have q:=zgZ r i (by simpa using hi);have e1:zak (e::r)= .int .i64 e.id:: .int .i64 e.tk:: .int .i64 e.ct::zak r:=rfl;rw [e1,show (i+1)*3=i*3+1+1+1 by omega];simpa using q
section
variable {A A':Nat→Prop} {w w':World} {S P L Bs B N b2:Nat} {r:Tryz.Rg} {s s':Tryz.DS} {g g':Nat→Int} {lv lv':Value}
end
end Go.Proofs
namespace Go.Proofs
open Go.Dw Go.RowKit Go.Maps Go.Sort Go.Deep
section
variable {fns fns':List Nat} {nw nw':Prop} {A A':Nat→Prop} {w w':World} {S P L Bs B I N:Nat} {r:Tryz.Rg} {s s':Tryz.DS} {g g':Nat→Int}
end
end Go.Proofs
namespace Go.Proofs
open Go.Dw Go.RowKit Go.Maps Go.Sort
structure Tryz.Ob (σ:Type) where
 L:σ→(Nat→Prop)→World→Prop
 T:Nat→Prop
 kept: ∀ {s F w w'},L s F w→(∀b,F b→w'.heap[b]? =w.heap[b]?)→w.heap.size≤w'.heap.size→L s F w'
 leans: ∀ {s F w},L s F w→ ∀b,T b→F b
section
variable {σ:Type} {O:Tryz.Ob σ} {X:Nat→Prop} {bX:Nat} {ρ:Val} {w0:World} {K:Nat→Prop} {b2:Nat} {sk:Nat→σ} {rows:Nat→List Tryz.LwR} {f:FuncId} {args:List AV} {res:AV} {k k':Nat}
end
section
variable {S P L Bs B M N:Nat} {r:Tryz.Rg} {s s':Tryz.PS×(Nat→Int)} {F F':Nat→Prop} {w w':World}
end
section
variable {X:Nat→Prop} {bX:Nat} {ρ:Val} {w0:World} {K:Nat→Prop} {S P L Bs B M N:Nat} {r:Tryz.Rg} {b2:Nat} {sk:Nat→Tryz.PS×(Nat→Int)} {rows:Nat→List Tryz.LwR} {f:FuncId} {args:List AV} {res:AV} {k k':Nat}
end
end Go.Proofs
namespace Go.Proofs
open Go.Dw Go.RowKit Go.Maps Go.Sort
section
variable {ρ:Val} {w0:World} {K:Nat→Prop} {X:Nat→Prop} {bX:Nat} {S P L Bs B M N:Nat} {r:Tryz.Rg} {b2:Nat} {sk:Nat→Tryz.PS×(Nat→Int)} {rows:Nat→List Tryz.LwR} {k k' q:Nat}
end
end Go.Proofs
namespace Go.Proofs
open Go.Dw Go.RowKit Go.Maps Go.Sort
structure Tryz.Pc where
 k:Int
 n:Int
 v:Int
 a:Int
 l:Int
 f:Int
 x:Int
 gd:Bool
 sv:Value
 sl:List Sg
structure Tryz.PmV where
 r:Rg
 c:Pc
 nacts:Int
 i:Int
 steps:Int
 na:Int
 nw:Bool
 h1:Int
 h2:Int
 pick:Int
 code:Int
 err:Int
 x:Int
 y:Int
 z:Int
 cnt:Int
 na2:Int
 nw2:Bool
 busy0:Bool
 busy1:Bool
 off:Bool
 ret:Bool
 busy:Bool
 mem:Value
 srv:Value
 acts:Value
section
variable {ρ:Val} {m:Tryz.PmV}
end
section
variable {W0:World} {X9 X15 S P L Bs B M:Nat} {r:Tryz.Rg} {av:Value} {acts:List Tryz.Pc} {s:Tryz.PS×(Nat→Int)} {i steps:Nat} {na:Int} {nw:Bool} {a:Act} {w:World}
end
end Go.Proofs
namespace Go.Proofs
open Go.Dw Go.RowKit Go.Maps Go.Sort Go.Deep
section
variable {A:Nat→Prop} {w:World} {S P L Bs B M N:Nat} {r:Tryz.Rg} {s:Tryz.PS} {g:Nat→Int}
end
end Go.Proofs
namespace Go.Proofs
open Go.Dw Go.RowKit Go.Maps Go.Sort Go.Deep
theorem Tryz.zmv (g:Nat→Int) (a:Nat): ∀k,zaf g a (k+1)=g a+256*zaf g (a+1) k
 | 0=>by simp [zaf]
 | k+1=>by
  have ih:=zmv g a k;rw [show zaf g a (k+1+1)=zaf g a (k+1)+g (a+(k+1))*256^(k+1) from rfl,ih,
   show zaf g (a+1) (k+1)=zaf g (a+1) k+g (a+1+k)*256^k from rfl,show a+(k+1)=a+1+k by omega]
  rw [Int.pow_succ,Int.mul_add,Int.add_assoc];congr 2;rw [←Int.mul_assoc,Int.mul_comm _ 256]
set_option maxRecDepth 100000 in
theorem Tryz.zgk {g:Nat→Int} (hg: ∀j,0≤g j∧g j<256) (a X o c off n:Nat) (w:World) (h:w.rangeAt X o (row g a 16)) (hn:off+n≤16) (h8:1≤n∧n≤8):
  Calls prog 183 #[.slice (some ⟨X,o,none⟩) 16 c,.int .i64 off,.int .i64 n] w fun e w'=>e= .returned (.int .u64 (zaf g (a+off) n))∧w'=w:=by
 obtain ⟨m0,rfl⟩: ∃m0,n=m0+1:=⟨n-1,by omega⟩;have hn1:IntKind.wrap .i64 (((m0+1:Nat):Int)-1)=m0:=by rw [zaS (by omega) (by omega)];omega
 have hcell: ∀i,i<m0+1→w.cell? ⟨X,o+(off+i),none⟩=some (.int .u8 (g (a+off+i))):=fun i hi=>by
  have:=h (off+i) (.int .u8 (g (a+(off+i)))) (by unfold row;rw [List.getElem?_map,List.getElem?_range (by omega)];rfl);rw [this,Nat.add_assoc]
 go_enter func183,ntmps183;go_wp2_with fail;go_loopw [7,8] (fun v i wr=>wr=w∧((i= .int .i64 (-1)∧v= .int .u64 (zaf g (a+off) (m0+1)))∨ ∃m:Nat,m≤m0∧i= .int .i64 m∧v= .int .u64 (zaf g (a+off+(m+1)) (m0-m)))) (fun _ i _=>(RowKit.intOf i+1).toNat)
 case atStart=>exact ⟨rfl,.inr ⟨m0,Nat.le_refl _,rfl,by rw [Nat.sub_self];rfl⟩⟩
 case round=>
  obtain ⟨rfl,⟨rfl,rfl⟩|⟨m,hm,rfl,rfl⟩⟩:=hrel
  ·go_wp2_with fail;go_ret;exact ⟨rfl,rfl⟩
  ·have hc:=hcell m (by omega);have hgb:=hg (a+off+m);have hwb:=zav g hg (a+off+(m+1)) (m0-m);have hpw:(256:Int)^(m0-m)≤256^7:=by
    exact_mod_cast Nat.pow_le_pow_right (by decide) (by omega:m0-m≤7)
   have h7:(256:Int)^7=72057594037927936:=by decide
   have hnext:zaf g (a+off+m) (m0-m+1)=g (a+off+m)+256*zaf g (a+off+(m+1)) (m0-m):=zmv g (a+off+m) (m0-m);generalize zaf g (a+off+(m+1)) (m0-m)=V at hwb hnext ⊢;generalize hB:g (a+off+m)=Bt at hc hgb hnext;have e1:IntKind.wrap .u64 (256*V)=256*V:=zai (by omega) (by omega);have e2:IntKind.wrap .u64 (256*V+Bt)=256*V+Bt:=zai (by omega) (by omega);have e3:IntKind.wrap .u64 Bt=Bt:=zai (by omega) (by omega);have e4:IntKind.wrap .i64 ((off:Int)+(m:Int))=((off+m:Nat):Int):=by rw [zaS (by omega) (by omega)];omega
   by_cases hm0:m=0
   ·have e5:IntKind.wrap .i64 ((m:Int)-1)= -1:=by rw [zaS (by omega) (by omega)];omega
    have hz:(fun _:Unit=>m)=fun _=>0:=by rw [hm0]
    clear hm0;go_wp2_with fail;have hm0:m=0:=congrFun hz ();refine ⟨⟨trivial,.inl ⟨rfl,?_⟩⟩,?_⟩
    ·have:zaf g (a+off) (m0+1)=Bt+256*V:=by rw [←hnext,hm0];rfl
     rw [this,Int.add_comm]
    ·simp only [RowKit.intOf];omega
   ·have e5:IntKind.wrap .i64 ((m:Int)-1)=((m-1:Nat):Int):=by rw [zaS (by omega) (by omega)];omega
    have hpos:1≤m:=by omega
    clear hm0;go_wp2_with fail;refine ⟨⟨trivial,.inr ⟨m-1,by omega,rfl,?_⟩⟩,?_⟩
    ·rw [show m-1+1=m by omega,show m0-(m-1)=m0-m+1 by omega,hnext,Int.add_comm]
    ·simp only [RowKit.intOf];omega
end Go.Proofs
namespace Go.Proofs
open Go.Dw Go.RowKit Go.Maps Go.Sort
section
variable {σ:Type} {O:Tryz.Ob σ} {X:Nat→Prop} {bX:Nat} {ρ:Val} {w0:World} {K:Nat→Prop} {b2:Nat} {sk:Nat→σ} {rows ap:Nat→List Tryz.LwR}
end
end Go.Proofs
namespace Go.Proofs
open Go.Dw Go.RowKit Go.Maps Go.Sort
section
variable {σ:Type} {O:Tryz.Ob σ} {X:Nat→Prop} {bX:Nat} {ρ:Val} {w0:World} {K:Nat→Prop} {b2:Nat} {sk:Nat→σ} {rows:Nat→List Tryz.LwR} {f:FuncId} {args:List AV} {res:AV} {k k':Nat}
end
section
variable {ρ:Val} {w0:World} {K:Nat→Prop} {X:Nat→Prop} {bX:Nat} {S P L Bs B M N:Nat} {r:Tryz.Rg} {b2:Nat} {sk:Nat→Tryz.PS×(Nat→Int)} {rows:Nat→List Tryz.LwR} {k k' q:Nat}
end
end Go.Proofs
namespace Go.Proofs
open Go.Dw Go.RowKit Go.Maps Go.Sort
structure Tryz.TpV where
 r:Rg
 nl:Int
 nh:Int
 i:Int
 nb:Int
 spare:Int
 na:Int
 nw:Bool
 na2:Int
 nw2:Bool
 need:Int
 la:Int
 ll:Int
 lw:Bool
 good:Bool
 mem:Value
 sv:Value
 srv:Value
 bufs:Value
 hds:Value
 cts:Value
 wrs:Value
 ord:Value
 giv:Value
 usd:Value
section
variable {ρ:Val} {m:Tryz.TpV}
end
section
variable {W0:World} {H4 X13 X15 X16 S P L Bs B M:Nat} {r:Tryz.Rg} {av ov gv:Value} {ls:List (List Tryz.Sg)} {s:Tryz.PS×(Nat→Int)} {bs:List (List Tryz.Sg)} {spare:Int} {vh vc vb:Value} {i:Nat} {a:Act} {w:World}
end
end Go.Proofs
namespace Go.Proofs
open Go.Dw Go.RowKit Go.Maps Go.Sort
section
variable {W0:World} {H4 X13 X15 X16 S P L Bs B M:Nat} {r:Tryz.Rg} {av ov gv:Value} {ls:List (List Tryz.Sg)} {s:Tryz.PS×(Nat→Int)} {bs:List (List Tryz.Sg)} {spare:Int} {vh vc vb:Value} {i:Nat} {a:Act} {w:World}
end
end Go.Proofs
namespace Go.Proofs
open Go.Dw Go.RowKit Go.Maps Go.Sort
section
variable {ρ:Val} {w0:World} {K:Nat→Prop} {X:Nat→Prop} {bX:Nat} {S P L Bs B M N:Nat} {r:Tryz.Rg} {b2:Nat} {sk:Nat→Tryz.PS×(Nat→Int)} {rows:Nat→List Tryz.LwR} {k k' q:Nat}
end
end Go.Proofs
namespace Go.Proofs
theorem Tryz.zrb {n:Nat} (l:List Value) (h:l.length=n):(⟨l⟩:Array Value)=((List.range n).map fun i=>(⟨l⟩:Array Value).getD i undef).toArray:=by
 refine Array.ext' ?_;refine List.ext_getElem? fun i=> ?_;simp only [List.getElem?_map];by_cases hi:i<n
 ·rw [List.getElem?_eq_getElem (by omega:i<l.length),List.getElem?_range hi];simp [Array.getD_eq_getD_getElem?,h,hi]
 ·rw [List.getElem?_eq_none (by omega),List.getElem?_eq_none (by simp;omega)];rfl
open Go.Dw Go.RowKit Go.Maps Go.Sort Go.Deep
def Tryz.IntsV (w:World) (sa:Option Addr) (l:List Int):Prop:=l= []∨ ∃G o,sa=some ⟨G,o,none⟩∧w.rangeAt G o (zac l)
set_option maxRecDepth 100000 in
theorem Tryz.zq3 {w:World} {sa:Option Addr} {c:Nat} {l:List Int} (h:IntsV w sa l) (hl:l.length≤100000) (t:Int):
  Calls prog 94 #[.slice sa l.length c,.int .i64 t] w fun e w'=> ∃i:Int,e= .returned (.int .i64 i)∧(decide (0≤i)=l.any fun x=>x==t)∧w'=w:=by
 go_enter func94,ntmps94;go_wp2_with fail;go_loopw [8] (fun x wr=>wr=w∧ ∃k:Nat,k≤l.length∧x= .int .i64 k∧((l.take k).any fun x=>x==t)=false) (fun x _=>l.length-(RowKit.intOf x).toNat)
 case atStart=>exact ⟨rfl,0,Nat.zero_le _,rfl,by simp⟩
 case round=>
  obtain ⟨rfl,k,hk,rfl,hno⟩:=hrel;by_cases hkl:k<l.length
  ·have hkl':(k:Int)<l.length:=by omega
   obtain ⟨G,o,rfl,hr⟩:=h.resolve_left (by intro e;rw [e] at hkl;exact absurd hkl (by simp));have e1:=hr k (.int .i64 l[k]) (by simp [zac,hkl]);have ht:((l.take (k+1)).any fun x=>x==t)=(l[k]==t):=by
    rw [List.take_succ_eq_append_getElem hkl,List.any_append,hno];simp
   have hall:l[k]=t→(l.any fun x=>x==t)=true:=fun q=>List.any_eq_true.2 ⟨l[k],List.getElem_mem hkl,by simp [q]⟩;generalize l[k]=x at e1 ht hall;replace hno:HidP _:=⟨hno⟩;by_cases hx:t=x
   ·have ha:=hall hx.symm;subst hx;clear ht hall hr;go_wp2;go_ret;exact ⟨_,rfl,by rw [ha];simp,rfl⟩
   ·have hx2:(t==x)=false:=by simpa using hx
    have hx3:(x==t)=false:=by simpa using fun q:x=t=>hx q.symm
    rw [hx3] at ht;replace ht:HidP _:=⟨ht⟩;clear hall hr hx3;go_wp2;exact ⟨⟨trivial,k+1,by omega,by push_cast;rfl,ht.out⟩,by simp only [RowKit.intOf];omega⟩
  ·have hkl': ¬(k:Int)<l.length:=by omega
   have hkq:k=l.length:=by omega
   subst hkq;rw [List.take_length] at hno;replace hno:HidP _:=⟨hno⟩;go_wp2;go_ret;exact ⟨_,rfl,by rw [hno.out];rfl,rfl⟩
set_option maxRecDepth 100000 in
theorem Tryz.zkW {w:World} {sa:Option Addr} {c:Nat} {l:List Int} (h:IntsV w sa l) (hl:l.length≤100000) (t:Int):
    Calls prog 59 #[.slice sa l.length c,.int .i64 t] w fun e w'=>e= .returned (.bool (l.any fun x=>x==t))∧w'=w:=by
  have hi:=zq3 (c:=c) h hl t;go_enter func59,ntmps59;go_wp2_with (first
    | (go_at_call 94;refine hi.mono ?_;rintro e w' ⟨i,rfl,hd,hw⟩;have hw:=hw.symm;subst hw)
    | go_in)
  go_ret;exact ⟨by rw [←hd];rfl,rfl⟩
section
variable {fns fns':List Nat} {nw nw':Prop} {A A':Nat→Prop} {w w':World} {S P L Bs B I N:Nat} {r:Tryz.Rg} {s s':Tryz.DS} {g g':Nat→Int}
set_option maxRecDepth 100000 in
theorem Tryz.ziC {v:Value} {l:List Sg} (h:SegV A w v l) (tb:Bool):
    Calls prog 62 #[v,.bool tb] w fun e w'=>e= .returned (.int .i64 (if za7 l≠0 then 0 else if tb then 1 else l.length))∧Below w.heap.size w w':=by
  have hck:=zdJ h;obtain ⟨sa,c,rfl,hok,hr⟩:=h;clear hok hr;unfold za7;generalize zaO l=e at hck;by_cases he:e=0
  · subst he;rw [if_neg (show¬(0:Int)≠0 by decide)];by_cases hl:l.length=0
    · rw [if_pos hl,if_pos (by decide)];have hb:((l.length:Int)==0)=true:=by simpa using hl
      clear hl;go_enter func62,ntmps62;go_wp2_with (first
        | (go_at_call 95;refine hck.mono ?_;rintro en w1 ⟨rfl,hb1⟩)
        | go_in)
      go_ret;exact ⟨rfl,hb1⟩
    · rw [if_neg hl,if_neg (show¬(0:Int)≠0 by decide)];have hb:((l.length:Int)==0)=false:=by simpa using hl
      clear hl;cases tb
      all_goals
        go_enter func62,ntmps62;go_wp2_with (first
          | (go_at_call 95;refine hck.mono ?_;rintro en w1 ⟨rfl,hb1⟩)
          | go_in)
        go_ret;exact ⟨rfl,hb1⟩
  · rw [if_pos he,if_pos he];have hb:(e==0)=false:=by simpa using he
    go_enter func62,ntmps62;go_wp2_with (first
      | (go_at_call 95;refine hck.mono ?_;rintro en w1 ⟨rfl,hb1⟩)
      | go_in)
    go_ret;exact ⟨rfl,hb1⟩
end
end Go.Proofs
namespace Go.Proofs
open Go.Dw Go.RowKit Go.Maps Go.Sort Go.Deep
set_option maxRecDepth 100000 in
theorem Tryz.zwY:(prog.info? 29).map (fun i=>(i.zero,i.size,i.bytes))=some (some (.int .u64 0),1,8):=by kernel_rfl
theorem Tryz.zrU {f:Int} (h:0≤f∧f<18446744073709551616):bits .and .u64 f 1=f%2:=by
 obtain ⟨x,rfl⟩:=Int.eq_ofNat_of_zero_le h.1;have hx:x<2^64:=by omega
 unfold bits;simp only [BitVec.toNat_and];have ex:(BitVec.ofInt IntKind.u64.bits (x:Int)).toNat=x:=by
  rw [BitVec.ofInt_natCast,BitVec.toNat_ofNat];exact Nat.mod_eq_of_lt hx
 have ey:(BitVec.ofInt IntKind.u64.bits (1:Int)).toNat=1:=by decide
 have e0:x&&&1=x%2:=Nat.and_two_pow_sub_one_eq_mod x 1;rw [ex,ey,e0];exact zai (by omega) (by omega)
theorem Tryz.zwL {y:Nat} (h:y<16):1≤2^y∧2^y<65536:=by
 have h1:2^y<2^16:=Nat.pow_lt_pow_right (by decide) h;have h2:0<2^y:=Nat.pow_pos (by decide);exact ⟨h2,h1⟩
theorem Tryz.zbM {w W w':World} {X:Nat} (hb:Below w.heap.size w W) (hm:Dw.Mv (· =X) W w') (hX:w.heap.size≤X):Below w.heap.size w w':=
 ⟨hm.os.trans hb.os,hm.tape.trans hb.tape,hm.output.trans hb.output,Nat.le_trans hb.size hm.size,fun y hy=>(hm.block y (Nat.lt_of_lt_of_le hy hb.size) (by show¬y=X;omega)).trans (hb.block y hy)⟩
set_option maxRecDepth 100000 in
theorem Tryz.ziD {w:World} {sa:Option Addr} {c:Nat} {F:List Int} {n:Nat} (h:IntsV w sa F) (hn:1≤n∧n≤16) (hnd:F.Nodup) (hlo: ∀x∈F,0≤x∧x<n) (hlen:F.length≤n):
  Calls prog 138 #[.agg #[.int .i64 n,.slice sa F.length c]] w fun e w'=> ∃L G,e= .returned (.tuple #[.slice (some ⟨G,0,none⟩) 1 1,.bool true])∧Cl w' G [.int .u64 ((bmN L:Nat):Int)]∧(∀y:Nat,y∈L↔(y:Int)∈F)∧w.heap.size≤G∧Below w.heap.size w w':=by
 have hinfo:=zwY;obtain ⟨i0,hi0,hz0,hz1,hzb⟩:=info_parts hinfo;have hmk:=fun w=>run_makeSlice (P:=prog) w 158 29 i0 (.int .u64 0) underlying158 hi0 hz0 .i64 .i64 1 1 (by omega) (by omega) (by rw [hz1];decide) (by rw [hzb];decide) (by decide);simp only [hz1] at hmk;have hmc:madeCells (Value.int .u64 0).cells (Int.toNat 1*1)= #[.int .u64 0]:=by kernel_rfl
 rw [hmc] at hmk;clear hmc;have hbx:=(Below.refl w.heap.size w).alloc (Nat.le_refl _) (Obj.cells #[.int .i64 n,.slice sa F.length c] 79);have kx:=Cl.new w #[.int .i64 n,.slice sa F.length c] 79;have hby:=(Below.refl (w.alloc (Obj.cells #[.int .i64 n,.slice sa F.length c] 79)).heap.size (w.alloc (Obj.cells #[.int .i64 n,.slice sa F.length c] 79))).alloc (Nat.le_refl _) (Obj.cells #[.int .u64 0] 29);have ky:=Cl.new2 (w:=w.alloc (Obj.cells #[.int .i64 n,.slice sa F.length c] 79)) (b:=w.heap.size+1) (arr:= #[.int .u64 0]) (t:=29) (by simp);have kx2:=kx.below hby kx.lt;have hbw:=hbx.trans (hby.mono hbx.size);have e1: ¬(n:Int)<1:=by omega
 have e2: ¬(32768:Int)<n:=by omega
 have e3: ¬(n:Int)<F.length:=by omega
 have e4:IntKind.wrap .i64 ((n:Int)+63)=(n:Int)+63:=zaS (by omega) (by omega);have e5:((n:Int)+63).tdiv 64=1:=by rw [Int.tdiv_eq_ediv_of_nonneg (by omega)];omega
 have hn16:=hn.2;replace hlo:HidP (∀x∈F,0≤x∧x<n):=⟨hlo⟩;replace hnd:HidP F.Nodup:=⟨hnd⟩;replace h:HidP (IntsV w sa F):=⟨h⟩;clear hinfo hz0 hz1 hzb hi0;go_enter func138,ntmps138;go_wp2_with fail;generalize (w.alloc (Obj.cells #[.int .i64 n,.slice sa F.length c] 79)).alloc (Obj.cells #[.int .u64 0] 29)=W at*;clear hbx kx hby;go_loopw [31] (fun x wr=> ∃(k:Nat) (L:List Nat),k≤F.length∧x= .int .i64 k∧Cl wr (w.heap.size+1) [.int .u64 ((bmN L:Nat):Int)]∧HidP ((∀y:Nat,y∈L↔(y:Int)∈F.take k)∧(∀y∈L,y<16))∧Dw.Mv (· =w.heap.size+1) W wr) (fun x _=>F.length-(RowKit.intOf x).toNat)
 case atStart=>exact ⟨0,[],Nat.zero_le _,rfl,ky,⟨by simp,by simp⟩,Dw.Mv.refl _ _⟩
 case round=>
  obtain ⟨k,L,hk,rfl,kr,hL,hm⟩:=hrel;by_cases hkl:k<F.length
  ·have hkl':(k:Int)<F.length:=by omega
   obtain ⟨G,o,rfl,hr⟩:=h.out.resolve_left (by intro e;rw [e] at hkl;exact absurd hkl (by simp));have hGl:G<w.heap.size:=zaz hr (by intro e;have:=congrArg List.length e;rw [zac,List.length_map] at this;simp only [List.length_nil] at this;omega);have e1:=(zae (zae hr (hbw.block G hGl)) (hm.block G (Nat.lt_of_lt_of_le hGl hbw.size) (by show¬G=w.heap.size+1;omega))) k (.int .i64 F[k]) (by simp [zac,hkl]);have kx3:=kx2.kept (hm.block _ kx2.lt (by show¬w.heap.size=w.heap.size+1;omega));have x0:=kx3.cell 0 _ rfl;have x1:=kx3.cell 1 _ rfl;have y0:=kr.cell 0 _ rfl;have f0:=kr.free 0;obtain ⟨y,hy,hy16⟩: ∃y:Nat,F[k]=y∧y<n:=by
    have:=hlo.out _ (List.getElem_mem hkl);exact ⟨F[k].toNat,by omega,by omega⟩
   have hmem:y∉L:=by
    rw [hL.out.1 y,←hy];intro hq;obtain ⟨j,hj,hjq⟩:=List.getElem_of_mem hq;rw [List.getElem_take] at hjq;rw [List.length_take] at hj;have:=(List.getElem_inj hnd.out).1 hjq;omega
   have hbit:=zrJ y L;rw [if_neg hmem] at hbit;have hor:=zuf y hL.out.2 (by omega);have hlt:=zk4 hL.out.2;have hL2:HidP ((∀z:Nat,z∈y::L↔(z:Int)∈F.take (k+1))∧(∀z∈y::L,z<16)):=⟨fun z=>by
    rw [List.take_succ_eq_append_getElem hkl,List.mem_append,List.mem_singleton,hy,List.mem_cons,hL.out.1 z];constructor
    ·rintro (rfl|q)
     ·exact .inr rfl
     ·exact .inl q
    ·rintro (q|q)
     ·exact .inr q
     ·exact .inl (by omega),fun z hz=>by
    rcases List.mem_cons.1 hz with rfl|hz
    ·omega
    ·exact hL.out.2 z hz⟩
   rw [hy] at e1;obtain ⟨hp1,hp2⟩:=zwL (y:=y) (by omega);generalize hV2:bmN (y::L)=V2 at hor;replace hV2:HidP _:=⟨hV2⟩;generalize hV:bmN L=V at*;clear hV hmem;have q1:(y:Int).tdiv 64=0:=by rw [Int.tdiv_eq_ediv_of_nonneg (by omega)];omega
   have q2:(y:Int).tmod 64=y:=by rw [Int.tmod_eq_emod_of_nonneg (by omega)];omega
   have q3: ¬(y:Int)<0:=by omega
   have q4: ¬(n:Int)≤y:=by omega
   have q5:(0:Int)≤y:=by omega
   have q6:(y:Int)<64:=by omega
   have hpI:(0:Int)≤2^y:=by have:=Int.natCast_nonneg (2^y);push_cast at this;exact this
   have hq:bits .and .u64 ((V:Int)/2^y) 1=((V:Int)/2^y)%2:=zrU ⟨Int.ediv_nonneg (by omega) hpI,Int.lt_of_le_of_lt (Int.ediv_le_self _ (by omega)) (by omega)⟩;have hb1:(((V:Int)/2^y%2)==1)=false:=by
    push_cast at hbit;rw [hbit];rfl
   have hsh:IntKind.wrap .u64 (2^y:Int)=2^y:=by
    have h1:((2^y:Nat):Int)<65536:=by omega
    push_cast at h1;exact zai hpI (by omega)
   have hor2:bits .or .u64 (V:Int) (2^y)=V2:=by push_cast at hor;exact hor
   have wz:IntKind.wrap .i64 0=0:=rfl;have krd:=kr.kept (w':=wr.drew) rfl;have d0:=krd.cell 0 _ rfl;have df0:=krd.free 0;have kset:=kr.set 0 (.int .u64 (V2:Int)) (by simp);have hmset:=zaA hm (w.heap.size+1) 0 (.int .u64 (V2:Int)) (.inl rfl);clear hr hL hbit hor;go_wp2_with fail;go_region_law fail
   all_goals
    go_wp2_with fail;exact ⟨⟨k+1,y::L,by omega,by push_cast;rfl,(by rw [hV2.out];exact kset.kept rfl),hL2,hmset.trans (zaa (Below.refl _ _).drew)⟩,by simp only [RowKit.intOf];omega⟩
  ·have hkq:k=F.length:=by omega
   subst hkq;have hl:=hL.out.1;rw [List.take_length] at hl;replace hl:HidP _:=⟨hl⟩;clear hL;go_wp2_with fail;go_ret2;exact ⟨L,_,rfl,kr,hl.out,by omega,zbM hbw hm (by omega)⟩
theorem Tryz.acc3 {K:Nat→Prop} {w w5:World} {X:Nat} (hm:Dw.Mv K w w5) (hX:K X∨w.heap.size≤X) {y0 y1 y2:Value} (k5:Cl w5 X [y0,y1,y2]) (x0 x1 x2:Value):
  Cl (((w5.setCell ⟨X,0,none⟩ x0).setCell ⟨X,1,none⟩ x1).setCell ⟨X,2,none⟩ x2) X [x0,x1,x2]∧Dw.Mv K w (((w5.setCell ⟨X,0,none⟩ x0).setCell ⟨X,1,none⟩ x1).setCell ⟨X,2,none⟩ x2):=
 ⟨((k5.set 0 x0 (by simp)).set 1 x1 (by simp)).set 2 x2 (by simp),zaA (zaA (zaA hm X 0 x0 hX) X 1 x1 hX) X 2 x2 hX⟩
theorem Tryz.zbn {w:World} {X:Nat} {l:List Value} (h:Cl w X l):w.rangeAt X 0 l:=fun j y hy=>by rw [Nat.zero_add];exact h.cell j y hy
section
variable {fns fns':List Nat} {nw nw':Prop} {A A':Nat→Prop} {w w':World} {S P L Bs B M N:Nat} {r:Tryz.Rg} {s s':Tryz.SD} {g g':Nat→Int}
theorem Tryz.Cl.sdrings {stv nowv sgv fv:Value} (h:Cl w S (s.row r P M stv nowv sgv fv)):w.rangeAt S 1 [.bool false,.int .i64 r.n,.int .u64 r.d,.int .u64 r.v,.int .u64 r.c]:=by
 intro j v hv;rw [Nat.add_comm];exact h.cell (j+1) v (by
  match j with
  | 0=>exact hv
  | 1=>exact hv
  | 2=>exact hv
  | 3=>exact hv
  | 4=>exact hv
  | j+5=>cases hv)
theorem Tryz.SDWf.acc {X:Nat} (h:SDWf fns nw (fun b=>A b∨b=X) w S P L Bs B M N r s g) (aS:A S) (aM:A M) (aB:A B) (hX:X≠S∧X≠M∧X≠P∧X≠L∧X≠Bs∧X≠B) (x0 x1 x2:Value):
  SDWf fns nw A (((w.setCell ⟨X,0,none⟩ x0).setCell ⟨X,1,none⟩ x1).setCell ⟨X,2,none⟩ x2) S P L Bs B M N r s g:=
 h.fin aS aM aB hX (zaH (zaH (zaH (zaa (K:=(· =X)) (Below.refl _ _)) X 0 _ rfl) X 1 _ rfl) X 2 _ rfl)
theorem Tryz.SDWf.neX (h:SDWf fns nw A w S P L Bs B M N r s g):w.heap.size≠S∧w.heap.size≠M∧w.heap.size≠P∧w.heap.size≠L∧w.heap.size≠Bs∧w.heap.size≠B:=by
 have hlt:=h.mvNe;omega
set_option maxRecDepth 100000 in
theorem Tryz.zgm (h:SDWf fns nw A w S P L Bs B M N r s g) {what i a k:Int}
    (hwh: ∀w',Calls prog 136 #[r.val,.int .i64 what,.int .i64 i] w' fun e w2=>e= .returned (.tuple #[.int .u64 a,.int .i64 k,.int .i64 0])∧Below w'.heap.size w' w2):
    Calls prog 93 #[.pointer (some ⟨S,0,none⟩),.int .i64 what,.int .i64 i] w fun e w'=>e= .returned (.tuple #[.int .u64 a,.int .i64 k])∧Below w.heap.size w w':=by
  obtain ⟨stv,nowv,sgv,fv,h1,_⟩:=h.obj;have hr0:=h1.sdrings;unfold Rg.val at hwh;go_enter func93,ntmps93;go_wp2_with (first
    | (refine wpList_load_mid rfl 31 (.tmp 14) rfl S 1 rfl [.bool false,.int .i64 r.n,.int .u64 r.d,.int .u64 r.v,.int .u64 r.c] _ hr0 underlying31 rfl (by kernel_rfl) ?_)
    | (go_at_call 136;refine (hwh _).mono ?_;rintro e w1 ⟨rfl,hb1⟩)
    | go_in)
  go_ret2;exact ⟨rfl,hb1⟩
set_option maxRecDepth 100000 in
theorem Tryz.zg9 (h:SDWf fns nw A w S P L Bs B M N r s g) {what i:Int} {a k:Nat} (hk:k=1∨k=2∨k=4∨k=8) (hin:a+k≤N)
    (hwh: ∀w',Calls prog 136 #[r.val,.int .i64 what,.int .i64 i] w' fun e w2=>e= .returned (.tuple #[.int .u64 a,.int .i64 k,.int .i64 0])∧Below w'.heap.size w' w2):
    Calls prog 104 #[.pointer (some ⟨S,0,none⟩),.int .i64 what,.int .i64 i] w fun e w'=>e= .returned (.tuple #[.int .u64 (zaf g a k),.agg #[.int .i64 2,.int .i64 what,.int .i64 i]])∧Below w.heap.size w w':=by
  have hbx:=(Below.refl w.heap.size w).alloc (Nat.le_refl _) (Obj.cells #[.int .i64 0,.int .i64 0,.int .i64 0] 56);have k2:=Cl.new w #[.int .i64 0,.int .i64 0,.int .i64 0] 56;have hX:=h.below hbx;have hpl:=zgm hX hwh;obtain ⟨stv,nowv,sgv,fv,h1,_⟩:=hX.obj;have hld:=fun w1 (hb:Below (w.alloc (Obj.cells #[.int .i64 0,.int .i64 0,.int .i64 0] 56)).heap.size (w.alloc (Obj.cells #[.int .i64 0,.int .i64 0,.int .i64 0] 56)) w1)=>zlQ P L Bs B N a k g w1 (hX.below hb).mem h.hN hk hin;generalize zaf g a k=V at hld ⊢;clear hin hk hwh;go_enter func104,ntmps104;go_wp2_with (first
    | (go_at_call 93;refine hpl.mono ?_;rintro e w1 ⟨rfl,hb1⟩;have d0:=(h1.below hb1 h1.lt).cell 0 _ rfl)
    | (go_at_call 39;refine (hld _ hb1).mono ?_;rintro e w2 ⟨rfl,hb2⟩;have k3:=(k2.below hb1 k2.lt).below hb2 (k2.below hb1 k2.lt).lt;have x0:=k3.cell 0 _ rfl;have x1:=k3.cell 1 _ rfl;have x2:=k3.cell 2 _ rfl;have f0:=k3.free 0;have f1:=k3.free 1;have f2:=k3.free 2)
    | go_in)
  have hs1:=hb1.size;have hbw:=(hbx.trans (hb1.mono hbx.size)).trans (hb2.mono (Nat.le_trans hbx.size hs1));obtain ⟨kA,hm⟩:=acc3 (zaa (K:=fun _=>False) hbw) (.inr (Nat.le_refl _)) k3 (.int .i64 2) (.int .i64 what) (.int .i64 i);refine bodyPost_ret (ztX rfl _ _ w.heap.size [.int .i64 2,.int .i64 what,.int .i64 i] _ rfl (zbn kA) underlying56 rfl (by kernel_rfl)) rfl ?_;exact ⟨rfl,zbu hm⟩
set_option maxRecDepth 100000 in
theorem Tryz.zgi (h:SDWf fns nw A w S P L Bs B M N r s g) {what i v:Int} {a k:Nat} (hk:k=1∨k=2∨k=4∨k=8) (hin:a+k≤N)
    (hwh: ∀w',Calls prog 136 #[r.val,.int .i64 what,.int .i64 i] w' fun e w2=>e= .returned (.tuple #[.int .u64 a,.int .i64 k,.int .i64 0])∧Below w'.heap.size w' w2):
    Calls prog 53 #[.pointer (some ⟨S,0,none⟩),.int .i64 what,.int .i64 i,.int .u64 v] w fun e w'=>e= .returned (.agg #[.int .i64 3,.int .i64 what,.int .i64 i])∧SDWf fns nw A w' S P L Bs B M N r s (putW g a k v)∧Dw.Mv (· =B) w w':=by
  have hne:=h.neX;have hbx:=(Below.refl w.heap.size w).alloc (Nat.le_refl _) (Obj.cells #[.int .i64 0,.int .i64 0,.int .i64 0] 56);have k2:=Cl.new w #[.int .i64 0,.int .i64 0,.int .i64 0] 56;have hX:=h.box (Obj.cells #[.int .i64 0,.int .i64 0,.int .i64 0] 56);have hpl:=zgm hX hwh;obtain ⟨stv,nowv,sgv,fv,h1,_⟩:=hX.obj;have hst:=fun w1 (hb:Below (w.alloc (Obj.cells #[.int .i64 0,.int .i64 0,.int .i64 0] 56)).heap.size (w.alloc (Obj.cells #[.int .i64 0,.int .i64 0,.int .i64 0] 56)) w1)=>ziI P L Bs B N a k v g w1 (hX.below hb).mem h.hN hk hin;clear hin hk hwh;go_enter func53,ntmps53;go_wp2_with (first
    | (go_at_call 93;refine hpl.mono ?_;rintro e w1 ⟨rfl,hb1⟩;have d0:=(h1.below hb1 h1.lt).cell 0 _ rfl)
    | (go_at_call 19;refine (hst _ hb1).mono ?_;rintro e w2 ⟨rfl,hg2,hm2⟩;have k3:=(k2.below hb1 k2.lt).kept (hm2.block _ (k2.below hb1 k2.lt).lt hne.2.2.2.2.2);have x0:=k3.cell 0 _ rfl;have x1:=k3.cell 1 _ rfl;have x2:=k3.cell 2 _ rfl;have f0:=k3.free 0;have f1:=k3.free 1;have f2:=k3.free 2)
    | go_in)
  have h2:=(hX.below hb1).memB (zg1 hm2) hg2;obtain ⟨kA,hm⟩:=acc3 (((zaa (K:=(· =B)) hbx).trans (zaa hb1)).trans (zg1 hm2)) (.inr (Nat.le_refl _)) k3 (.int .i64 3) (.int .i64 what) (.int .i64 i);refine bodyPost_ret (zhV rfl _ _ w.heap.size [.int .i64 3,.int .i64 what,.int .i64 i] _ rfl (zbn kA) underlying56 rfl (by kernel_rfl)) rfl ?_;exact ⟨rfl,h2.acc h.aS h.aM h.aB hne _ _ _,hm⟩
set_option maxRecDepth 100000 in
theorem Tryz.zlr (h:SDWf fns nw A w S P L Bs B M N r s g) {n:Int} (hn:0≤n∧n<65536):Calls prog 103 #[.pointer (some ⟨S,0,none⟩),.int .u16 n] w fun e w'=>e= .returned (.int .i64 (n%r.n))∧w'=w:=by
 obtain ⟨stv,nowv,sgv,fv,h1,_⟩:=h.obj;have hb:=h.rg.ok.bnd;have c2:=h1.cell 2 _ rfl;have e1:IntKind.wrap .i64 n=n:=zaS (by omega) (by omega);have e2:n.tmod r.n=n%r.n:=Int.tmod_eq_emod_of_nonneg hn.1;have e3:IntKind.wrap .i64 (n%r.n)=n%r.n:=by
  have h1:=Int.emod_nonneg n (show r.n≠0 by omega);have h2:=Int.emod_lt_of_pos n (show 0<r.n by omega);exact zaS (by omega) (by omega)
 have hn0: ¬r.n=0:=by omega
 rw [←e2] at e3 ⊢;clear hb hn e2;go_enter func103,ntmps103;go_wp2_with fail;go_ret;exact ⟨rfl,rfl⟩
theorem Tryz.zer (a:Int):IntKind.wrap .u16 a=a%65536:=zpe _
set_option maxRecDepth 100000 in
theorem Tryz.zgW (a b:Int) (w:World):Calls prog 150 #[.int .u16 a,.int .u16 b] w fun e w'=>e= .returned (.int .u16 ((a-b)%65536))∧w'=w:=by
 have e1:=zer (a-b);go_enter func150,ntmps150;go_wp2_with fail;go_ret;exact ⟨rfl,rfl⟩
set_option maxRecDepth 100000 in
theorem Tryz.zqq (a b c:Int) (w:World):Calls prog 105 #[.int .u16 a,.int .u16 b,.int .u16 c] w fun e w'=>e= .returned (.bool (zlX a b c))∧w'=w:=by
  have d1:=fun w'=>zgW b a w';have d2:=fun w'=>zgW b c w';have hkk:zlX a b c=decide (((b-a)%65536-1)%65536<(b-c)%65536):=by
    unfold zlX;exact decide_eq_decide.2 (by rw [show (b-a-1)%65536=((b-a)%65536-1)%65536 by omega])
  rw [hkk];generalize (b-a)%65536=x at d1 ⊢;generalize (b-c)%65536=y at d2 ⊢;have e1:=zer (x-1);clear hkk;go_enter func105,ntmps105;go_wp2_with (first
    | (go_at_call_has 150 (Value.int IntKind.u16 a);refine (d1 _).mono ?_;rintro e w1 ⟨rfl,hw1⟩;have hw1:=hw1.symm;subst hw1)
    | (go_at_call_has 150 (Value.int IntKind.u16 c);refine (d2 _).mono ?_;rintro e w2 ⟨rfl,hw2⟩;have hw2:=hw2.symm;subst hw2)
    | go_in)
  go_ret;exact ⟨rfl,rfl⟩
end
end Go.Proofs
namespace Go.Proofs
open Go.Dw Go.RowKit Go.Maps Go.Sort Go.Deep
theorem Tryz.IntsV.below {w w':World} {sa:Option Addr} {l:List Int} (h:IntsV w sa l) (hb:Below w.heap.size w w'):IntsV w' sa l:=by
 rcases h with h|⟨G,o,rfl,hr⟩
 ·exact .inl h
 ·by_cases h0:l= []
  ·exact .inl h0
  ·exact .inr ⟨G,o,rfl,zae hr (hb.block G (zaz hr (by unfold zac;simpa using h0)))⟩
theorem Tryz.zaX (l:List Int):(zac l).length=l.length:=by rw [zac,List.length_map]
theorem Tryz.IdV.own {A:Nat→Prop} {w:World} {b0:Nat} {u:Value} {l:List Int} (h:OwnR 3 1 w b0 u l.length (zac l)) (hA: ∀b,A b→b<b0):IdV A w u l:=by
 obtain ⟨sa,c,rfl,hr⟩:=OwnR.row h;by_cases hl:0<l.length
 ·have hc:=OwnR.cap h hl;rcases hr with hr|⟨G,rfl,ho,hr⟩
  ·have:=congrArg List.length hr;rw [zaX] at this;simp only [List.length_nil] at this;omega
  ·exact ⟨_,_,rfl,hc,.inr ⟨G,0,rfl,fun q=>by have:=hA _ q;have:=(OwnR.lt h _ ho).1;omega,hr⟩⟩
 ·exact ⟨sa,c,rfl,by omega,.inl (List.length_eq_zero_iff.1 (by omega))⟩
theorem Tryz.OwnR.keepX {t:TypeId} {sz n b0 b1:Nat} {w w':World} {u:Value} {cs:List Value} (h:OwnR t sz w b0 u n cs) (hk: ∀b,b0≤b→b<w.heap.size→w'.heap[b]? =w.heap[b]?) (hb:b1≤b0):OwnR t sz w' b1 u n cs:=
 (OwnR.kept h fun b e=>hk b (OwnR.lt h b e).1 (OwnR.lt h b e).2).mono hb
theorem Tryz.zxf {t:TypeId} {sz n0 b0:Nat} {w6:World} {X:Nat} {a0 a1 u:Value} {cs:List Value} (v0:Value) (h:Cl w6 X [a0,a1]) (_:OwnR t sz w6 b0 u n0 cs):Cl ((w6.setCell ⟨X,0,none⟩ v0).setCell ⟨X,1,none⟩ u) X [v0,u]∧Dw.Mv (· =X) w6 ((w6.setCell ⟨X,0,none⟩ v0).setCell ⟨X,1,none⟩ u):=
 ⟨(h.set 0 v0 (by simp)).set 1 u (by simp),zaH (K:=(· =X)) (zaH (K:=(· =X)) (zaa (Below.refl w6.heap.size w6)) X 0 v0 rfl) X 1 u rfl⟩
theorem Tryz.zoT (a:Option Addr) (n c:Nat) (w:World):(binOp .eql 75 (.slice a n c) (.slice none 0 0)).run prog w= .ok (.bool a.isNone) w:=by
 simp only [binOp];simp [run_equal_slice_nil w 75 3 _ _ _ underlying75]
theorem Tryz.zkH (l:List Int): ∀v∈zac l,v.oneCell'=true:=fun v hv=>by
 obtain ⟨x,_,rfl⟩:=List.mem_map.1 hv;rfl
set_option maxRecDepth 100000 in
theorem Tryz.zfE {w:World} {sa:Option Addr} {c:Nat} {l:List Int} (h:IntsV w sa l) (hl:l.length≤1000000):
    Calls prog 97 #[.slice sa l.length c] w fun e w'=> ∃u,e= .returned u∧OwnR 3 1 w' w.heap.size u l.length (zac l)∧Below w.heap.size w w':=by
  have hq:=zoT;obtain ⟨i0,hi0,hz0,hz1,hzb⟩:=info_parts zq2;have hseg1:=zkH l;cases sa with
  | none=>
    have h0:l= []:=by
      rcases h with h|⟨R,o,h,_⟩
      · exact h
      · cases h
    subst h0;go_enter func97,ntmps97;go_wp2;go_ret;exact ⟨_,rfl,OwnR.nil _ _ _ _,Below.refl _ _⟩
  | some ad=>
    have hmade:=World.ownsRow_made (base:=w.heap.size) (e:=3) (size:=1) w #[] 0 (Nat.le_refl _) (by unfold maxLen;omega) rfl;have hb0:=(Below.refl w.heap.size w).alloc (Nat.le_refl _) (.cells #[] 3);have hnews: ∀j u,(zac l)[j]? =some u→(w.alloc (.cells #[] 3)).cell? (ad.add j)=some u:=fun j u hj=>by
      rcases h with h|⟨R,o,h,hr⟩
      · subst h;cases hj
      · cases h;have hlt:R<w.heap.size:=World.block_lt_of_cell? w _ (hr j u hj);rw [Dw.addr_add];exact (World.cell?_of_block (a:=⟨R,o+j,none⟩) (Below.heap_alloc w _ R hlt)).trans (hr j u hj)
    have hlen:=zaX l;go_enter func97,ntmps97;go_wp2_with (first
      | (at_builtin;go_loud (refine wpList_append_own _ rfl _ _ 75 rfl w.heap.size 3 i0 _ 1 8 (by kernel_rfl) hi0 hz0 hz1 hzb rfl (by decide) _ _ _ rfl hmade ad l.length c (zac l) rfl (by omega) hnews hseg1 (by unfold maxLen;omega) (by omega) (by simp) ?_);intro v' w3 hown' hg3 _;go_frame)
      | go_in)
    go_ret;have hown2:OwnR 3 1 w3 w.heap.size v' l.length (zac l):=by unfold OwnR;simpa using hown'
    refine ⟨_,rfl,hown2,hb0.grown hg3 (by simp) (fun j hj=> ?_)⟩;exact (hmade.lt j hj).1
set_option maxRecDepth 100000 in
theorem Tryz.zio {w:World} {sa:Option Addr} {c:Nat} {F:List Int} {n:Nat} (h:IntsV w sa F) (hn:1≤n∧n≤16) (hnd:F.Nodup) (hlo: ∀x∈F,0≤x∧x<n) (hlen:F.length≤n):
    Calls prog 96 #[.agg #[.int .i64 n,.slice sa F.length c]] w fun e w'=>e= .returned (.int .i64 0)∧Below w.heap.size w w':=by
  have hbx:=(Below.refl w.heap.size w).alloc (Nat.le_refl _) (Obj.cells #[.int .i64 n,.slice sa F.length c] 79);have hbm:=ziD (c:=c) (h.below hbx) hn hnd hlo hlen;clear hn hnd hlo hlen h;go_enter func96,ntmps96;go_wp2_with (first
    | (go_at_call 138;refine hbm.mono ?_;rintro en w1 ⟨L,G,rfl,_,_,_,hb1⟩)
    | go_in)
  go_ret;exact ⟨rfl,hbx.trans (hb1.mono hbx.size)⟩
theorem Tryz.zm7 {fn:Func} {t p u:Tmp} {ty:TypeId} (h:fn.results= #[.tmp t,.cell p ty,.tmp u]) (tmps:Array Value) (w:World) (b:Nat) (cs:List Value) (d:TypeDesc)
  (hp:tmps.getD p undef= .pointer (some ⟨b,0,none⟩)) (hg:w.rangeAt b 0 cs) (hu:prog.underlying ty=some d) (hd:d.isRow=true) (hi:(prog.info? ty).map (·.size)=some cs.length):
  (results fn tmps).run prog w= .ok (.tuple #[tmps.getD t undef,.agg cs.toArray,tmps.getD u undef]) w:=by
 have hp':tmps[p]?.getD undef= .pointer (some ⟨b,0,none⟩):=by simpa using hp
 simp [results,h,hp',asAddr,run_loadVar_mid w b 0 ty cs d hg hu hd hi]
set_option maxRecDepth 100000 in
theorem Tryz.zoV {w:World} {sa:Option Addr} {c m:Nat} {F:List Int} {n:Nat} (h:IntsV w sa F) (hn:1≤n∧n≤16) (hnd:F.Nodup) (hlo: ∀x∈F,0≤x∧x<n) (hlen:F.length≤n) (hm:1≤m) (hmF:F.length<m):
    Calls prog 61 #[.agg #[.int .i64 n,.slice sa F.length c],.int .i64 m] w fun e w'=>e= .returned (.tuple #[.slice none 0 0,.agg #[.int .i64 0,.slice none 0 0],.int .i64 7])∧Below w.heap.size w w':=by
  have hbx:=(Below.refl w.heap.size w).alloc (Nat.le_refl _) (Obj.cells #[.int .i64 n,.slice sa F.length c] 79);have kx:=Cl.new w #[.int .i64 n,.slice sa F.length c] 79;have hby:=(Below.refl (w.alloc (Obj.cells #[.int .i64 n,.slice sa F.length c] 79)).heap.size (w.alloc (Obj.cells #[.int .i64 n,.slice sa F.length c] 79))).alloc (Nat.le_refl _) (Obj.cells #[.int .i64 0,.slice none 0 0] 79);have ky:=Cl.new2 (w:=w.alloc (Obj.cells #[.int .i64 n,.slice sa F.length c] 79)) (b:=w.heap.size+1) (arr:= #[.int .i64 0,.slice none 0 0]) (t:=79) (by simp);have kx2:=kx.below hby kx.lt;have hbw:=hbx.trans (hby.mono hbx.size);have hck:=zio (c:=c) (h.below hbw) hn hnd hlo hlen;have e1: ¬(m:Int)<1:=by omega
  have e2:(F.length:Int)<m:=by omega
  clear hn hnd hlo hlen h hm hmF;go_enter func61,ntmps61;go_wp2_with (first
    | (go_at_call 96;refine hck.mono ?_;rintro en w1 ⟨rfl,hb1⟩;have x1:=kx2.below hb1 kx2.lt;have y1:=ky.below hb1 ky.lt;have c0:=x1.cell 0 _ rfl;have c1:=x1.cell 1 _ rfl;have d0:=y1.cell 0 _ rfl;have d1:=y1.cell 1 _ rfl;have f0:=y1.free 0;have f1:=y1.free 1)
    | go_in)
  have hb2:=hbw.trans (hb1.mono hbw.size);have kA:=(y1.set 0 (.int .i64 0) (by simp)).set 1 (.slice none 0 0) (by simp);refine bodyPost_ret (zm7 rfl _ _ (w.heap.size+1) [.int .i64 0,.slice none 0 0] _ rfl (zbn kA) underlying79 rfl (by kernel_rfl)) rfl ?_;exact ⟨rfl,zbu (zaA (zaA (zaa (K:=fun _=>False) hb2) (w.heap.size+1) 0 _ (.inr (by omega))) (w.heap.size+1) 1 _ (.inr (by omega)))⟩
theorem Tryz.IntsV.slice {w:World} {G o m:Nat} {l:List Int} (h:w.rangeAt G o (zac l)):IntsV w (some ⟨G,o,none⟩) (l.take m)∧IntsV w (some ⟨G,o+m,none⟩) (l.drop m):=
 ⟨.inr ⟨G,o,rfl,fun j y hy=>by
  rw [zac,List.map_take] at hy;have hj:j<m:=by
   have:=(List.getElem?_eq_some_iff.1 hy).1;rw [List.length_take] at this;omega
  rw [List.getElem?_take_of_lt hj] at hy;exact h j y hy⟩,.inr ⟨G,o+m,rfl,fun j y hy=>by
  rw [zac,List.map_drop,List.getElem?_drop] at hy;rw [Nat.add_assoc];exact h (m+j) y hy⟩⟩
set_option maxRecDepth 100000 in
theorem Tryz.zoU {w:World} {sa:Option Addr} {c m:Nat} {F:List Int} {n:Nat} (h:IntsV w sa F) (hc:F.length≤c) (hn:1≤n∧n≤16) (hnd:F.Nodup) (hlo: ∀x∈F,0≤x∧x<n) (hlen:F.length≤n) (hm:1≤m) (hmF:m≤F.length):
    Calls prog 61 #[.agg #[.int .i64 n,.slice sa F.length c],.int .i64 m] w fun e w'=> ∃u1 u2,e= .returned (.tuple #[u1,.agg #[.int .i64 n,u2],.int .i64 0])∧OwnR 3 1 w' w.heap.size u1 (F.take m).length (zac (F.take m))∧OwnR 3 1 w' w.heap.size u2 (F.drop m).length (zac (F.drop m))∧Below w.heap.size w w':=by
  have hbx:=(Below.refl w.heap.size w).alloc (Nat.le_refl _) (Obj.cells #[.int .i64 n,.slice sa F.length c] 79);have kx:=Cl.new w #[.int .i64 n,.slice sa F.length c] 79;have hby:=(Below.refl (w.alloc (Obj.cells #[.int .i64 n,.slice sa F.length c] 79)).heap.size (w.alloc (Obj.cells #[.int .i64 n,.slice sa F.length c] 79))).alloc (Nat.le_refl _) (Obj.cells #[.int .i64 0,.slice none 0 0] 79);have ky:=Cl.new2 (w:=w.alloc (Obj.cells #[.int .i64 n,.slice sa F.length c] 79)) (b:=w.heap.size+1) (arr:= #[.int .i64 0,.slice none 0 0]) (t:=79) (by simp);have kx2:=kx.below hby kx.lt;have hbw:=hbx.trans (hby.mono hbx.size);have hck:=zio (c:=c) (h.below hbw) hn hnd hlo hlen;obtain ⟨G,o,rfl,hr⟩:=h.resolve_left (by intro e;rw [e] at hmF;simp at hmF;omega);have hGl:G<w.heap.size:=zaz hr (by intro e;have:=congrArg List.length e;rw [zaX] at this;simp only [List.length_nil] at this;omega);have hrb:=fun {w'} (q:Below w.heap.size w w')=>IntsV.slice (m:=m) (zae hr (q.block G hGl));have lt1:(F.take m).length=m:=by rw [List.length_take];omega
  have lt2:(F.drop m).length=F.length-m:=List.length_drop;have e1: ¬(m:Int)<1:=by omega
  have e2: ¬(F.length:Int)<m:=by omega
  have e3:(0:Int)≤m:=by omega
  have e4:(m:Int)≤c:=by omega
  have e5:(m:Int)≤F.length:=by omega
  have e6:(F.length:Int)≤c:=by omega
  have e7:((F.length:Int)-m).toNat=F.length-m:=by omega
  have e8:((c:Int)-m).toNat=c-m:=by omega
  obtain ⟨o1,c1,ho1⟩: ∃o1 c1,(m=c∧o=o1∧0=c1)∨(¬c=m∧o+m=o1∧c-m=c1):=by
    by_cases q:c=m
    · exact ⟨o,0,.inl ⟨q.symm,rfl,rfl⟩⟩
    · exact ⟨o+m,c-m,.inr ⟨q,rfl,rfl⟩⟩
  have hdr: ∀ {w'},Below w.heap.size w w'→IntsV w' (some ⟨G,o1,none⟩) (F.drop m):=fun q=>by
    rcases ho1 with ⟨q1,q2,_⟩|⟨_,q2,_⟩
    · exact .inl (List.drop_eq_nil_of_le (by omega))
    · rw [←q2];exact (hrb q).2
  have hc1:=fun {w'} (q:Below w.heap.size w w')=>zfE (c:=c) (hrb q).1 (by omega);have hc2:=fun {w'} (q:Below w.heap.size w w')=>zfE (c:=c1) (hdr q) (by omega);rw [lt1] at hc1;rw [lt2] at hc2;rw [lt1,lt2];clear hn hnd hlo h hm hr hrb hdr hlen;rcases ho1 with ⟨rfl,rfl,rfl⟩|⟨hcm,rfl,rfl⟩
  all_goals
    try rw [show F.length-m=0 by omega] at hc2 ⊢
    try have hcm2: ¬(c:Int)=m:=by omega
    try have hcm3: ¬c-m=0:=by omega
    try have hcm4: ¬(c:Int)-m=0:=by omega
    go_enter func61,ntmps61;go_wp2_with (first
      | (go_at_call 96;refine hck.mono ?_;rintro en w1 ⟨rfl,hb1⟩;have x1:=kx2.below hb1 kx2.lt;have y1:=ky.below hb1 ky.lt;have c0:=x1.cell 0 _ rfl;have c1:=x1.cell 1 _ rfl)
      | go_in)
    have hb2:=(hbw.trans (hb1.mono hbw.size)).drew;have xd:=x1.kept (w':=w1.drew) rfl;have yd:=y1.kept (w':=w1.drew) rfl;have v0:=xd.cell 0 _ rfl;have v1:=xd.cell 1 _ rfl
    first
      | (go_region_held3 (fun w'=>w'.cell? ⟨w.heap.size,0,none⟩=some (.int .i64 n)∧w'.cell? ⟨w.heap.size,1,none⟩=some (.slice (some ⟨G,o,none⟩) F.length c)) (go_keep)
        ((first
          | (go_at_call 97;have hz:=hb5;refine (hc2 (hb2.trans (hb5.mono hb2.size))).mono ?_;rintro en w6 ⟨u2,rfl,hu2,hb6⟩;have hv2:=OwnR.row hu2;obtain ⟨s2,k2,rfl,_⟩:=hv2;have x6:=x5.below hb6 x5.lt;have y6:=y5.below hb6 y5.lt;have t0:=x6.cell 0 _ rfl;have t1:=x6.cell 1 _ rfl;have d0:=y6.cell 0 _ rfl;have d1:=y6.cell 1 _ rfl;have f0:=y6.free 0;have f1:=y6.free 1)
          | (go_at_call 97;refine (hc1 hb2).mono ?_;rintro en w5 ⟨u1,rfl,hu1,hb5⟩;have x5:=xd.below hb5 xd.lt;have y5:=yd.below hb5 yd.lt;have z0:=x5.cell 0 _ rfl;have z1:=x5.cell 1 _ rfl))))
      | (go_region_held3 (fun w'=>w'.cell? ⟨w.heap.size,0,none⟩=some (.int .i64 n)∧w'.cell? ⟨w.heap.size,1,none⟩=some (.slice (some ⟨G,o,none⟩) F.length m)) (go_keep)
        ((first
          | (go_at_call 97;have hz:=hb5;refine (hc2 (hb2.trans (hb5.mono hb2.size))).mono ?_;rintro en w6 ⟨u2,rfl,hu2,hb6⟩;have hv2:=OwnR.row hu2;obtain ⟨s2,k2,rfl,_⟩:=hv2;have x6:=x5.below hb6 x5.lt;have y6:=y5.below hb6 y5.lt;have t0:=x6.cell 0 _ rfl;have t1:=x6.cell 1 _ rfl;have d0:=y6.cell 0 _ rfl;have d1:=y6.cell 1 _ rfl;have f0:=y6.free 0;have f1:=y6.free 1)
          | (go_at_call 97;refine (hc1 hb2).mono ?_;rintro en w5 ⟨u1,rfl,hu1,hb5⟩;have x5:=xd.below hb5 xd.lt;have y5:=yd.below hb5 yd.lt;have z0:=x5.cell 0 _ rfl;have z1:=x5.cell 1 _ rfl))))
    all_goals
      go_wp2_with fail;have hl1:=y1.lt;have hq1:w1.drew.heap.size=w1.heap.size:=rfl;have hs5:=hb5.size;have hs6:=hb6.size;have hs2:=hb2.size;obtain ⟨kA,hmS⟩:=zxf (.int .i64 n) y6 hu2;have hB:=zbM ((hb2.trans (hb5.mono hs2)).trans (hb6.mono (Nat.le_trans hs2 hs5))) hmS (by omega);refine bodyPost_ret (zm7 rfl _ _ (w.heap.size+1) _ _ rfl (zbn kA) underlying79 rfl (by kernel_rfl)) rfl ?_;exact ⟨u1,_,rfl,OwnR.keepX hu1 (fun b h1 h2=>(hmS.block b (by omega) (by show¬b=w.heap.size+1;omega)).trans (hb6.block b h2)) (by omega),OwnR.keepX hu2 (fun b h1 h2=>hmS.block b h2 (by show¬b=w.heap.size+1;omega)) (by omega),hB⟩
theorem Tryz.zcC (l F:List Int):zac (l++F)=zac l++zac F:=List.map_append
theorem Tryz.ztE {w:World} {H c:Nat} {l F:List Int} {sa:Option Addr} (h0:w.rangeAt H 0 (zac l)) (hF:IntsV w sa F) (hlen:l.length+F.length≤1000000) (hHl:H<w.heap.size):
  ∃ (G cap:Nat) (w':World),(∀ty,(Builtin.append_ #[75,75] ty #[.slice (some ⟨H,0,none⟩) l.length l.length,.slice sa F.length c]).run prog w= .ok (.slice (some ⟨G,0,none⟩) (l.length+F.length) cap) w')∧l.length+F.length≤cap∧w'.rangeAt G 0 (zac (l++F))∧Below w.heap.size w w'∧(G=H∨w.heap.size≤G):=by
 obtain ⟨i0,hi0,hz0,hz1,hzb⟩:=info_parts zq2;by_cases hF0:F= []
 ·subst hF0;refine ⟨H,l.length,w,fun ty=> ?_,Nat.le_refl _,by simpa using h0,Below.refl _ _,.inl rfl⟩;have h63: ¬(9223372036854775807<((l.length:Nat):Int)):=by omega
  cases sa<;>simp [Builtin.append_,run_underlying underlying75,sizeOf,typeInfo,zeroValue,hi0,hz0,hz1,Builtin.lenOf,h63,Builtin.firstCells,loadCells,loadCellsFrom,storeCells]
 ·obtain ⟨R,o,rfl,hr⟩:=hF.resolve_left hF0;have hFp:0<F.length:=List.length_pos_iff.2 hF0;have hg:=grownCap_ge w (l.length+F.length) l.length 3;have hr2:=fun ty=>run_append_grow (P:=prog) w 75 ty 3 i0 (.int .i64 0) underlying75 hi0 hz0 ⟨H,0,none⟩ l.length l.length (zac l) (by rw [hz1,zaX];omega) (fun j v hj=>by rw [Dw.addr_add];exact h0 j v hj) ⟨R,o,none⟩ F.length c (zac F) (by rw [hz1,zaX];omega) (fun j v hj=>by rw [Dw.addr_add];exact hr j v hj) (by omega) (by omega) (growslice_fits (by omega) (by rw [hzb];omega));generalize grownCap w (l.length+F.length) l.length 3=gc at hg hr2;refine ⟨w.heap.size,gc,_,hr2,hg,fun j v hj=> ?_,((Below.refl w.heap.size w).drew).alloc (Nat.le_refl _) _,.inr (Nat.le_refl _)⟩;rw [Nat.zero_add];refine (Cl.new w.drew _ 3).cell j v ?_;rw [Array.toList_append,Array.toList_append];have hjl:j<(zac (l++F)).length:=(List.getElem?_eq_some_iff.1 hj).1;rw [List.getElem?_append_left (by simpa [zcC] using hjl)];simpa [zcC] using hj
theorem Tryz.zrK {L:List Nat} {y:Nat} (hL: ∀z∈L,z<16) (hy:y<16) (hm:y∉L):
  bits .and .u64 (((bmN L:Nat):Int)/2^y) 1=(((bmN L:Nat):Int)/2^y)%2∧((((bmN L:Nat):Int)/2^y%2)==1)=false∧IntKind.wrap .u64 (2^y:Int)=2^y∧bits .or .u64 ((bmN L:Nat):Int) (2^y)=((bmN (y::L):Nat):Int):=by
 have hbit:=zrJ y L;rw [if_neg hm] at hbit;have hor:=zuf y hL hy;have hlt:=zk4 hL;obtain ⟨hp1,hp2⟩:=zwL hy;generalize bmN (y::L)=V2 at hor ⊢;generalize bmN L=V at*;have hpI:(0:Int)≤2^y:=by have:=Int.natCast_nonneg (2^y);push_cast at this;exact this
 have hsh:IntKind.wrap .u64 (2^y:Int)=2^y:=by
  have h1:((2^y:Nat):Int)<65536:=by omega
  push_cast at h1;exact zai hpI (by omega)
 refine ⟨zrU ⟨Int.ediv_nonneg (by omega) hpI,Int.lt_of_le_of_lt (Int.ediv_le_self _ (by omega)) (by omega)⟩,?_,hsh,by push_cast at hor;exact hor⟩;push_cast at hbit;rw [hbit];rfl
theorem Tryz.zpE {P0:Program} {w:World} {ops:Array Oper} {o:Oper} {a:Act} {K:Act→World→Prop} {Q:Exit→Act→World→Prop} {E:Prop} (hgd:o.guard=none) (s x:Operand) (t:TypeId)
  (ho:o.op= .call { callee:= .builtin .append,args:= #[s,x],argTypes:= #[t,t] }) {vs vx v':Value} {w':World} (hs:a.eval s=vs) (hx:a.eval x=vx) (hr: ∀ty,(Builtin.append_ #[t,t] ty #[vs,vx]).run P0 w= .ok v' w')
  (h:K (a.put o.dst v') w'):if Region.wanted o (yielded ops a.tmps)=true then Oper.wp P0 o a w K Q else E:=by
 have hw:Region.wanted o (yielded ops a.tmps)=true:=by simp [Region.wanted,hgd]
 rw [if_pos hw];unfold Oper.wp execOp;simp only [ho,resolve,invoke,builtin,Sem.run_bind,Sem.run_pure,Result.andThen_ok,List.map_toArray,List.map_cons,List.map_nil,hs,hx,hr];exact h
set_option maxRecDepth 100000 in
theorem Tryz.zri {w:World} {sa sl:Option Addr} {c cl:Nat} {F l:List Int} {n:Nat} (h:IntsV w sa F) (hL:IntsV w sl l) (hl0:l≠ []) (hn:1≤n∧n≤16) (hnd:F.Nodup) (hnl:l.Nodup) (hdis: ∀x∈l,x∉F) (hlo: ∀x∈F,0≤x∧x<n) (hll: ∀x∈l,0≤x∧x<n) (hlen:l.length+F.length≤n):
    Calls prog 153 #[.agg #[.int .i64 n,.slice sa F.length c],.slice sl l.length cl] w fun e w'=> ∃G cap,e= .returned (.tuple #[.agg #[.int .i64 n,.slice (some ⟨G,0,none⟩) (l++F).length cap],.int .i64 0])∧(l++F).length≤cap∧w.heap.size≤G∧w'.rangeAt G 0 (zac (l++F))∧Below w.heap.size w w':=by
  have hbx:=(Below.refl w.heap.size w).alloc (Nat.le_refl _) (Obj.cells #[.int .i64 n,.slice sa F.length c] 79);have kx:=Cl.new w #[.int .i64 n,.slice sa F.length c] 79;have hby:=(Below.refl (w.alloc (Obj.cells #[.int .i64 n,.slice sa F.length c] 79)).heap.size (w.alloc (Obj.cells #[.int .i64 n,.slice sa F.length c] 79))).alloc (Nat.le_refl _) (Obj.cells #[.int .i64 0,.slice none 0 0] 79);have ky:=Cl.new2 (w:=w.alloc (Obj.cells #[.int .i64 n,.slice sa F.length c] 79)) (b:=w.heap.size+1) (arr:= #[.int .i64 0,.slice none 0 0]) (t:=79) (by simp);have kx2:=kx.below hby kx.lt;have hbw:=hbx.trans (hby.mono hbx.size);have hbm:=ziD (c:=c) (h.below hbw) hn hnd hlo (by omega);obtain ⟨R,o,rfl,hr⟩:=hL.resolve_left hl0;have hRl:R<w.heap.size:=zaz hr (by intro e;have:=congrArg List.length e;rw [zaX] at this;simp only [List.length_nil] at this;exact hl0 (List.length_eq_zero_iff.1 this));have hlp:0<l.length:=List.length_pos_iff.2 hl0;have hsz:=hbw.size;have hn16:=hn.2;have hFl:F.length≤16:=by omega
  have hll16:l.length≤16:=by omega
  replace hlo:HidP (∀x∈F,0≤x∧x<n):=⟨hlo⟩;replace hll:HidP (∀x∈l,0≤x∧x<n):=⟨hll⟩;replace hdis:HidP (∀x∈l,x∉F):=⟨hdis⟩;replace hnl:HidP l.Nodup:=⟨hnl⟩;replace h:HidP (IntsV w sa F):=⟨h⟩;replace hr:HidP (w.rangeAt R o (zac l)):=⟨hr⟩;clear hnd hL hl0 hlen;go_enter func153,ntmps153;go_wp2_with (first
    | (go_at_call 138;refine hbm.mono ?_;rintro en w1 ⟨L,G,rfl,kG,hLm,hG,hb1⟩)
    | go_in)
  have x1:=kx2.below hb1 kx2.lt;have y1:=ky.below hb1 ky.lt;have hb2:=hbw.trans (hb1.mono hbw.size);have e1:=zae hr.out (hb2.block R hRl);have hxG: ¬w.heap.size=G:=by simp at hG;omega
  have hyG: ¬w.heap.size+1=G:=by simp at hG;omega
  have hRG: ¬R=G:=by omega
  have hwG:w.heap.size≤G:=by simp at hG;omega
  replace hLm:HidP (∀y:Nat,y∈L↔(y:Int)∈F):=⟨hLm⟩;have c0:=x1.cell 0 _ rfl;clear hbm hG hsz hby hbx kx ky;go_loopw [23] (fun x wr=>wr=w1∧ ∃k:Nat,k≤l.length∧x= .int .i64 k) (fun x _=>l.length-(RowKit.intOf x).toNat)
  case atStart=>exact ⟨rfl,0,Nat.zero_le _,rfl⟩
  case round=>
    obtain ⟨hwr,k,hk,rfl⟩:=hrel;have hwr:=hwr.symm;subst hwr;by_cases hkl:k<l.length
    · have hkl':(k:Int)<l.length:=by omega
      have e2:=e1 k (.int .i64 l[k]) (by simp [zac,hkl]);have hb:=hll.out _ (List.getElem_mem hkl);generalize l[k]=x at e2 hb;have q1: ¬x<0:=by omega
      have q2: ¬(n:Int)≤x:=by omega
      clear e1 hb;go_wp2_with fail;exact ⟨⟨trivial,k+1,by omega,by push_cast;rfl⟩,by simp only [RowKit.intOf];omega⟩
    · have hkl': ¬(k:Int)<l.length:=by omega
      have hkq:k=l.length:=by omega
      subst hkq;clear c0;go_wp2_with fail;have hllk:=hll;clear e1 hll;go_loopw [39] (fun x wr=> ∃(k:Nat) (L':List Nat),k≤l.length∧x= .int .i64 k∧Cl wr G [.int .u64 ((bmN L':Nat):Int)]∧HidP ((∀y:Nat,y∈L'↔(y:Int)∈F∨(y:Int)∈l.take k)∧(∀y∈L',y<16))∧Dw.Mv (· =G) w1 wr) (fun x _=>l.length-(RowKit.intOf x).toNat)
      case atStart=>exact ⟨0,L,Nat.zero_le _,rfl,kG,⟨fun y=>by rw [hLm.out y];simp,fun y hy=>by have:=hlo.out _ ((hLm.out y).1 hy);omega⟩,Dw.Mv.refl _ _⟩
      case round=>
        obtain ⟨k,L',hk,rfl,kr,hL',hm⟩:=hrel;have e1:=zae (zae hr.out (hb2.block R hRl)) (hm.block R (Nat.lt_of_lt_of_le hRl hb2.size) hRG);by_cases hkl:k<l.length
        · have hkl':(k:Int)<l.length:=by omega
          have e2:=e1 k (.int .i64 l[k]) (by simp [zac,hkl]);have y0:=kr.cell 0 _ rfl;have f0:=kr.free 0;obtain ⟨y,hy,hy16⟩: ∃y:Nat,l[k]=y∧y<n:=by
            have:=hllk.out _ (List.getElem_mem hkl);exact ⟨l[k].toNat,by omega,by omega⟩
          have hmem:y∉L':=by
            rw [hL'.out.1 y,←hy];rintro (hq|hq)
            · exact hdis.out _ (List.getElem_mem hkl) hq
            · obtain ⟨j,hj,hjq⟩:=List.getElem_of_mem hq;rw [List.getElem_take] at hjq;rw [List.length_take] at hj;have:=(List.getElem_inj hnl.out).1 hjq;omega
          obtain ⟨hq,hb1',hsh,hor2⟩:=zrK hL'.out.2 (y:=y) (by omega) hmem;have hL2:HidP ((∀z:Nat,z∈y::L'↔(z:Int)∈F∨(z:Int)∈l.take (k+1))∧(∀z∈y::L',z<16)):=⟨fun z=>by
            rw [List.take_succ_eq_append_getElem hkl,List.mem_append,List.mem_singleton,hy,List.mem_cons,hL'.out.1 z];constructor
            · rintro (rfl|q|q)
              · exact .inr (.inr rfl)
              · exact .inl q
              · exact .inr (.inl q)
            · rintro (q|q|q)
              · exact .inr (.inl q)
              · exact .inr (.inr q)
              · exact .inl (by omega),fun z hz=>by
            rcases List.mem_cons.1 hz with rfl|hz
            · omega
            · exact hL'.out.2 z hz⟩
          rw [hy] at e2;generalize hV2:bmN (y::L')=V2 at hor2;replace hV2:HidP _:=⟨hV2⟩;generalize hV:bmN L'=V at*;clear hV hmem;have q1:(y:Int).tdiv 64=0:=by rw [Int.tdiv_eq_ediv_of_nonneg (by omega)];omega
          have q2:(y:Int).tmod 64=y:=by rw [Int.tmod_eq_emod_of_nonneg (by omega)];omega
          have q5:(0:Int)≤y:=by omega
          have q6:(y:Int)<64:=by omega
          have wz:IntKind.wrap .i64 0=0:=rfl;have krd:=kr.kept (w':=wr.drew) rfl;have d0:=krd.cell 0 _ rfl;have df0:=krd.free 0;have kset:=kr.set 0 (.int .u64 (V2:Int)) (by simp);have hmset:=zaA hm G 0 (.int .u64 (V2:Int)) (.inl rfl);clear hL' e1;go_wp2_with fail;go_region_law fail
          all_goals
            go_wp2_with fail;exact ⟨⟨k+1,y::L',by omega,by push_cast;rfl,(by rw [hV2.out];exact kset.kept rfl),hL2,hmset.trans (zaa (Below.refl _ _).drew)⟩,by simp only [RowKit.intOf];omega⟩
        · have hkl': ¬(k:Int)<l.length:=by omega
          have hkq:k=l.length:=by omega
          subst hkq;have hb3:=zbM hb2 hm hwG;have hcl:=zfE (c:=cl) (.inr ⟨R,o,rfl,e1⟩) (by omega);have x3:=x1.kept (hm.block _ x1.lt hxG);have y3:=y1.kept (hm.block _ y1.lt hyG);clear kr hL' e1 hm;go_wp2_with (first
            | (go_at_call 97;refine hcl.mono ?_;rintro en w4 ⟨u1,rfl,hu1,hb4⟩;have hv1:=OwnR.row hu1;obtain ⟨s1,k1,rfl,hr1⟩:=hv1)
            | go_in)
          obtain ⟨H,rfl,hHo,hH⟩:=hr1.resolve_left (by intro e;have:=congrArg List.length e;rw [zaX] at this;simp only [List.length_nil] at this;omega);have hHl:=(OwnR.lt hu1 H hHo).2;have hHw:=(OwnR.lt hu1 H hHo).1;have hcap:=OwnR.cap hu1 hlp;have h3s:=hb3.size;have hb5:=(hb3.trans (hb4.mono h3s)).drew;have x4:=(x3.below hb4 x3.lt).kept (w':=w4.drew) rfl;have y4:=(y3.below hb4 y3.lt).kept (w':=w4.drew) rfl;obtain ⟨GG,cap,w5,hrun,hcap5,hR5,hb6,hGG⟩:=ztE (c:=c) (sa:=sa) (F:=F) (w:=w4.drew) hH (h.out.below hb5) (by omega) hHl;have q1:(l.length:Int)≤k1:=by omega
          have q2:(0:Int)≤l.length:=by omega
          have v0:=x4.cell 0 _ rfl;have v1:=x4.cell 1 _ rfl;replace hR5:HidP _:=⟨hR5⟩;replace hcap5:HidP _:=⟨hcap5⟩;replace hrun:HidP _:=⟨hrun⟩;clear hH hr1 hu1 hcl;go_region_held3 (fun w'=>w'.cell? ⟨w.heap.size,0,none⟩=some (.int .i64 n)∧w'.cell? ⟨w.heap.size,1,none⟩=some (.slice sa F.length c)) (go_keep)
            ((first
              | (refine zpE (P0:=prog) (by rfl) _ _ 75 (by rfl) (vs:= .slice (some ⟨H,0,none⟩) l.length l.length) (vx:= .slice sa F.length c) (by rfl) (by rfl) hrun.out ?_;have x5:=x4.below hb6 x4.lt;have y5:=y4.below hb6 y4.lt;have t0:=x5.cell 0 _ rfl;have t1:=x5.cell 1 _ rfl;have d0:=y5.cell 0 _ rfl;have d1:=y5.cell 1 _ rfl;have f0:=y5.free 0;have f1:=y5.free 1)))
          all_goals
            go_wp2_with fail;have kA:=(y5.set 0 (.int .i64 n) (by simp)).set 1 (.slice (some ⟨GG,0,none⟩) (l.length+F.length) cap) (by simp);have hmS:=zaH (K:=(· =w.heap.size+1)) (zaH (K:=(· =w.heap.size+1)) (zaa (Below.refl w5.heap.size w5)) (w.heap.size+1) 0 (.int .i64 n) rfl) (w.heap.size+1) 1 (.slice (some ⟨GG,0,none⟩) (l.length+F.length) cap) rfl;have hyl:=y3.lt;have hw4:w4.drew.heap.size=w4.heap.size:=rfl;have hs4:=hb4.size;have hGl:GG<w5.heap.size:=zaz hR5.out (by intro e;have:=congrArg List.length e;rw [zaX,List.length_append] at this;simp only [List.length_nil] at this;omega);have hGn: ¬GG=w.heap.size+1:=by rcases hGG with q|q<;>omega
            refine bodyPost_ret (zaL rfl _ _ (w.heap.size+1) [.int .i64 n,.slice (some ⟨GG,0,none⟩) (l.length+F.length) cap] _ rfl (zbn kA) underlying79 rfl (by kernel_rfl)) rfl ?_;refine ⟨GG,cap,by rw [List.length_append];rfl,by rw [List.length_append];exact hcap5.out,by rcases hGG with q|q<;>omega,zae hR5.out (hmS.block GG hGl hGn),zbM (hb5.trans (hb6.mono hb5.size)) hmS (by omega)⟩
theorem Tryz.zpt (k:Nat):upto (k+1)=upto k++ [(k:Int)]:=by simp [upto,List.range_succ]
set_option maxRecDepth 100000 in
theorem Tryz.zto {n:Nat} (hn:1≤n∧n≤16) (w:World):
    Calls prog 52 #[.int .i64 n] w fun e w'=> ∃u,e= .returned (.tuple #[.agg #[.int .i64 n,u],.int .i64 0])∧OwnR 3 1 w' w.heap.size u (upto n).length (zac (upto n))∧Below w.heap.size w w':=by
  obtain ⟨i0,hi0,j1,j2,j3⟩:=info_parts zq2;have hbx:=(Below.refl w.heap.size w).alloc (Nat.le_refl _) (Obj.cells #[.int .i64 0,.slice none 0 0] 79);have kx:=Cl.new w #[.int .i64 0,.slice none 0 0] 79;have hby:=(Below.refl (w.alloc (Obj.cells #[.int .i64 0,.slice none 0 0] 79)).heap.size (w.alloc (Obj.cells #[.int .i64 0,.slice none 0 0] 79))).alloc (Nat.le_refl _) (Obj.cells #[.int .i64 n,.slice none 0 0] 79);have ky:=Cl.new2 (w:=w.alloc (Obj.cells #[.int .i64 0,.slice none 0 0] 79)) (b:=w.heap.size+1) (arr:= #[.int .i64 n,.slice none 0 0]) (t:=79) (by simp);have kx2:=kx.below hby kx.lt;have hbw:=hbx.trans (hby.mono hbx.size);have e1: ¬(n:Int)<1:=by omega
  have e2: ¬(32768:Int)<n:=by omega
  have hn16:=hn.2;have hsz:((w.alloc (Obj.cells #[.int .i64 0,.slice none 0 0] 79)).alloc (Obj.cells #[.int .i64 n,.slice none 0 0] 79)).heap.size=w.heap.size+2:=by simp
  go_enter func52,ntmps52;go_wp2_with fail;generalize (w.alloc (Obj.cells #[.int .i64 0,.slice none 0 0] 79)).alloc (Obj.cells #[.int .i64 n,.slice none 0 0] 79)=W at*;clear hbx kx hby e1 e2;go_loopw [16] (fun x wr=> ∃(k:Nat) (cv:Value),k≤n∧x= .int .i64 k∧Cl wr w.heap.size [.int .i64 0,.slice none 0 0]∧Cl wr (w.heap.size+1) [.int .i64 n,cv]∧OwnR 3 1 wr (w.heap.size+2) cv k (zac (upto k))∧Below w.heap.size w wr) (fun x _=>n-(RowKit.intOf x).toNat)
  case atStart=>exact ⟨0,_,Nat.zero_le _,rfl,kx2,ky,by simpa [upto,zac] using OwnR.nil 3 1 _ (w.heap.size+2),hbw⟩
  case round=>
    obtain ⟨k,cv,hk,rfl,k1,k2,ho,hb⟩:=hrel;by_cases hkn:k<n
    · have hkn':(k:Int)<n:=by omega
      have y0:=k2.cell 0 _ rfl;have y1:=k2.cell 1 _ rfl;have f1:=k2.free 1;have hol:=OwnR.lt ho;have hbn:=(Below.refl wr.heap.size wr).alloc (Nat.le_refl _) (Obj.cells #[.int .i64 k] 3);have ho2:=OwnR.kept ho (w':=wr.alloc (Obj.cells #[.int .i64 k] 3)) fun b q=>hbn.block b (hol b q).2;have kn:=Cl.new wr #[.int .i64 k] 3;have hnews: ∀j u,([.int .i64 k]:List Value)[j]? =some u→(wr.alloc (Obj.cells #[.int .i64 k] 3)).cell? ((⟨wr.heap.size,0,none⟩:Addr).add j)=some u:=fun j u hu=>by
        rw [Dw.addr_add];exact kn.cell (0+j) u (by rw [Nat.zero_add];exact hu)
      have hbs:=hb.size;have hl2:=k2.lt;have hsuc:=zpt k;replace hsuc:HidP _:=⟨hsuc⟩;have hw1:IntKind.wrap .i64 ((k:Int)+1)=(k:Int)+1:=zaS (by omega) (by omega);obtain ⟨scv,ccv,hcv,_⟩:=OwnR.row ho;subst hcv;go_wp2_with (first
        | (at_builtin;go_loud (refine wpList_append_own_at _ rfl _ _ 75 rfl (w.heap.size+2) 3 i0 _ 1 8 (by kernel_rfl) hi0 j1 j2 j3 rfl (by decide) (.slice scv k ccv) k (zac (upto k)) rfl ho2 ⟨wr.heap.size,0,none⟩ 1 1 [.int .i64 k] rfl rfl hnews (by intro y hy;simp only [List.mem_cons,List.not_mem_nil,or_false] at hy;subst hy;rfl) (by unfold maxLen;omega) (by omega) (by simp;omega) ?_);intro v2 w9 h2 h3 h4 h5;have hbw9:=hb.trans (hbn.mono hbs);have k2':=(k2.below hbn k2.lt).kept (h3.block _ (k2.below hbn k2.lt).lt (fun e=>by have:=(hol _ e.symm).1;omega));have k1':=(k1.below hbn k1.lt).kept (h3.block _ (k1.below hbn k1.lt).lt (fun e=>by have:=(hol _ e.symm).1;omega));have z1:=k2'.cell 1 _ rfl;have zf:=k2'.free 1;obtain ⟨s9,c9,hv9,_⟩:=OwnR.row h2;subst hv9;go_frame)
        | go_in)
      have hmS:=zaH (K:=(· =w.heap.size+1)) (zaa (Below.refl w9.heap.size w9)) (w.heap.size+1) 1 (.slice s9 (k+1) c9) rfl;have hB9:Below w.heap.size w w9:=⟨h3.os.trans hbw9.os,h3.tape.trans hbw9.tape,h3.output.trans hbw9.output,Nat.le_trans hbw9.size h3.size,fun b hh=>(h3.block b (Nat.lt_of_lt_of_le hh hbw9.size) (fun e=>by have:=(hol b e.symm).1;omega)).trans (hbw9.block b hh)⟩;refine ⟨⟨k+1,_,by omega,by push_cast;rfl,k1'.kept (hmS.block _ k1'.lt (by show¬w.heap.size=w.heap.size+1;omega)),k2'.set 1 _ (by simp),?_,zbM hB9 hmS (by omega)⟩,by simp only [RowKit.intOf];omega⟩;rw [hsuc.out,zcC];exact OwnR.keepX h2 (fun b hb1 hb2=>hmS.block b hb2 (by show¬b=w.heap.size+1;omega)) (Nat.le_refl _)
    · have hkq:k=n:=by omega
      subst hkq;have hkn': ¬(k:Int)<k:=by omega
      have y0:=k2.cell 0 _ rfl;have y1:=k2.cell 1 _ rfl;have x0:=k1.cell 0 _ rfl;have x1:=k1.cell 1 _ rfl;have f0:=k1.free 0;have f1:=k1.free 1;obtain ⟨scv,ccv,hcv,_⟩:=OwnR.row ho;subst hcv;have hne: ¬w.heap.size=w.heap.size+1:=by omega
      go_wp2_with fail;have kA:=(k1.set 0 (.int .i64 k) (by simp)).set 1 (.slice scv k ccv) (by simp);have hmS:=zaH (K:=(· =w.heap.size)) (zaH (K:=(· =w.heap.size)) (zaa (Below.refl wr.heap.size wr)) w.heap.size 0 (.int .i64 k) rfl) w.heap.size 1 (.slice scv k ccv) rfl;refine bodyPost_ret (zaL rfl _ _ w.heap.size [.int .i64 k,.slice scv k ccv] _ rfl (zbn kA) underlying79 rfl (by kernel_rfl)) rfl ?_;exact ⟨_,rfl,by rw [ziG];exact OwnR.keepX ho (fun b hb1 hb2=>hmS.block b hb2 (by show¬b=w.heap.size;omega)) (by omega),zbM hb hmS (Nat.le_refl _)⟩
set_option maxRecDepth 100000 in
theorem Tryz.zfB (p:Pt) (hp:p.ok) (w:World):
    Calls prog 102 #[.agg #[.int .u64 p.a,.int .u32 p.ln,.int .u16 p.f,.int .u16 p.nx]] w fun e w'=> ∃X,w.heap.size≤X∧e= .returned (.slice (some ⟨X,0,none⟩) 16 16)∧Cl w' X (zaq p.bytes)∧Below w.heap.size w w':=by
  have hbx:=(Below.refl w.heap.size w).alloc (Nat.le_refl _) (Obj.cells #[.int .u64 p.a,.int .u32 p.ln,.int .u16 p.f,.int .u16 p.nx] 175);have hbz:=hbx.alloc (by simp) (Obj.cells #[.int .u8 0,.int .u8 0,.int .u8 0,.int .u8 0,.int .u8 0,.int .u8 0,.int .u8 0,.int .u8 0,.int .u8 0,.int .u8 0,.int .u8 0,.int .u8 0,.int .u8 0,.int .u8 0,.int .u8 0,.int .u8 0] 219);have kb:=(Cl.new w #[.int .u64 p.a,.int .u32 p.ln,.int .u16 p.f,.int .u16 p.nx] 175).alloc (Obj.cells #[.int .u8 0,.int .u8 0,.int .u8 0,.int .u8 0,.int .u8 0,.int .u8 0,.int .u8 0,.int .u8 0,.int .u8 0,.int .u8 0,.int .u8 0,.int .u8 0,.int .u8 0,.int .u8 0,.int .u8 0,.int .u8 0] 219);have kz:Cl ((w.alloc (Obj.cells #[.int .u64 p.a,.int .u32 p.ln,.int .u16 p.f,.int .u16 p.nx] 175)).alloc (Obj.cells #[.int .u8 0,.int .u8 0,.int .u8 0,.int .u8 0,.int .u8 0,.int .u8 0,.int .u8 0,.int .u8 0,.int .u8 0,.int .u8 0,.int .u8 0,.int .u8 0,.int .u8 0,.int .u8 0,.int .u8 0,.int .u8 0] 219)) (w.heap.size+1) ([]++List.replicate 16 (.int .u8 0)):=by
    have:=Cl.new (w.alloc (Obj.cells #[.int .u64 p.a,.int .u32 p.ln,.int .u16 p.f,.int .u16 p.nx] 175)) #[.int .u8 0,.int .u8 0,.int .u8 0,.int .u8 0,.int .u8 0,.int .u8 0,.int .u8 0,.int .u8 0,.int .u8 0,.int .u8 0,.int .u8 0,.int .u8 0,.int .u8 0,.int .u8 0,.int .u8 0,.int .u8 0] 219;rw [zbp] at this;exact this
  have hne:w.heap.size≠w.heap.size+1:=by omega
  have e1:IntKind.wrap .u64 p.ln=p.ln:=wrap_u64 _ hp.ln.1 (by have:=hp.ln.2;omega);have e2:IntKind.wrap .u64 p.f=p.f:=wrap_u64 _ hp.f.1 (by have:=hp.f.2;omega);have e3:IntKind.wrap .u64 p.nx=p.nx:=wrap_u64 _ hp.nx.1 (by have:=hp.nx.2;omega);have q1:Calls prog 149 #[.pointer (some ⟨w.heap.size+1,0,none⟩),.int .i64 0,.int .i64 8,.int .u64 p.a] ((w.alloc (Obj.cells #[.int .u64 p.a,.int .u32 p.ln,.int .u16 p.f,.int .u16 p.nx] 175)).alloc (Obj.cells #[.int .u8 0,.int .u8 0,.int .u8 0,.int .u8 0,.int .u8 0,.int .u8 0,.int .u8 0,.int .u8 0,.int .u8 0,.int .u8 0,.int .u8 0,.int .u8 0,.int .u8 0,.int .u8 0,.int .u8 0,.int .u8 0] 219)) _:=zeV kz (by simp) (at0:=0) (n:=8) rfl p.a (by decide) (by decide);have c0:=kb.cell 0 _ rfl;go_enter func102,ntmps102;go_wp2_with (first
    | (have zz:=k4;fail)
    | (go_at_call 149;have zz:=k3;refine (zeV k3 (by simp [zbE]) (at0:=14) (n:=2) (by simp [zbE]) p.nx (by decide) (by decide)).mono ?_;rintro en w4 ⟨rfl,k4,m4⟩;have b4:=b3.kept (m4.block _ b3.lt hne))
    | (go_at_call 149;have zz:=k2;refine (zeV k2 (by simp [zbE]) (at0:=12) (n:=2) (by simp [zbE]) p.f (by decide) (by decide)).mono ?_;rintro en w3 ⟨rfl,k3,m3⟩;have b3:=b2.kept (m3.block _ b2.lt hne);have d3:=b3.cell 3 _ rfl)
    | (go_at_call 149;have zz:=k1;refine (zeV k1 (by simp [zbE]) (at0:=8) (n:=4) (by simp [zbE]) p.ln (by decide) (by decide)).mono ?_;rintro en w2 ⟨rfl,k2,m2⟩;have b2:=b1.kept (m2.block _ b1.lt hne);have d2:=b2.cell 2 _ rfl)
    | (go_at_call 149;refine q1.mono ?_;rintro en w1 ⟨rfl,k1,m1⟩;have b1:=kb.kept (m1.block _ kb.lt hne);have d1:=b1.cell 1 _ rfl)
    | go_in)
  go_ret;have hm:=(((m1.mono (S':=fun b=>w.heap.size≤b) fun b q=>by omega).trans (m2.mono fun b q=>by omega)).trans (m3.mono fun b q=>by omega)).trans (m4.mono fun b q=>by omega);refine ⟨w.heap.size+1,by omega,rfl,?_,?_⟩
  · simpa [Pt.bytes,zaq] using k4
  · exact hbz.trans ⟨hm.os,hm.tape,hm.output,hm.size,fun b hb=>hm.block b (Nat.lt_of_lt_of_le hb hbz.size) (by omega)⟩
def Tryz.Pt.dcells (p:Pt):List Value:= [.int .u64 p.a,.int .u32 p.ln,.int .u16 p.f,.int .u16 p.nx]
def Tryz.zcs (ps:List Pt):List Value:=ps.flatMap Pt.dcells
theorem Tryz.zkV: ∀(ps:List Pt) (k j:Nat) (hk:k<ps.length),j<4→(zcs ps)[k*4+j]? =(ps[k]'(hk)).dcells[j]?
 | p::r,0,j,_,hj=>by
  have e1:zcs (p::r)=p.dcells++zcs r:=rfl;rw [e1,List.getElem?_append_left (by simpa [Pt.dcells] using hj),Nat.zero_mul,Nat.zero_add];rfl
 | p::r,k+1,j,hk,hj=>by
  have e1:zcs (p::r)=p.dcells++zcs r:=rfl;have e2:p.dcells.length=4:=rfl;rw [e1,List.getElem?_append_right (by rw [e2];omega),e2,show (k+1)*4+j-4=k*4+j by omega];exact zkV r k j (by simpa using hk) hj
theorem Tryz.zo0 (ps:List Pt):(zcs ps).length=ps.length*4:=by
 induction ps with
 | nil=>rfl
 | cons p r ih=>
  unfold zcs at ih ⊢;rw [List.flatMap_cons,List.length_append,ih,List.length_cons];simp [Pt.dcells];omega
theorem Tryz.zre {ps:List Pt} {q:Nat} (h:q<ps.length):(ps.take (q+1)).flatMap Pt.bytes=(ps.take q).flatMap Pt.bytes++(ps[q]'(h)).bytes:=by
 rw [List.take_add_one,List.getElem?_eq_getElem h,List.flatMap_append];simp
set_option maxRecDepth 100000 in
theorem Tryz.zoZ {w:World} {G c:Nat} {ps:List Pt} (hr:w.rangeAt G 0 (zcs ps)) (hok: ∀p∈ps,p.ok) (hl:ps.length≤64) (hG:G<w.heap.size):
    Calls prog 146 #[.slice (some ⟨G,0,none⟩) ps.length c] w fun e w'=>(∃u,e= .returned u∧OwnR 5 1 w' w.heap.size u (ps.flatMap Pt.bytes).length (zaq (ps.flatMap Pt.bytes)))∧Below w.heap.size w w':=by
  obtain ⟨i,hi,i1,i2,i3⟩:=info_parts zwX;replace hok:HidP (∀p∈ps,p.ok):=⟨hok⟩;replace hr:HidP (w.rangeAt G 0 (zcs ps)):=⟨hr⟩;go_enter func146,ntmps146;go_wp2_with fail;go_loopw [2,7] (fun c k wr=> ∃(q:Nat) (cv:Value),cv=c∧q≤ps.length∧k= .int .i64 q∧OwnR 5 1 wr w.heap.size cv ((ps.take q).flatMap Pt.bytes).length (zaq ((ps.take q).flatMap Pt.bytes))∧Below w.heap.size w wr) (fun _ k _=>ps.length-(RowKit.intOf k).toNat)
  case atStart=>exact ⟨0,_,rfl,Nat.zero_le _,rfl,by simpa [zaq] using OwnR.nil 5 1 _ _,Below.refl _ _⟩
  case round=>
    obtain ⟨q,cv,hcv,hq,rfl,ho,hb⟩:=hrel;subst hcv;by_cases hqn:q<ps.length
    · have hqn':(q:Int)<ps.length:=by omega
      have htk:=zre hqn;have hpok:=hok.out _ (List.getElem_mem hqn);have hcell: ∀j y,(ps[q]'(hqn)).dcells[j]? =some y→wr.cell? ⟨G,q*4+j,none⟩=some y:=fun j y hy=>by
        have hj:j<4:=(List.getElem?_eq_some_iff.1 hy).1;have h0:=hr.out (q*4+j) y (by rw [zkV ps q j hqn hj];exact hy);rw [Nat.zero_add] at h0;exact (hb.cell (p:=⟨G,q*4+j,none⟩) hG).trans h0
      have hol:=OwnR.lt ho;have hlen:((ps.take q).flatMap Pt.bytes).length≤1024:=by rw [zin,List.length_take];omega
      generalize ps[q]'(hqn)=p at hcell hpok htk;have s0:=hcell 0 _ rfl;have s1:=hcell 1 _ rfl;have s2:=hcell 2 _ rfl;have s3:=hcell 3 _ rfl;rw [Nat.add_zero] at s0;have hbz:=(Below.refl wr.heap.size wr).alloc (Nat.le_refl _) (Obj.cells #[.int .u64 p.a,.int .u32 p.ln,.int .u16 p.f,.int .u16 p.nx] 175);have hpb:=fun w'=>zfB p hpok w';replace htk:HidP _:=⟨htk⟩;clear hcell hpok hqn;go_wp2_with (first
        | (go_at_call 102;refine (hpb _).mono ?_;rintro en w3 ⟨X,hX,rfl,hXc,hb3⟩;have hb4:Below wr.heap.size wr w3:=hbz.trans (hb3.mono (by simp));have ho3:=OwnR.kept ho (w':=w3) fun b e=>hb4.block b (hol b e).2;have hnews: ∀j u,(zaq p.bytes)[j]? =some u→w3.cell? ((⟨X,0,none⟩:Addr).add j)=some u:=fun j u hu=>by
             rw [Dw.addr_add];exact hXc.cell (0+j) u (by rw [Nat.zero_add];exact hu)
           have hbs:=hb.size;have hb4s:=hb4.size)
        | (at_builtin;go_loud (refine wpList_append_own_at _ rfl _ _ 85 rfl w.heap.size 5 i _ 1 1 (by kernel_rfl) hi i1 i2 i3 rfl (by decide) cv _ (zaq ((ps.take q).flatMap Pt.bytes)) rfl ho3 ⟨X,0,none⟩ 16 16 (zaq p.bytes) rfl (by rw [zaq,List.length_map,Pt.bytes_len]) hnews (by intro y hy;obtain ⟨x,_,rfl⟩:=List.mem_map.1 hy;rfl) (by unfold maxLen;omega) (by omega) (by omega) ?_);intro u w' h2 h3 h4 h5;go_frame)
        | go_in)
      refine ⟨⟨q+1,u,rfl,by omega,by push_cast;rfl,?_,?_⟩,by simp only [RowKit.intOf];omega⟩
      · rw [htk.out,List.length_append,Pt.bytes_len,show zaq ((ps.take q).flatMap Pt.bytes++p.bytes)=zaq ((ps.take q).flatMap Pt.bytes)++zaq p.bytes from List.map_append];exact h2
      · have hbw:=hb.trans (hb4.mono hbs);exact ⟨h3.os.trans hbw.os,h3.tape.trans hbw.tape,h3.output.trans hbw.output,Nat.le_trans hbw.size h3.size,fun y hy=>(h3.block y (Nat.lt_of_lt_of_le hy hbw.size) (fun e=>by have:=(hol y e.symm).1;omega)).trans (hbw.block y hy)⟩
    · have hqq:q=ps.length:=by omega
      subst hqq;go_wp2;go_ret;rw [List.take_length] at ho;exact ⟨⟨_,rfl,ho⟩,hb⟩
set_option maxRecDepth 100000 in
theorem Tryz.zh8 {v:Int} (h:0≤v∧v<18446744073709551616) (w:World):
  Calls prog 152 #[.int .u64 v] w fun e w'=>e= .returned (.agg #[.int .u32 (v%4294967296),.int .u32 (v/4294967296)])∧Below w.heap.size w w':=by
 have e3:IntKind.wrap .u32 v=v%4294967296:=by unfold IntKind.wrap;simp [IntKind.signed,IntKind.bits]
 have e4:IntKind.wrap .u32 (v/4294967296)=v/4294967296:=by unfold IntKind.wrap;simp [IntKind.signed,IntKind.bits];omega
 have e5:v/4294967296%4294967296=v/4294967296:=Int.emod_eq_of_lt (by omega) (by omega);have hA:=(Below.refl w.heap.size w).alloc (Nat.le_refl _);go_enter func152,ntmps152;go_wp2;have kc:=Cl.new w #[.int .u32 (v%4294967296),.int .u32 (v/4294967296)] 67;refine bodyPost_ret (zhV rfl _ _ w.heap.size [.int .u32 (v%4294967296),.int .u32 (v/4294967296)] _ rfl (fun j y hy=>by rw [Nat.zero_add];exact kc.cell j y hy) underlying67 rfl (by kernel_rfl)) rfl ?_;exact ⟨rfl,hA _⟩
theorem Tryz.zl6 {w:World} {R X:Nat} (hX:Cl w X [.bool false]) (hr:w.rangeAt R 0 [(FnE.mk false X).val]) (hR:R<w.heap.size):
  Calls prog 139 #[.slice (some ⟨R,0,none⟩) 1 1] w fun e w'=>e= .returned (.int .i64 0)∧Below w.heap.size w w':=
 ze8 (w:=w) (c:=1) [⟨false,X⟩] [0] rfl hr (by show 1≤64;decide) hR fun k hk w' hb=>by
  have hk0:k=0:=by simp at hk;omega
  subst hk0;exact zlh ((hX.below hb hX.lt).cell 0 _ rfl)
theorem Tryz.zrg {w:World} {R X Y:Nat} {A:Nat→Prop} {v:Value} {l:List Sg} (hY:Cl w Y [v]) (hv:SegV A w v l) (he:za7 l=0) (hX:Cl w X [.bool false]) (hr:w.rangeAt R 0 [(FnE.mk true Y).val,(FnE.mk false X).val]) (hR:R<w.heap.size):
  Calls prog 139 #[.slice (some ⟨R,0,none⟩) 2 2] w fun e w'=>e= .returned (.int .i64 0)∧Below w.heap.size w w':=by
 have:=ze8 (w:=w) (c:=2) [⟨true,Y⟩,⟨false,X⟩] [za7 l,0] rfl hr (by show 2≤64;decide) hR fun k hk w' hb=>by
  have hk0:k=0∨k=1:=by simp at hk;omega
  rcases hk0 with rfl|rfl
  ·exact zeD (hY.below hb hY.lt) (hv.below hb)
  ·exact zlh ((hX.below hb hX.lt).cell 0 _ rfl)
 have e0:zca [za7 l,0]=0:=by rw [he];rfl
 rw [e0] at this;exact this
set_option maxRecDepth 100000 in
theorem Tryz.zta {m:Int} (hm:1≤m∧m≤64) (w:World):Calls prog 148 #[.int .i64 m] w fun e w'=>e= .returned (.bool true)∧w'=w:=by
 obtain ⟨h1,h2⟩:=hm;go_enter func148,ntmps148;go_wp2;go_ret;exact ⟨by simp [h1,h2],rfl⟩
def Tryz.segF (wr more:Bool):Int:=(if wr then 2 else 0)+if more then 1 else 0
set_option maxRecDepth 100000 in
theorem Tryz.zjI {nx a ln:Int} {wr more:Bool} (w:World):
  Calls prog 202 #[.agg #[.int .u64 0,.int .u32 0,.int .u16 0,.int .u16 0,.int .i64 nx],.agg #[.int .u64 a,.int .u32 ln,.bool wr],.bool more] w fun e w'=>e= .returned (.iface 214 (.agg #[.int .u64 a,.int .u32 ln,.int .u16 (segF wr more),.int .u16 (if more then nx%65536 else 0),.int .i64 nx]))∧Below w.heap.size w w':=by
 have e3:=zer nx;cases wr<;>cases more
 all_goals
  unfold segF;simp only [if_true,if_false,Bool.false_eq_true,Int.add_zero,Int.zero_add];go_enter func202,ntmps202;go_wp2_with fail;go_ret;exact ⟨rfl,((Below.refl w.heap.size w).alloc (Nat.le_refl _) _).alloc (by simp) _⟩
set_option maxRecDepth 100000 in
theorem Tryz.zom {w:World} {X G o c k:Nat} {ids:List Int} (h:Cl w X [.slice (some ⟨G,o,none⟩) ids.length c]) (hG:w.rangeAt G o (zac ids)) (hk:k<ids.length) (hl:ids.length≤16):
  Calls prog 144 #[.int .i64 k,.pointer (some ⟨X,0,none⟩)] w fun e w'=>e= .returned (.agg #[.int .u64 0,.int .u32 0,.int .u16 0,.int .u16 0,.int .i64 (ids.getD (k+1) 0)])∧Below w.heap.size w w':=by
 have hb1:=(Below.refl w.heap.size w).alloc (Nat.le_refl _) (Obj.cells #[.int .u64 0,.int .u32 0,.int .u16 0,.int .u16 0,.int .i64 0] 214);have k1:=Cl.new w #[.int .u64 0,.int .u32 0,.int .u16 0,.int .u16 0,.int .i64 0] 214;have hX:=h.below hb1 h.lt;have x0:=hX.cell 0 _ rfl;have z0:=k1.cell 0 _ rfl;have f0:=k1.free 0;have z1:=k1.cell 1 _ rfl;have f1:=k1.free 1;have z2:=k1.cell 2 _ rfl;have f2:=k1.free 2;have z3:=k1.cell 3 _ rfl;have f3:=k1.free 3;have z4:=k1.cell 4 _ rfl;have f4:=k1.free 4;have e1:IntKind.wrap .i64 ((k:Int)+1)=(k:Int)+1:=zaS (by omega) (by omega);by_cases hk1:k+1<ids.length
 ·have hk2:(k:Int)+1<ids.length:=by omega
  have e2:((k:Int)+1).toNat=k+1:=by omega
  have e3:0≤(k:Int)+1:=by omega
  have hg:=hG (k+1) (.int .i64 ids[k+1]) (by simp [zac,hk1]);have hGl:G<w.heap.size:=World.block_lt_of_cell? w _ hg;have hgx:=(hb1.cell (p:=⟨G,o+(k+1),none⟩) hGl).trans hg;rw [show ids.getD (k+1) 0=ids[k+1] by simp [List.getD_eq_getElem?_getD,hk1]];generalize ids[k+1]=y at hgx;clear hg hG hk hl hk1;go_enter func144,ntmps144;go_wp2_with fail;refine bodyPost_ret (zhV rfl _ _ w.heap.size [.int .u64 0,.int .u32 0,.int .u16 0,.int .u16 0,.int .i64 y] _ rfl (zbn (Cl.new w #[.int .u64 0,.int .u32 0,.int .u16 0,.int .u16 0,.int .i64 y] 214)) underlying214 rfl (by kernel_rfl)) rfl ?_;exact ⟨rfl,(Below.refl w.heap.size w).alloc (Nat.le_refl _) _⟩
 ·have hk2: ¬(k:Int)+1<ids.length:=by omega
  rw [show ids.getD (k+1) 0=0 by rw [List.getD_eq_getElem?_getD,List.getElem?_eq_none (by omega)];rfl];clear hG hk hl hk1;go_enter func144,ntmps144;go_wp2_with fail;refine bodyPost_ret (zhV rfl _ _ w.heap.size [.int .u64 0,.int .u32 0,.int .u16 0,.int .u16 0,.int .i64 0] _ rfl (zbn (Cl.new w #[.int .u64 0,.int .u32 0,.int .u16 0,.int .u16 0,.int .i64 0] 214)) underlying214 rfl (by kernel_rfl)) rfl ?_;exact ⟨rfl,(Below.refl w.heap.size w).alloc (Nat.le_refl _) _⟩
set_option maxRecDepth 100000 in
theorem Tryz.zpF {w:World} {k:Nat} (hk:k≤64):
  Calls prog 145 #[.int .i64 k] w fun e w'=>e= .returned (.agg #[.int .u64 0,.int .u32 0,.int .u16 0,.int .u16 0,.int .i64 ((k:Int)+1)])∧Below w.heap.size w w':=by
 have e1:IntKind.wrap .i64 ((k:Int)+1)=(k:Int)+1:=zaS (by omega) (by omega);clear hk;go_enter func145,ntmps145;go_wp2_with fail;refine bodyPost_ret (zhV rfl _ _ w.heap.size [.int .u64 0,.int .u32 0,.int .u16 0,.int .u16 0,.int .i64 ((k:Int)+1)] _ rfl (zbn (Cl.new w #[.int .u64 0,.int .u32 0,.int .u16 0,.int .u16 0,.int .i64 ((k:Int)+1)] 214)) underlying214 rfl (by kernel_rfl)) rfl ?_;exact ⟨rfl,(Below.refl w.heap.size w).alloc (Nat.le_refl _) _⟩
set_option maxRecDepth 100000 in
theorem Tryz.zt5:(prog.info? 214).map (fun i=>(i.zero,i.size,i.bytes))=some (some (.agg #[.int .u64 0,.int .u32 0,.int .u16 0,.int .u16 0,.int .i64 0]),5,24):=by kernel_rfl
def Tryz.zcc (nx:Nat→Int) (l:List Sg) (k:Nat):List Value:=
 [.int .u64 (l.getD k ⟨0,0,false⟩).at1,.int .u32 (l.getD k ⟨0,0,false⟩).len,.int .u16 (segF (l.getD k ⟨0,0,false⟩).wr (decide (k+1<l.length))),.int .u16 (if decide (k+1<l.length) then nx k%65536 else 0),.int .i64 (nx k)]
def Tryz.zbP (nx:Nat→Int) (l:List Sg) (k:Nat):List Value:=(List.range k).flatMap (zcc nx l)
theorem Tryz.zcw (nx:Nat→Int) (l:List Sg) (k:Nat):zbP nx l (k+1)=zbP nx l k++zcc nx l k:=by simp [zbP,List.range_succ]
theorem Tryz.zcm (nx:Nat→Int) (l:List Sg) (k:Nat):(zbP nx l k).length=k*5:=by
 induction k with
 | zero=>rfl
 | succ k ih=>rw [zcw,List.length_append,ih];simp [zcc];omega
theorem Tryz.zhS (nx:Nat→Int) (l:List Sg) {n k j:Nat} (hk:k<n) (hj:j<5):(zbP nx l n)[k*5+j]? =(zcc nx l k)[j]? :=by
 induction n with
 | zero=>omega
 | succ n ih=>
  rw [zcw];by_cases h:k<n
  ·rw [List.getElem?_append_left (by rw [zcm];omega)];exact ih h
  ·have:k=n:=by omega
   subst this;rw [List.getElem?_append_right (by rw [zcm];omega),zcm,show k*5+j-k*5=j by omega]
set_option maxRecDepth 100000 in
theorem Tryz.zrC {A:Nat→Prop} {w:World} {v:Value} {l:List Sg} {X G o0 c2:Nat} {ids:List Int} (h:SegV A w v l) (hl:l.length≤16) (hps:ids.length=l.length) (h11:Cl w X [.slice (some ⟨G,o0,none⟩) ids.length c2]) (hG:w.rangeAt G o0 (zac ids)):
    Calls prog 143 #[v,.func (.func 144) #[] #[.pointer (some ⟨X,0,none⟩)]] w fun e w'=>(∃u t,e= .returned u∧OwnR t 5 w' w.heap.size u l.length (zbP (fun k=>ids.getD (k+1) 0) l l.length))∧Below w.heap.size w w':=by
  obtain ⟨nx,hnx⟩: ∃nx:Nat→Int,nx=fun k=>ids.getD (k+1) 0:=⟨_,rfl⟩;rw [←hnx];replace hnx:HidP _:=⟨hnx⟩;obtain ⟨sa,c,rfl,hok,hr⟩:=h;have hinfo:=zt5;obtain ⟨i0,hi,j1,j2,j3⟩:=info_parts hinfo;have hU:prog.underlying 211=some (.slice 214):=by kernel_rfl
  obtain ⟨w1,hmk,hown0,hgrow0⟩:=run_make_own (P:=prog) (w:=w) w.heap.size 211 214 i0 (.agg #[.int .u64 0,.int .u32 0,.int .u16 0,.int .u16 0,.int .i64 0]) 5 hU hi j1 j2 .i64 .i64 l.length (by rw [j3];omega) (by unfold maxLen;omega) (Nat.le_refl _);have hb1:Below w.heap.size w w1:=⟨hgrow0.os,hgrow0.tape,hgrow0.output,hgrow0.size,fun b hb=>hgrow0.block b hb (fun e=>by cases e)⟩;replace hok:HidP (∀x∈l,x.ok):=⟨hok⟩;replace hr:HidP (l= []∨ ∃R o,sa=some ⟨R,o,none⟩∧ ¬A R∧w.rangeAt R o (zam l)):=⟨hr⟩;replace hG:HidP _:=⟨hG⟩;replace hps:HidP _:=⟨hps⟩;clear hgrow0 hinfo;have hmeth : ∀ (v : Value) (w : World), (method 367 214 v "dumbwaiter/build.made").run prog w = .ok (202, v) w := fun _ _ => by kernel_rfl
  have hasrt: ∀(v:Value) (w:World),(Instr.typeAssert (.iface 214 v) 239 214 false).run prog w= .ok v w:=fun _ _=>by kernel_rfl
  go_enter func143,ntmps143;go_wp2_with fail;clear hmk;go_loopw [5,13] (fun cv x wr=> ∃(q:Nat) (t:TypeId),q≤l.length∧x= .int .i64 q∧OwnR t 5 wr w.heap.size cv q (zbP nx l q)∧Below w.heap.size w wr) (fun _ x _=>l.length-(RowKit.intOf x).toNat)
  case atStart=>exact ⟨0,_,Nat.zero_le _,rfl,hown0,hb1⟩
  case round=>
    obtain ⟨q,ty,hq,rfl,ho,hb⟩:=hrel;by_cases hqn:q<l.length
    · have hqn':(q:Int)<l.length:=by omega
      obtain ⟨R,o,rfl,hA,hrg⟩:=hr.out.resolve_left (by intro e;rw [e] at hqn;exact absurd hqn (by simp));have hsg:=zae (zcV hrg q hqn) (hb.block R (zgK hrg (by intro e;rw [e] at hqn;exact absurd hqn (by simp))));have hcell:zcc nx l q= [.int .u64 l[q].at1,.int .u32 l[q].len,.int .u16 (segF l[q].wr (decide (q+1<l.length))),.int .u16 (if decide (q+1<l.length) then nx q%65536 else 0),.int .i64 (nx q)]:=by
        unfold zcc;rw [show l.getD q ⟨0,0,false⟩=l[q] from by simp [List.getD_eq_getElem?_getD,hqn]]
      have hsucc:=zcw nx l q;rw [hcell] at hsucc;clear hcell;generalize l[q]'(hqn)=s at hsg hsucc;obtain ⟨sat,sln,swr⟩:=s;have hmore:decide (q+1<l.length)=decide ((q:Int)+1<l.length):=decide_eq_decide.2 (by omega);rw [hmore] at hsucc;have hw1:IntKind.wrap .i64 ((q:Int)+1)=(q:Int)+1:=zaS (by omega) (by omega);rw [Nat.mul_comm 3 q] at hsg;have s0:=hsg 0 _ rfl;have s1:=hsg 1 _ rfl;have s2:=hsg 2 _ rfl;rw [Nat.add_zero] at s0;have hbz:=(Below.refl wr.heap.size wr).alloc (Nat.le_refl _) (Obj.cells #[.int .u64 sat,.int .u32 sln,.bool swr] 136);have hbzd:=hbz.drew;have kz:=(Cl.new wr #[.int .u64 sat,.int .u32 sln,.bool swr] 136);have kzd:=kz.kept (w':=(wr.alloc (Obj.cells #[.int .u64 sat,.int .u32 sln,.bool swr] 136)).drew) rfl;have hqp:q<ids.length:=by rw [hps.out];exact hqn
      have hGl:G<w.heap.size:=zaz hG.out (by intro e;have:=congrArg List.length e;rw [zac,List.length_map] at this;simp only [List.length_nil] at this;omega);have hG11:=((h11.below hb h11.lt).below hbzd (h11.below hb h11.lt).lt);have hc1:=zom hG11 (zae (zae hG.out (hb.block G hGl)) (hbzd.block G (Nat.lt_of_lt_of_le hGl hb.size))) hqp (by rw [hps.out];exact hl);rw [show ids.getD (q+1) 0=nx q from by rw [hnx.out]] at hc1;generalize nx q=nxq at hc1 hsucc;have hc2:=fun w'=>zjI (nx:=nxq) (a:=sat) (ln:=sln) (wr:=swr) (more:=decide ((q:Int)+1<l.length)) w';have ho2:=OwnR.kept ho (w':=(wr.alloc (Obj.cells #[.int .u64 sat,.int .u32 sln,.bool swr] 136)).drew) fun b e=>hbzd.block b (OwnR.lt ho b e).2;have z0:=kz.cell 0 _ rfl;have z1:=kz.cell 1 _ rfl;have z2:=kz.cell 2 _ rfl;have y0:=kzd.cell 0 _ rfl;have y1:=kzd.cell 1 _ rfl;have y2:=kzd.cell 2 _ rfl;obtain ⟨su,cu,hcv,_⟩:=OwnR.row ho;subst hcv;generalize segF swr (decide ((q:Int)+1<l.length))=fl at hc2 hsucc;generalize hnn:(if decide ((q:Int)+1<l.length)=true then nxq%65536 else 0)=nn at hc2 hsucc;clear hnn hrg hmore hok hr hG hps;go_wp2_with fail;go_region_held3 (fun w'=>w'.cell? ⟨wr.heap.size,0,none⟩=some (.int .u64 sat)∧w'.cell? ⟨wr.heap.size,1,none⟩=some (.int .u32 sln)∧w'.cell? ⟨wr.heap.size,2,none⟩=some (.bool swr)) (go_keep)
        ((first
          | (go_at_call 144;refine (hc1).mono ?_;rintro en w3 ⟨rfl,hb3⟩;have kz3:=kzd.below hb3 kzd.lt;have v0:=kz3.cell 0 _ rfl;have v1:=kz3.cell 1 _ rfl;have v2:=kz3.cell 2 _ rfl)
          | (go_at_call 202;refine (hc2 _).mono ?_;rintro en w4 ⟨rfl,hb4⟩;have kz4:=kz3.below hb4 kz3.lt;have u0:=kz4.cell 0 _ rfl;have u1:=kz4.cell 1 _ rfl;have u2:=kz4.cell 2 _ rfl;have hb34:=hb3.trans (hb4.mono hb3.size);have ho4:=OwnR.kept ho2 (w':=w4) fun b e=>hb34.block b (OwnR.lt ho2 b e).2;have hbA:=(Below.refl w4.heap.size w4).alloc (Nat.le_refl _) (Obj.cells #[.int .u64 sat,.int .u32 sln,.int .u16 fl,.int .u16 nn,.int .i64 nxq] 214);have ho5:=OwnR.kept ho4 (w':=w4.alloc (Obj.cells #[.int .u64 sat,.int .u32 sln,.int .u16 fl,.int .u16 nn,.int .i64 nxq] 214)) fun b e=>hbA.block b (OwnR.lt ho4 b e).2;have kn5:=Cl.new w4 #[.int .u64 sat,.int .u32 sln,.int .u16 fl,.int .u16 nn,.int .i64 nxq] 214;have kz5:=kz4.below hbA kz4.lt;have t0:=kz5.cell 0 _ rfl;have t1:=kz5.cell 1 _ rfl;have t2:=kz5.cell 2 _ rfl;have hbase:w.heap.size≤(w4.alloc (Obj.cells #[.int .u64 sat,.int .u32 sln,.int .u16 fl,.int .u16 nn,.int .i64 nxq] 214)).heap.size:=Nat.le_trans hb.size (Nat.le_trans hbzd.size (Nat.le_trans hb34.size hbA.size)))
          | (refine zeK (P0:=prog) (by rfl) _ _ _ (by rfl) w.heap.size 214 ty i0 _ 5 24 hU hi j1 j2 j3 rfl (by decide) (.slice su q cu) q (zbP nx l q) (by rfl) ho5 (some ⟨w4.heap.size,0,none⟩) ⟨w4.heap.size,0,none⟩ rfl 1 1 [.int .u64 sat,.int .u32 sln,.int .u16 fl,.int .u16 nn,.int .i64 nxq] (by rfl) rfl
               (fun j u hu=>by rw [Dw.addr_add];exact kn5.cell (0+j) u (by rw [Nat.zero_add];exact hu)) (fun u hu=>by simp only [List.mem_cons,List.not_mem_nil,or_false] at hu;rcases hu with rfl|rfl|rfl|rfl|rfl<;>rfl) (by unfold maxLen;omega) (by omega) hbase ?_
             intro v6 w6 t6 hown6 hgrow6 hat6;have kz6:=kz5.kept (w':=w6) (hgrow6.block _ kz5.lt (fun e=>by have:=(OwnR.lt ho _ e.symm).2;omega));have r0:=kz6.cell 0 _ rfl;have r1:=kz6.cell 1 _ rfl;have r2:=kz6.cell 2 _ rfl)))
      all_goals
        go_wp2_with fail;refine ⟨⟨q+1,t6,by omega,by push_cast;rfl,by rw [hsucc];exact hown6,?_⟩,by simp only [RowKit.intOf];omega⟩;have hbw:=(((hb.trans (hbzd.mono hb.size)).trans (hb34.mono (Nat.le_trans hb.size hbzd.size))).trans (hbA.mono (Nat.le_trans hb.size (Nat.le_trans hbzd.size hb34.size))));exact ⟨hgrow6.os.trans hbw.os,hgrow6.tape.trans hbw.tape,hgrow6.output.trans hbw.output,Nat.le_trans hbw.size hgrow6.size,fun b hh=>(hgrow6.block b (Nat.lt_of_lt_of_le hh hbw.size) (fun e=>by have:=(OwnR.lt ho b e.symm).1;omega)).trans (hbw.block b hh)⟩
    · have hqq:q=l.length:=by omega
      subst hqq;go_wp2;go_ret;exact ⟨⟨_,ty,rfl,ho⟩,hb⟩
set_option maxRecDepth 100000 in
theorem Tryz.zrB {A:Nat→Prop} {w:World} {v:Value} {l:List Sg} (h:SegV A w v l) (hl:l.length≤64):
    Calls prog 143 #[v,.func (.func 145) #[] #[]] w fun e w'=>(∃u t,e= .returned u∧OwnR t 5 w' w.heap.size u l.length (zbP (fun (k:Nat)=>(k:Int)+1) l l.length))∧Below w.heap.size w w':=by
  obtain ⟨nx,hnx⟩: ∃nx:Nat→Int,nx=fun (k:Nat)=>(k:Int)+1:=⟨_,rfl⟩;rw [←hnx];replace hnx:HidP _:=⟨hnx⟩;obtain ⟨sa,c,rfl,hok,hr⟩:=h;have hinfo:=zt5;obtain ⟨i0,hi,j1,j2,j3⟩:=info_parts hinfo;have hU:prog.underlying 211=some (.slice 214):=by kernel_rfl
  obtain ⟨w1,hmk,hown0,hgrow0⟩:=run_make_own (P:=prog) (w:=w) w.heap.size 211 214 i0 (.agg #[.int .u64 0,.int .u32 0,.int .u16 0,.int .u16 0,.int .i64 0]) 5 hU hi j1 j2 .i64 .i64 l.length (by rw [j3];omega) (by unfold maxLen;omega) (Nat.le_refl _);have hb1:Below w.heap.size w w1:=⟨hgrow0.os,hgrow0.tape,hgrow0.output,hgrow0.size,fun b hb=>hgrow0.block b hb (fun e=>by cases e)⟩;replace hok:HidP (∀x∈l,x.ok):=⟨hok⟩;replace hr:HidP (l= []∨ ∃R o,sa=some ⟨R,o,none⟩∧ ¬A R∧w.rangeAt R o (zam l)):=⟨hr⟩;clear hgrow0 hinfo;have hmeth : ∀ (v : Value) (w : World), (method 367 214 v "dumbwaiter/build.made").run prog w = .ok (202, v) w := fun _ _ => by kernel_rfl
  have hasrt: ∀(v:Value) (w:World),(Instr.typeAssert (.iface 214 v) 239 214 false).run prog w= .ok v w:=fun _ _=>by kernel_rfl
  go_enter func143,ntmps143;go_wp2_with fail;clear hmk;go_loopw [5,13] (fun cv x wr=> ∃(q:Nat) (t:TypeId),q≤l.length∧x= .int .i64 q∧OwnR t 5 wr w.heap.size cv q (zbP nx l q)∧Below w.heap.size w wr) (fun _ x _=>l.length-(RowKit.intOf x).toNat)
  case atStart=>exact ⟨0,_,Nat.zero_le _,rfl,hown0,hb1⟩
  case round=>
    obtain ⟨q,ty,hq,rfl,ho,hb⟩:=hrel;by_cases hqn:q<l.length
    · have hqn':(q:Int)<l.length:=by omega
      obtain ⟨R,o,rfl,hA,hrg⟩:=hr.out.resolve_left (by intro e;rw [e] at hqn;exact absurd hqn (by simp));have hsg:=zae (zcV hrg q hqn) (hb.block R (zgK hrg (by intro e;rw [e] at hqn;exact absurd hqn (by simp))));have hcell:zcc nx l q= [.int .u64 l[q].at1,.int .u32 l[q].len,.int .u16 (segF l[q].wr (decide (q+1<l.length))),.int .u16 (if decide (q+1<l.length) then nx q%65536 else 0),.int .i64 (nx q)]:=by
        unfold zcc;rw [show l.getD q ⟨0,0,false⟩=l[q] from by simp [List.getD_eq_getElem?_getD,hqn]]
      have hsucc:=zcw nx l q;rw [hcell] at hsucc;clear hcell;generalize l[q]'(hqn)=s at hsg hsucc;obtain ⟨sat,sln,swr⟩:=s;have hmore:decide (q+1<l.length)=decide ((q:Int)+1<l.length):=decide_eq_decide.2 (by omega);rw [hmore] at hsucc;have hw1:IntKind.wrap .i64 ((q:Int)+1)=(q:Int)+1:=zaS (by omega) (by omega);rw [Nat.mul_comm 3 q] at hsg;have s0:=hsg 0 _ rfl;have s1:=hsg 1 _ rfl;have s2:=hsg 2 _ rfl;rw [Nat.add_zero] at s0;have hbz:=(Below.refl wr.heap.size wr).alloc (Nat.le_refl _) (Obj.cells #[.int .u64 sat,.int .u32 sln,.bool swr] 136);have hbzd:=hbz.drew;have kz:=(Cl.new wr #[.int .u64 sat,.int .u32 sln,.bool swr] 136);have kzd:=kz.kept (w':=(wr.alloc (Obj.cells #[.int .u64 sat,.int .u32 sln,.bool swr] 136)).drew) rfl;have hc1:=fun w'=>zpF (w:=w') (k:=q) (by omega);rw [show (q:Int)+1=nx q from by rw [hnx.out]] at hc1;generalize nx q=nxq at hc1 hsucc;have hc2:=fun w'=>zjI (nx:=nxq) (a:=sat) (ln:=sln) (wr:=swr) (more:=decide ((q:Int)+1<l.length)) w';have ho2:=OwnR.kept ho (w':=(wr.alloc (Obj.cells #[.int .u64 sat,.int .u32 sln,.bool swr] 136)).drew) fun b e=>hbzd.block b (OwnR.lt ho b e).2;have z0:=kz.cell 0 _ rfl;have z1:=kz.cell 1 _ rfl;have z2:=kz.cell 2 _ rfl;have y0:=kzd.cell 0 _ rfl;have y1:=kzd.cell 1 _ rfl;have y2:=kzd.cell 2 _ rfl;obtain ⟨su,cu,hcv,_⟩:=OwnR.row ho;subst hcv;generalize segF swr (decide ((q:Int)+1<l.length))=fl at hc2 hsucc;generalize hnn:(if decide ((q:Int)+1<l.length)=true then nxq%65536 else 0)=nn at hc2 hsucc;clear hnn hrg hmore hok hr;go_wp2_with fail;go_region_held3 (fun w'=>w'.cell? ⟨wr.heap.size,0,none⟩=some (.int .u64 sat)∧w'.cell? ⟨wr.heap.size,1,none⟩=some (.int .u32 sln)∧w'.cell? ⟨wr.heap.size,2,none⟩=some (.bool swr)) (go_keep)
        ((first
          | (go_at_call 145;refine ((hc1 _)).mono ?_;rintro en w3 ⟨rfl,hb3⟩;have kz3:=kzd.below hb3 kzd.lt;have v0:=kz3.cell 0 _ rfl;have v1:=kz3.cell 1 _ rfl;have v2:=kz3.cell 2 _ rfl)
          | (go_at_call 202;refine (hc2 _).mono ?_;rintro en w4 ⟨rfl,hb4⟩;have kz4:=kz3.below hb4 kz3.lt;have u0:=kz4.cell 0 _ rfl;have u1:=kz4.cell 1 _ rfl;have u2:=kz4.cell 2 _ rfl;have hb34:=hb3.trans (hb4.mono hb3.size);have ho4:=OwnR.kept ho2 (w':=w4) fun b e=>hb34.block b (OwnR.lt ho2 b e).2;have hbA:=(Below.refl w4.heap.size w4).alloc (Nat.le_refl _) (Obj.cells #[.int .u64 sat,.int .u32 sln,.int .u16 fl,.int .u16 nn,.int .i64 nxq] 214);have ho5:=OwnR.kept ho4 (w':=w4.alloc (Obj.cells #[.int .u64 sat,.int .u32 sln,.int .u16 fl,.int .u16 nn,.int .i64 nxq] 214)) fun b e=>hbA.block b (OwnR.lt ho4 b e).2;have kn5:=Cl.new w4 #[.int .u64 sat,.int .u32 sln,.int .u16 fl,.int .u16 nn,.int .i64 nxq] 214;have kz5:=kz4.below hbA kz4.lt;have t0:=kz5.cell 0 _ rfl;have t1:=kz5.cell 1 _ rfl;have t2:=kz5.cell 2 _ rfl;have hbase:w.heap.size≤(w4.alloc (Obj.cells #[.int .u64 sat,.int .u32 sln,.int .u16 fl,.int .u16 nn,.int .i64 nxq] 214)).heap.size:=Nat.le_trans hb.size (Nat.le_trans hbzd.size (Nat.le_trans hb34.size hbA.size)))
          | (refine zeK (P0:=prog) (by rfl) _ _ _ (by rfl) w.heap.size 214 ty i0 _ 5 24 hU hi j1 j2 j3 rfl (by decide) (.slice su q cu) q (zbP nx l q) (by rfl) ho5 (some ⟨w4.heap.size,0,none⟩) ⟨w4.heap.size,0,none⟩ rfl 1 1 [.int .u64 sat,.int .u32 sln,.int .u16 fl,.int .u16 nn,.int .i64 nxq] (by rfl) rfl
               (fun j u hu=>by rw [Dw.addr_add];exact kn5.cell (0+j) u (by rw [Nat.zero_add];exact hu)) (fun u hu=>by simp only [List.mem_cons,List.not_mem_nil,or_false] at hu;rcases hu with rfl|rfl|rfl|rfl|rfl<;>rfl) (by unfold maxLen;omega) (by omega) hbase ?_
             intro v6 w6 t6 hown6 hgrow6 hat6;have kz6:=kz5.kept (w':=w6) (hgrow6.block _ kz5.lt (fun e=>by have:=(OwnR.lt ho _ e.symm).2;omega));have r0:=kz6.cell 0 _ rfl;have r1:=kz6.cell 1 _ rfl;have r2:=kz6.cell 2 _ rfl)))
      all_goals
        go_wp2_with fail;refine ⟨⟨q+1,t6,by omega,by push_cast;rfl,by rw [hsucc];exact hown6,?_⟩,by simp only [RowKit.intOf];omega⟩;have hbw:=(((hb.trans (hbzd.mono hb.size)).trans (hb34.mono (Nat.le_trans hb.size hbzd.size))).trans (hbA.mono (Nat.le_trans hb.size (Nat.le_trans hbzd.size hb34.size))));exact ⟨hgrow6.os.trans hbw.os,hgrow6.tape.trans hbw.tape,hgrow6.output.trans hbw.output,Nat.le_trans hbw.size hgrow6.size,fun b hh=>(hgrow6.block b (Nat.lt_of_lt_of_le hh hbw.size) (fun e=>by have:=(OwnR.lt ho b e.symm).1;omega)).trans (hbw.block b hh)⟩
    · have hqq:q=l.length:=by omega
      subst hqq;go_wp2;go_ret;exact ⟨⟨_,ty,rfl,ho⟩,hb⟩
def Tryz.zcT (w:World) (M:Nat) (arr:Array MapEntry) (clock:Nat):World:= { w with heap:=w.heap.setIfInBounds M (.map arr clock) }
theorem Tryz.zgI {w:World} {M:Nat} {o:Obj} {arr:Array MapEntry} {clock:Nat} (h:w.heap[M]? =some o):(zcT w M arr clock).heap[M]? =some (.map arr clock)∧Dw.Mv (· =M) w (zcT w M arr clock):=by
 have hM:M<w.heap.size:=(Array.getElem?_eq_some_iff.1 h).1;refine ⟨by simp [zcT,hM],⟨rfl,rfl,rfl,by simp [zcT],fun b hb hne=> ?_⟩⟩;have hne: ¬M=b:=fun q=>hne q.symm;simp [zcT,Array.getElem?_setIfInBounds,hne]
theorem Tryz.zp2 {t et:TypeId} {w:World} {M:Nat} {arr:Array MapEntry} {clock:Nat} (hu:prog.underlying t=some (.map 3 et)) (hb:w.heap[M]? =some (.map arr clock)) (hw:zb6 arr) (hbn:Born arr clock) {k:Int} (hno:zaU arr k=none) (v:Value):
  ∃ arr' clock',(Instr.mapUpdate t (.map (some M)) (.int .i64 k) v).run prog w= .ok () (zcT w M arr' clock')∧zb6 arr'∧Born arr' clock'∧ ∀n,zaU arr' n=if n=k then some v else zaU arr n:=by
 have hkt:=underlying3;rcases zbc (kk:= .i64) (n:=k) arr.toList 0 hw.keys with ⟨e1,e2⟩|⟨p,e,e1,e2,e3⟩
 ·obtain ⟨k1,k2⟩:=zli (v:=v) (c:=clock) hw e2;refine ⟨_,_,?_,k1,zhz hbn _ _,k2⟩;unfold Instr.mapUpdate;simp only [Sem.run_bind,run_underlying hu,Result.andThen_ok,Dw.run_getObj_map prog hb,run_checkKey hkt (.inl ⟨_,rfl⟩),run_findKey hkt e1];exact run_setObj_map prog hb rfl
 ·rw [zbv hw (List.mem_of_getElem? e2) e3] at hno;cases hno
theorem Tryz.zu8 {t et:TypeId} {w:World} {M:Nat} {arr:Array MapEntry} {clock:Nat} (hu:prog.underlying t=some (.map 3 et)) (hb:w.heap[M]? =some (.map arr clock)) (hw:zb6 arr) (hbn:Born arr clock) {k:Int} {v:Value} (hyes:zaU arr k=some v):
  ∃ arr' clock',(∀ty,(Builtin.delete_ #[t,3] ty #[.map (some M),.int .i64 k]).run prog w= .ok (.tuple #[]) (zcT w M arr' clock'))∧zb6 arr'∧Born arr' clock'∧ ∀n,zaU arr' n=if n=k then none else zaU arr n:=by
 have hkt:=underlying3;rcases zbc (kk:= .i64) (n:=k) arr.toList 0 hw.keys with ⟨e1,e2⟩|⟨p,e,e1,e2,e3⟩
 ·rw [zb1 e2] at hyes;cases hyes
 ·obtain ⟨k1,k2⟩:=zmO hw e2 e3;rw [Nat.zero_add] at e1;refine ⟨_,clock,fun ty=> ?_,k1,ziA hbn _,k2⟩;unfold Builtin.delete_;simp only [List.getElem?_toArray,List.getElem?_cons_zero,List.getElem?_cons_succ,Sem.run_bind,run_underlying hu,Result.andThen_ok,Dw.run_getObj_map prog hb,run_checkKey hkt (.inl ⟨_,rfl⟩),run_findKey hkt e1,run_setObj_map prog hb rfl,Sem.run_pure];rfl
theorem Tryz.zm3 {t et:TypeId} {w:World} {M:Nat} {arr:Array MapEntry} {clock:Nat} (hu:prog.underlying t=some (.map 3 et)) (hb:w.heap[M]? =some (.map arr clock)) (hw:zb6 arr) {z:Value} (hz:(zeroValue et).run prog w= .ok z w) (k:Int) (ok:Bool):
  (Instr.lookup t (.map (some M)) (.int .i64 k) ok).run prog w= .ok (match zaU arr k with|some v=>if ok then .tuple #[v,.bool true] else v|none=>if ok then .tuple #[z,.bool false] else z) w:=by
 have hkt:=underlying3;have hmi:zr0 w (.map (some M)) arr:= .inr ⟨M,clock,rfl,hb⟩;rcases zbc (kk:= .i64) (n:=k) arr.toList 0 hw.keys with ⟨e1,e2⟩|⟨p,e,e1,e2,e3⟩
 ·rw [zb1 e2];exact zdh hu hkt (.inl ⟨_,rfl⟩) hmi e1 hz
 ·rw [zbv hw (List.mem_of_getElem? e2) e3];exact zcI hu hkt (.inl ⟨_,rfl⟩) hmi e1
end Go.Proofs
end
