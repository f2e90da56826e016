/-
  Proved: laws on the way to 'PdriveHoldsProof' (texts VeA VeB VeC VeD VaU VaV VbB VbC VbD VbE VbF VbG VbH VbI VbJ VbK VbM VcE VaW VaX VcF VcG VcH VcI VcJ VeE VeF VeG0 VeG VaY VaZ VcA VcB VcC); no condition.
-/
import Derived.Test.YtkemikknnokdhaaGreatM7
import Derived.Sort.OwnSortedInts
set_option linter.unusedSimpArgs false
set_option linter.unusedVariables false
set_option maxHeartbeats 4000000
noncomputable section
namespace Go.Proofs
open Go.Dw Go.RowKit
theorem Tryz.zlV {n a:Int} {x:Bool} (ha:0≤a∧a<n): ∀k:Nat,(k:Int)≤n→posN n a x k=if a+k<n then (a+k,x) else (a+k-n,!x)
 | 0,_=>by
  rw [if_pos (by omega)];simp [posN]
 | k+1,h=>by
  unfold posN;rw [zlV ha k (by omega)];unfold zaH;by_cases h1:a+k<n
  ·rw [if_pos h1];by_cases h2:a+k+1<n
   ·rw [if_pos (by simp only;omega),if_pos (by omega)];simp only [Prod.mk.injEq,and_true];omega
   ·rw [if_neg (by simp only;omega),if_neg (by omega)];simp only [Prod.mk.injEq,and_true];omega
  ·rw [if_neg h1,if_pos (by simp only;omega),if_neg (by omega)];simp only [Prod.mk.injEq,and_true];omega
theorem Tryz.zt7 {n a:Int} {x:Bool} (ha:0≤a∧a<n) {k j:Nat} (hkj:k<j) (hj:(j:Int)<n):(posN n a x k).1≠(posN n a x j).1:=by
 rw [zlV ha k (by omega),zlV ha j (by omega)];split<;>split<;>simp only<;>omega
theorem Tryz.zf9: ∀(ps:List Pt) (i:Nat) (g:Nat→Int),1≤i→za1 i ps g=zkg 4096 ps g
 | [], _,_,_=>rfl
 | p::r,i,g,h=>by
  have e:zfg g i p=putL g (4096+16*p.at0).toNat p.bytes:=by
   unfold zfg;rw [if_neg (by omega)]
  show za1 (i+1) r (zfg g i p)=zkg 4096 r (putL g (4096+16*p.at0).toNat p.bytes);rw [e,zf9 r (i+1) _ (by omega)]
theorem Tryz.Pt.late (p:Pt) {i:Nat} (h:i<2):p.bytes.getD (14+i) 0=p.nx/2^(8*i)%256:=by
 have L8:=zaF p.a 8;have L4:=zaF p.ln 4;have L2:=zaF p.f 2;rw [←zb4 p.nx 2 i h];unfold Pt.bytes;rw [List.getD_eq_getElem?_getD,List.getD_eq_getElem?_getD,List.getElem?_append_right (by simp only [List.length_append];omega)];simp only [List.length_append,L8,L4,L2];rw [show 14+i-(8+4+2)=i by omega]
theorem Tryz.zql {g:Nat→Int} {p0:Pt} {ps:List Pt} (hnd:((p0::ps).map (·.at0)).Nodup) (h0: ∀p∈p0::ps,0≤p.at0):
  (∀ p∈p0::ps,PtAt (putW (za1 0 (p0::ps) g) (4096+16*p0.at0+14).toNat 2 p0.nx) (4096+16*p.at0).toNat p)∧ ∀j:Nat,(∀p∈p0::ps,(j:Int)<4096+16*p.at0∨4096+16*p.at0+16≤(j:Int))→putW (za1 0 (p0::ps) g) (4096+16*p0.at0+14).toNat 2 p0.nx j=g j:=by
 have hp0:=h0 p0 (List.mem_cons_self ..);rw [List.map_cons,List.nodup_cons] at hnd;have e1:za1 0 (p0::ps) g=zkg 4096 ps (putL g (4096+16*p0.at0).toNat (p0.bytes.take 14)):=zf9 ps 1 _ (Nat.le_refl _);rw [e1];obtain ⟨q1,q2⟩:=zpL (d:=4096) (by decide) (ps:=ps) (g:=putL g (4096+16*p0.at0).toNat (p0.bytes.take 14)) hnd.2 fun p hp=>h0 p (List.mem_cons_of_mem _ hp);have hne: ∀p∈ps,p.at0≠p0.at0:=fun p hp e=>hnd.1 (List.mem_map.2 ⟨p,hp,e⟩);generalize zkg 4096 ps (putL g (4096+16*p0.at0).toNat (p0.bytes.take 14))=g2 at q1 q2;have hL:(p0.bytes.take 14).length=14:=by rw [List.length_take,Pt.bytes_len];rfl
 refine ⟨fun p hp=>⟨fun i hi=> ?_⟩,fun j hj=> ?_⟩
 ·rcases List.mem_cons.1 hp with rfl|hp
  ·by_cases h14:i<14
   ·have e2:putW g2 (4096+16*p.at0+14).toNat 2 p.nx ((4096+16*p.at0).toNat+i)=g2 ((4096+16*p.at0).toNat+i):=by
     unfold putW;rw [if_neg (by omega)]
    rw [e2,q2 _ fun p' hp'=>by
     have h1:=hne p' hp';have h2:=h0 p' (List.mem_cons_of_mem _ hp');omega]
    rw [zcF,if_pos (by rw [hL];omega),Nat.add_sub_cancel_left,List.getD_eq_getElem?_getD,List.getElem?_take_of_lt h14,←List.getD_eq_getElem?_getD]
   ·have e2:putW g2 (4096+16*p.at0+14).toNat 2 p.nx ((4096+16*p.at0).toNat+i)=p.nx/2^(8*(i-14))%256:=by
     unfold putW;rw [if_pos (by omega),show (4096+16*p.at0).toNat+i-(4096+16*p.at0+14).toNat=i-14 by omega]
    rw [e2,←p.late (i:=i-14) (by omega),show 14+(i-14)=i by omega]
  ·have h1:=hne p hp;have h2:=h0 p (List.mem_cons_of_mem _ hp);rw [←(q1 p hp).w i hi];unfold putW;rw [if_neg (by omega)]
 ·have hj0:=hj p0 (List.mem_cons_self ..);have e2:putW g2 (4096+16*p0.at0+14).toNat 2 p0.nx j=g2 j:=by
   unfold putW;rw [if_neg (by omega)]
  rw [e2,q2 _ fun p hp=>hj p (List.mem_cons_of_mem _ hp),zcF,if_neg (by rw [hL];omega)]
theorem Tryz.ztb {g:Nat→Int} {a:Nat} {p:Pt} {s:Sg} (h:PtAt g a p) (hp:p.ok) (h1:p.a=s.at1) (h2:p.ln=s.len) (h3:(p.nx/2%2*2 !=0)=s.wr):pSeg g a=s:=by
 obtain ⟨w1,w2,w3,w4⟩:=h.words hp;unfold pSeg;rw [w1,w2,w4,h1,h2,h3]
theorem Tryz.zim {N:Nat} {g:Nat→Int} {n a id:Int} {x tb:Bool} {l:List Sg} (ha:0≤a∧a<n) (hln:(l.length:Int)≤n) (hn:n≤32768) (hid:0≤id∧id<n) (hok: ∀y∈l,y.ok)
    (hat: ∀k,k<l.length→PtAt g (4096+16*(posN n a x k).1).toNat (ppAt n id a x l k)): ∀(m f k:Nat) (idx:Int),k+m=l.length→1≤m→m≤f→
      zbB N g n tb f (posN n a x k).1 k (l.take k) idx=⟨id,l.length,l,0⟩
  | m,0,k,_,_,h1,h2=>by omega
  | m,f+1,k,idx,hkm,h1,h2=>by
    have hk:k<l.length:=by omega
    have lk:l.getD k ⟨0,0,false⟩=l[k]:=by simp [List.getD_eq_getElem?_getD,hk]
    have hxk:=hok l[k] (List.getElem_mem hk);have e3:(ppAt n id a x l k).nx=((if l[k].wr then 2 else 0)+(if k+1<l.length then 1 else 0))+if (posN n a x k).2 then 128 else 32768:=by
      simp only [ppAt,lk,zcj]
    have hp:(ppAt n id a x l k).ok:=by
      refine ⟨?_,?_,?_,?_⟩
      · simp only [ppAt,lk];exact ⟨hxk.1,hxk.2.1⟩
      · simp only [ppAt,lk];exact ⟨hxk.2.2.1,hxk.2.2.2⟩
      · show 0≤id∧id<65536;omega
      · rw [e3];repeat' split
        all_goals decide
    have hPt:=hat k hk;obtain ⟨w1,w2,w3,w4⟩:=hPt.words hp;have hsg:pSeg g (4096+16*(posN n a x k).1).toNat=l[k]:=by
      refine ztb hPt hp (by simp only [ppAt,lk]) (by simp only [ppAt,lk]) ?_;rw [e3];rcases l[k] with ⟨b,c,wr⟩;cases wr<;>by_cases hh:k+1<l.length<;>cases (posN n a x k).2<;>simp [hh]
    rw [e3] at w4;have w3:zac g ((4096+16*(posN n a x k).1).toNat+12) 2=id:=w3;unfold zbB;simp only [w3,w4,hsg];have tk:l.take k++ [l[k]]=l.take (k+1):=(List.take_succ_eq_append_getElem hk).symm;rw [if_neg (by (repeat' split);(all_goals decide)),tk]
    by_cases hlast:k+1<l.length
    · rw [if_neg (by rw [if_pos hlast];repeat' split
                     all_goals decide)]
      have hgo:(zaH n (posN n a x k).1 true 1).1=(posN n a x (k+1)).1:=by
        show (zaH n (posN n a x k).1 true 1).1=(zaH n (posN n a x k).1 (posN n a x k).2 1).1;exact zpS _ _ _ _ _
      rw [hgo];have:=zim ha hln hn hid hok hat (m-1) f (k+1) id (by omega) (by omega) (by omega) (tb:=tb) (N:=N);rw [show ((k+1:Nat):Int)=(k:Int)+1 by omega] at this;exact this
    · rw [if_pos (by rw [if_neg hlast];repeat' split
                     all_goals decide)]
      have hkl:k+1=l.length:=by omega
      rw [hkl,List.take_length];have:(k:Int)+1=l.length:=by omega
      rw [this]
theorem Tryz.zo6: ∀(l:List Sg) (k:Nat) (hk:k<l.length) (i:Nat),i<16→(zao l).getD (16*k+i) 0=(zcQ l[k]).bytes.getD i 0
 | s::r,0,_,i,hi=>by
  show ((zcQ s).bytes++zao r).getD (16*0+i) 0=_;rw [List.getD_eq_getElem?_getD,List.getElem?_append_left (by rw [Pt.bytes_len];omega),←List.getD_eq_getElem?_getD,show 16*0+i=i by omega];rfl
 | s::r,k+1,hk,i,hi=>by
  show ((zcQ s).bytes++zao r).getD (16*(k+1)+i) 0=_;rw [List.getD_eq_getElem?_getD,List.getElem?_append_right (by rw [Pt.bytes_len];omega),Pt.bytes_len,show 16*(k+1)+i-16=16*k+i by omega,←List.getD_eq_getElem?_getD,zo6 r k (by simpa using hk) i hi];rfl
theorem Tryz.zo5: ∀l:List Sg,(zao l).length=16*l.length
 | [] => rfl
 | s::r=>by
  show ((zcQ s).bytes++zao r).length=_;rw [List.length_append,Pt.bytes_len,zo5 r,List.length_cons];omega
theorem Tryz.zrw {g:Nat→Int} {a:Nat} {l:List Sg} (h: ∀j,j<16*l.length→g (a+j)=(zao l).getD j 0): ∀k (hk:k<l.length),PtAt g (a+16*k) (zcQ l[k]):=fun k hk=>⟨fun i hi=>by
 rw [Nat.add_assoc,h (16*k+i) (by omega),zo6 l k hk i hi]⟩
theorem Tryz.zrx {s:Sg} (h:s.ok):(zcQ s).ok:=⟨⟨h.1,h.2.1⟩,⟨h.2.2.1,h.2.2.2⟩,⟨by show (0:Int)≤0;decide,by show (0:Int)<_;decide⟩,by show 0≤(if s.wr then (2:Int) else 0)∧(if s.wr then (2:Int) else 0)<65536;split<;>decide⟩
theorem Tryz.ziu {g:Nat→Int}: ∀(l:List Sg) (a:Nat) (acc:List Sg),(∀s∈l,s.ok)→(∀k (hk:k<l.length),PtAt g (a+16*k) (zcQ l[k]))→zeK g a l.length acc=(acc++l,0)
 | [], a,acc,_,_=>by simp [zeK]
 | s::r,a,acc,hok,h=>by
  have h0:PtAt g a (zcQ s):=h 0 (by simp);have hp:=zrx (hok s (List.mem_cons_self ..));obtain ⟨w1,w2,w3,w4⟩:=h0.words hp;have w4:zac g (a+14) 2=if s.wr then 2 else 0:=w4
  have hs:pSeg g a=s:=ztb h0 hp rfl rfl (by
   show ((if s.wr then (2:Int) else 0)/2%2*2 !=0)=s.wr;cases s.wr<;>rfl)
  rw [List.length_cons];unfold zeK;rw [if_neg (by rw [w4];split<;>decide),hs,ziu r (a+16) (acc++ [s]) (fun y hy=>hok y (List.mem_cons_of_mem _ hy)) fun k hk=>by
   have:=h (k+1) (by simpa using hk);rw [show a+16*(k+1)=a+16+16*k by omega] at this;exact this]
  simp
theorem Tryz.ziP {f:Int} {x:Bool} (h:0≤f∧f<8):zhP (zcj f x) x=true:=by
 unfold zhP zcj;have h1:(f+128)/128%2=1:=by omega
 have h2: ¬(f+128)/32768%2=1:=by omega
 have h3: ¬(f+32768)/128%2=1:=by omega
 have h4:(f+32768)/32768%2=1:=by omega
 cases x<;>simp [h1,h2,h3,h4]
theorem Tryz.look_ok {N:Nat} {l:List Sg} (h:zbH N l=0) (hne:l≠ []):zgq N l=0:=by
 unfold zgq;rw [if_neg (by rintro (e|e);exact hne e;exact e (zbV h).2)];exact h
theorem Tryz.zom {N:Nat} {g:Nat→Int} {n a id:Int} {x tb:Bool} {l:List Sg} (ha:0≤a∧a<n) (hln:(l.length:Int)≤n) (hn:n≤32768) (hid:0≤id∧id<n) (hok: ∀y∈l,y.ok) (hne:l≠ []) (hin:zbH N l=0)
  (hat: ∀p∈ppTo n id a x l l.length,PtAt g (4096+16*p.at0).toNat p):zdS N g n a tb=⟨id,l.length,l,0⟩∧zhP (zac g (4096+16*a+14).toNat 2) x=true:=by
 have hlp:0<l.length:=List.length_pos_iff.2 hne;have hat2: ∀k,k<l.length→PtAt g (4096+16*(posN n a x k).1).toNat (ppAt n id a x l k):=fun k hk=>hat _ (List.mem_map.2 ⟨k,List.mem_range.2 hk,rfl⟩);have hR:=zim (N:=N) (tb:=tb) ha hln hn hid hok hat2 l.length n.toNat 0 0 (by omega) (by omega) (by omega);have e0:(posN n a x 0).1=a:=rfl;rw [e0,List.take_zero] at hR;have hR:zbB N g n tb n.toNat a 0 [] 0=⟨id,l.length,l,0⟩:=hR;refine ⟨?_,?_⟩
 ·unfold zdS;rw [hR];simp only [ne_eq,not_true_eq_false,if_false,look_ok hin hne];rw [if_neg (by omega)]
 ·have h0:=hat2 0 hlp;rw [e0] at h0;have hs:=hok _ (List.getElem_mem hlp);have l0:l.getD 0 ⟨0,0,false⟩=l[0]:=by simp [List.getD_eq_getElem?_getD,hlp]
  have e3:(ppAt n id a x l 0).nx=zcj ((if l[0].wr then 2 else 0)+(if 0+1<l.length then 1 else 0)) x:=by
   simp only [ppAt,l0,posN]
  have hb:0≤((if l[0].wr then (2:Int) else 0)+(if 0+1<l.length then 1 else 0))∧((if l[0].wr then (2:Int) else 0)+(if 0+1<l.length then 1 else 0))<8:=by
   repeat' split
   all_goals decide
  have hm:=zgF _ x hb;have hp:(ppAt n id a x l 0).ok:=⟨by simp only [ppAt,l0];exact ⟨hs.1,hs.2.1⟩,by simp only [ppAt,l0];exact ⟨hs.2.2.1,hs.2.2.2⟩,by show 0≤id∧id<65536;omega,by rw [e3];exact hm⟩;have w4:=(h0.words hp).2.2.2;rw [show (4096+16*a+14).toNat=(4096+16*a).toNat+14 by omega,w4,e3];exact ziP hb
theorem Tryz.zpA {N:Nat} {g:Nat→Int} {n a id ta:Int} {x:Bool} {l:List Sg} (ha:0≤a∧a<n) (hn:1≤n∧n≤32768) (hid:0≤id∧id<n) (hok: ∀y∈l,y.ok) (hne:l≠ []) (hin:zbH N l=0) (hta:0≤ta∧ta<18446744073709551616) (hfit:ta+16*l.length≤N)
  (hat:PtAt g (4096+16*a).toNat (zg5 id a ta l.length x)) (htb: ∀k (hk:k<l.length),PtAt g (ta.toNat+16*k) (zcQ l[k])):zdS N g n a true=⟨id,1,l,0⟩∧zhP (zac g (4096+16*a+14).toNat 2) x=true:=by
 have hlp:0<l.length:=List.length_pos_iff.2 hne;have h64:=(zbV hin).1;have hm:=zgF 4 x ⟨by decide,by decide⟩;have hp:(zg5 id a ta l.length x).ok:=⟨hta,⟨by show (0:Int)≤16*l.length;omega,by show 16*(l.length:Int)<_;omega⟩,⟨hid.1,by show id<65536;omega⟩,hm⟩;obtain ⟨w1,w2,w3,w4⟩:=hat.words hp;have w1:zac g (4096+16*a).toNat 8=ta:=w1;have w2:zac g ((4096+16*a).toNat+8) 4=16*l.length:=w2;have w3:zac g ((4096+16*a).toNat+12) 2=id:=w3;have w4:zac g ((4096+16*a).toNat+14) 2=zcj 4 x:=w4;have hent:entN N ta (16*l.length)=((l.length:Int),0):=by
  unfold entN;rw [if_neg (by rintro (e|e|e)<;>omega),if_pos hfit];simp only [Prod.mk.injEq,and_true];omega
 have hw:zbx N g ta (16*l.length)=(l,0):=by
  unfold zbx;rw [hent];simp only [ne_eq,not_true_eq_false,if_false];rw [show ((l.length:Int)).toNat=l.length by omega,ziu l ta.toNat [] hok htb];simp
 obtain ⟨f,hf⟩: ∃f,n.toNat=f+1:=⟨n.toNat-1,by omega⟩;have hR:zbB N g n true n.toNat a 0 [] 0=⟨id,1,l,0⟩:=by
  rw [hf];unfold zbB;simp only [w1,w2,w3,w4,hw];rw [if_pos (by unfold zcj;cases x<;>rfl),if_neg (by rintro (e|e|e);cases e;omega;revert e;unfold zcj;cases x<;>decide)];rfl
 refine ⟨?_,?_⟩
 ·unfold zdS;rw [hR];simp only [ne_eq,not_true_eq_false,if_false,look_ok hin hne];rw [if_neg (by omega)]
 ·rw [show (4096+16*a+14).toNat=(4096+16*a).toNat+14 by omega,w4];exact ziP ⟨by decide,by decide⟩
def Tryz.zev (r:Rg):Nat→Int→DS→(Nat→Int)→Int×DS×(Nat→Int)
 | 0,n,s,g=>(n,s,g)
 | f+1,n,s,g=>if s.ph=0 then (n,s,g) else if (zaO r s g).2.1=0 then zev r f (n+1) (zaO r s g).2.2.1 (zaO r s g).2.2.2 else (-1,(zaO r s g).2.2.1,(zaO r s g).2.2.2)
theorem Tryz.zhG {r:Rg} {f:Nat} {n:Int} {s:DS} {g:Nat→Int} (h:s.ph=0):zev r f n s g=(n,s,g):=by
 cases f with
 | zero=>rfl
 | succ f=>unfold zev;rw [if_pos h]
theorem Tryz.zb2 {r:Rg} {f:Nat} {n:Int} {s:DS} {g:Nat→Int} {x:Value} {s':DS} {g':Nat→Int} (h:s.ph≠0) (e:zaO r s g=(x,0,s',g')):zev r (f+1) n s g=zev r f (n+1) s' g':=by
 conv=>lhs;unfold zev
 rw [if_neg h,e];rfl
theorem Tryz.zcz {r:Rg} {s:DS} {g:Nat→Int} {p:Nat} (hb:s.br=false) (hp:s.ph=p) (h0:p≠0):zaO r s g=zgd r s g p:=by
 unfold zaO;rw [if_neg (by rw [hb];decide),hp,if_neg h0]
structure Tryz.OffY (N:Nat) (n:Int) (s:DS) (t:Int) (l:List Sg) (s1:DS):Prop where
 br:s.br=false
 ph:s.ph=0
 t0:0≤t
 seg:zbH N l=0
 ne:l≠ []
 own:s.need l≤s.own
 id:((zaM s.L n.toNat 0:Nat):Int)<n
 eq:s1= { s with c:=⟨(zaM s.L n.toNat 0:Nat),t,s.need l⟩,sg:=l,pu:=s.puts n (zaM s.L n.toNat 0:Nat) l,L:=s.L++ [⟨(zaM s.L n.toNat 0:Nat),t,s.need l⟩],own:=s.own-s.need l,ph:=1,dn:=false,op:=1,nn:=false,tok:=t,wr:=0,kk:=false }
theorem Tryz.zui {N:Nat} {n:Int} {s:DS} {t:Int} {l:List Sg} (h:(za3 N n s t l).1=0):OffY N n s t l (za3 N n s t l).2:=by
 by_cases h1:s.br=true
 ·unfold za3 at h;rw [if_pos h1] at h;cases h
 ·by_cases h2:s.ph=0
  ·by_cases h3:t<0∨s.L.any (fun e=>e.tk==t)
   ·unfold za3 at h;rw [if_neg h1,if_neg (by rw [h2];decide),if_pos h3] at h;cases h
   ·by_cases h4:zbH N l=0
    ·by_cases h5:l.length=0
     ·unfold za3 at h;rw [if_neg h1,if_neg (by rw [h2];decide),if_neg h3,if_neg (by rw [h4];decide),if_pos h5] at h;cases h
     ·by_cases h6:s.own<s.need l∨n≤(zaM s.L n.toNat 0:Nat)
      ·unfold za3 at h;rw [if_neg h1,if_neg (by rw [h2];decide),if_neg h3,if_neg (by rw [h4];decide),if_neg h5] at h;simp only [if_pos h6] at h;cases h
      ·refine ⟨by simpa using h1,h2,by omega,h4,fun e=>h5 (by rw [e];rfl),by omega,by omega,?_⟩;unfold za3;rw [if_neg h1,if_neg (by rw [h2];decide),if_neg h3,if_neg (by rw [h4];decide),if_neg h5];simp only [if_neg h6]
    ·unfold za3 at h;rw [if_neg h1,if_neg (by rw [h2];decide),if_neg h3,if_pos h4] at h;exact absurd h h4
  ·unfold za3 at h;rw [if_neg h1,if_pos h2] at h;cases h
def Tryz.zjB (s1:DS) (g:Nat→Int):Nat→Int:=putW (zjD s1 g) (4096+16*s1.pu0.at0+14).toNat 2 s1.pu0.nx
theorem Tryz.zoK {r:Rg} {s1:DS} {g:Nat→Int} (hp:s1.ph=1) (hb:s1.br=false): ∃kk,zev r 20 0 s1 g=(5,{ s1 with nx:=(zaH r.n s1.nx s1.nw s1.c.ct).1,nw:=(zaH r.n s1.nx s1.nw s1.c.ct).2,kk:=kk,ph:=0,dn:=true },zjB s1 g):=by
 have e1:zaO r s1 g=(.agg #[.int .i64 1,.int .i64 0,.int .i64 0],0,s1.goto 2,zjD s1 g):=by rw [zcz hb hp (by decide)];rfl
 have e2:zaO r (s1.goto 2) (zjD s1 g)=(.agg #[.int .i64 4,.int .i64 0,.int .i64 0],0,(s1.goto 2).goto 3,zjD s1 g):=by rw [zcz (s:=s1.goto 2) (p:=2) hb rfl (by decide)];rfl
 have e3:zaO r ((s1.goto 2).goto 3) (zjD s1 g)=(.agg #[.int .i64 3,.int .i64 1,.int .i64 s1.pu0.at0],0,((s1.goto 2).goto 3).goto 4,zjB s1 g):=by rw [zcz (s:=(s1.goto 2).goto 3) (p:=3) hb rfl (by decide)];rfl
 have e4:zaO r (((s1.goto 2).goto 3).goto 4) (zjB s1 g)=(.agg #[.int .i64 4,.int .i64 0,.int .i64 0],0,(((s1.goto 2).goto 3).goto 4).goto 5,zjB s1 g):=by rw [zcz (s:=((s1.goto 2).goto 3).goto 4) (p:=4) hb rfl (by decide)];rfl
 obtain ⟨kk,e5⟩: ∃kk,zaO r ((((s1.goto 2).goto 3).goto 4).goto 5) (zjB s1 g)=(.agg #[.int .i64 2,.int .i64 11,.int .i64 0],0,{ s1 with nx:=(zaH r.n s1.nx s1.nw s1.c.ct).1,nw:=(zaH r.n s1.nx s1.nw s1.c.ct).2,kk:=kk,ph:=0,dn:=true },zjB s1 g):=by
  rw [zcz (s:=(((s1.goto 2).goto 3).goto 4).goto 5) (p:=5) hb rfl (by decide)];exact ⟨_,rfl⟩
 refine ⟨kk,?_⟩;rw [show (20:Nat)=15+1+1+1+1+1 from rfl,zb2 (by rw [hp];decide) e1,zb2 (by show (2:Nat)≠0;decide) e2,zb2 (by show (3:Nat)≠0;decide) e3,zb2 (by show (4:Nat)≠0;decide) e4,zb2 (by show (5:Nat)≠0;decide) e5,zhG rfl];rfl
theorem Tryz.zqN {r:Rg} {s:DS} {g:Nat→Int} {e:DO} (hp:s.ph=0) (hb:s.br=false) (hu:zdD g s=true) (hget:zby s.L (zac g (4096+16*s.sx+8).toNat 8/4294967296%65536)=some e):
  (zcM s).1=0∧zev r 20 0 (zcM s).2 g=(3,{ s with op:=2,nn:=false,tok:=e.tk,wr:=zac g (4096+16*s.sx+8).toNat 8%4294967296,kk:=false,own:=s.own+e.ct,L:=za8 s.L e.id,sx:=(zaH r.n s.sx s.sw e.ct).1,sw:=(zaH r.n s.sx s.sw e.ct).2,ph:=0,dn:=true },g):=by
 have e0:zcM s=(0,{ s with ph:=11,dn:=false,op:=2,nn:=false,tok:=0,wr:=0,kk:=false }):=by
  unfold zcM;rw [if_neg (by rw [hb];decide),if_neg (by rw [hp];decide)]
 rw [e0];refine ⟨rfl,?_⟩;obtain ⟨s1,hs1⟩: ∃s1:DS,s1= { s with ph:=11,dn:=false,op:=2,nn:=false,tok:=0,wr:=0,kk:=false }:=⟨_,rfl⟩;have hu1:zdD g s1=true:=by rw [hs1];exact hu
 have hb1:s1.br=false:=by rw [hs1];exact hb
 have hp1:s1.ph=11:=by rw [hs1]
 have e1:zaO r s1 g=(.agg #[.int .i64 2,.int .i64 1,.int .i64 s1.sx],0,s1.goto 15,g):=by
  rw [zcz hb1 hp1 (by decide)];unfold zgd;simp only;rw [if_pos hu1]
 have e2:zaO r (s1.goto 15) g=(.agg #[.int .i64 4,.int .i64 0,.int .i64 0],0,(s1.goto 15).goto 16,g):=by rw [zcz (s:=s1.goto 15) (p:=15) hb1 rfl (by decide)];rfl
 have hg1:zby ((s1.goto 15).goto 16).L (zac g (4096+16*((s1.goto 15).goto 16).sx+8).toNat 8/4294967296%65536)=some e:=by
  show zby s1.L (zac g (4096+16*s1.sx+8).toNat 8/4294967296%65536)=some e;rw [hs1];exact hget
 have e3:zaO r ((s1.goto 15).goto 16) g=(.agg #[.int .i64 2,.int .i64 1,.int .i64 s.sx],0,{ s with op:=2,nn:=false,tok:=e.tk,wr:=zac g (4096+16*s.sx+8).toNat 8%4294967296,kk:=false,own:=s.own+e.ct,L:=za8 s.L e.id,sx:=(zaH r.n s.sx s.sw e.ct).1,sw:=(zaH r.n s.sx s.sw e.ct).2,ph:=0,dn:=true },g):=by
  rw [zcz (s:=(s1.goto 15).goto 16) (p:=16) hb1 rfl (by decide)];unfold zgd;simp only;rw [hg1];simp only;rw [hs1];rfl
 show zev r 20 0 { s with ph:=11,dn:=false,op:=2,nn:=false,tok:=0,wr:=0,kk:=false } g=_;rw [←hs1,show (20:Nat)=17+1+1+1 from rfl,zb2 (by rw [hp1];decide) e1,zb2 (by show (15:Nat)≠0;decide) e2,zb2 (by show (16:Nat)≠0;decide) e3,zhG rfl];rfl
theorem Tryz.ziS (g:Nat→Int) (a m:Nat): ∀k,zac g a (m+k)=zac g a m+256^m*zac g (a+m) k
 | 0=>by simp [zac]
 | k+1=>by
  show zac g a (m+k)+g (a+(m+k))*256^(m+k)=zac g a m+256^m*(zac g (a+m) k+g (a+m+k)*256^k);rw [ziS g a m k,Int.mul_add,Int.pow_add,←Nat.add_assoc a m k,Int.add_assoc];congr 2;rw [←Int.mul_assoc,Int.mul_comm _ (256^m),Int.mul_assoc]
def Tryz.zcJ (x:Bool):Int:=if x then 32896 else 0
theorem Tryz.zoa {g:Nat→Int} {sx V id:Int} {sw:Bool} (hsx:0≤sx) (hV:0≤V∧V<4294967296) (hid:0≤id∧id<65536):
  zob (zac (putL g (4096+16*sx+8).toNat ((Pt.bytes ⟨0,0,V,id,zcJ sw⟩).drop 8)) (4096+16*sx+14).toNat 2) sw=true∧
  zac (putL g (4096+16*sx+8).toNat ((Pt.bytes ⟨0,0,V,id,zcJ sw⟩).drop 8)) (4096+16*sx+8).toNat 8/4294967296%65536=id∧
  zac (putL g (4096+16*sx+8).toNat ((Pt.bytes ⟨0,0,V,id,zcJ sw⟩).drop 8)) (4096+16*sx+8).toNat 8%4294967296=V:=by
 have hmk:0≤zcJ sw∧zcJ sw<65536:=by unfold zcJ;split<;>decide
 have hp:(⟨0,0,V,id,zcJ sw⟩:Pt).ok:=⟨⟨by show (0:Int)≤0;decide,by show (0:Int)<_;decide⟩,hV,hid,hmk⟩;have hlen:=Pt.bytes_len ⟨0,0,V,id,zcJ sw⟩;obtain ⟨p,hpp⟩: ∃p:Pt,p=⟨0,0,V,id,zcJ sw⟩:=⟨_,rfl⟩;have hln:p.ln=V:=by rw [hpp]
 have hf:p.f=id:=by rw [hpp]
 have hnx:p.nx=zcJ sw:=by rw [hpp]
 rw [←hpp] at hp hlen ⊢;clear hpp;obtain ⟨a,ha⟩: ∃a:Nat,a=(4096+16*sx).toNat:=⟨_,rfl⟩;rw [show (4096+16*sx+8).toNat=a+8 by omega,show (4096+16*sx+14).toNat=a+14 by omega];have hfull:PtAt (putL g a p.bytes) a p:=⟨fun i hi=>by rw [zcF,if_pos (by rw [hlen];omega),Nat.add_sub_cancel_left]⟩;obtain ⟨w1,w2,w3,w4⟩:=hfull.words hp;have hsame: ∀j,8≤j→j<16→putL g (a+8) (p.bytes.drop 8) (a+j)=putL g a p.bytes (a+j):=fun j h1 h2=>by
  rw [zcF,zcF,if_pos (by rw [List.length_drop,hlen];omega),if_pos (by rw [hlen];omega),show a+j-(a+8)=j-8 by omega,show a+j-a=j by omega,List.getD_eq_getElem?_getD,List.getElem?_drop,show 8+(j-8)=j by omega,←List.getD_eq_getElem?_getD]
 have v2:zac (putL g (a+8) (p.bytes.drop 8)) (a+8) 4=V:=by
  rw [zeS (g:=putL g a p.bytes) fun i hi=>by rw [show a+8+i=a+(8+i) by omega];exact hsame _ (by omega) (by omega),w2,hln]
 have v3:zac (putL g (a+8) (p.bytes.drop 8)) (a+12) 2=id:=by
  rw [zeS (g:=putL g a p.bytes) fun i hi=>by rw [show a+12+i=a+(12+i) by omega];exact hsame _ (by omega) (by omega),w3,hf]
 have v4:zac (putL g (a+8) (p.bytes.drop 8)) (a+14) 2=zcJ sw:=by
  rw [zeS (g:=putL g a p.bytes) fun i hi=>by rw [show a+14+i=a+(14+i) by omega];exact hsame _ (by omega) (by omega),w4,hnx]
 have v8:zac (putL g (a+8) (p.bytes.drop 8)) (a+8) 8=V+4294967296*(id+65536*zcJ sw):=by
  rw [show (8:Nat)=4+(2+2) from rfl,ziS,ziS,show a+(4+(2+2))=a+8 from rfl,v2,show a+8+4=a+12 by omega,v3,show a+12+2=a+14 by omega,v4];rfl
 refine ⟨?_,?_,?_⟩
 ·rw [v4];unfold zob zcJ;cases sw<;>rfl
 ·rw [v8];omega
 ·rw [v8];omega
theorem Tryz.PtAt.of {g g':Nat→Int} {a N:Nat} {p:Pt} (h:PtAt g a p) (hg: ∀j,j<N→g' j=g j) (ha:a+16≤N):PtAt g' a p:=⟨fun i hi=>(hg _ (by omega)).trans (h.w i hi)⟩
theorem Tryz.DB.own_le {r:Rg} {s:DS} (hb:DB r s):s.own≤r.n:=by
 have h1:=zbg fun e he=>(hb.el e he).2.2.1;have h2:=hb.sum;omega
theorem Tryz.zp0 {N:Nat} {r:Rg} {s s1:DS} {t:Int} {l:List Sg} {g g':Nat→Int} (hr:PgOk r) (hb:DB r s) (hy:OffY N r.n s t l s1) (hok: ∀x∈l,x.ok) (hN:40000≤N) (hg: ∀j,j<N→g' j=zjB s1 g j):
  zdS N g' r.n s.nx s.tb=⟨(zaM s.L r.n.toNat 0:Nat),s.need l,l,0⟩∧zhP (zac g' (4096+16*s.nx+14).toNat 2) s.nw=true:=by
 have hbn:=hr.bnd;have hnx:=hb.nx;have hne:=hy.ne;have hsg:=hy.seg;have h64:=(zbV hsg).1;have hown:=hy.own;have hole:=hb.own_le;have hlp:0<l.length:=List.length_pos_iff.2 hne;obtain ⟨id,hid⟩: ∃id:Int,id=(zaM s.L r.n.toNat 0:Nat):=⟨_,rfl⟩;have hidb:0≤id∧id<r.n:=by have:=hy.id;omega
 have hs1:=hy.eq;rw [←hid] at hs1 ⊢;clear hid;have hpu:s1.pu=s.puts r.n id l:=by rw [hs1]
 have hsg1:s1.sg=l:=by rw [hs1]
 have hc1:s1.c.id=id:=by rw [hs1]
 have htb1:s1.tab l=s.tab l:=by rw [hs1];rfl
 clear hs1 hy;unfold zjB zjD DS.pu0 at hg;rw [hpu,hsg1,hc1,htb1] at hg;clear hpu hsg1 hc1 htb1;unfold DS.puts DS.need at*;by_cases hT:s.tab l=true
 ·rw [if_pos hT] at hown hg ⊢;rw [if_pos hT] at hg;have htb:s.tb=true:=by
   unfold DS.tab at hT;simp only [Bool.and_eq_true] at hT;exact hT.1
  rw [htb];obtain ⟨q1,q2⟩:=zql (g:=putL g (zcD id).toNat (zao l)) (p0:=zg5 id s.nx (zcD id) l.length s.nw) (ps:= []) (by simp) (fun p hp=>by
   rw [List.mem_singleton] at hp;rw [hp];exact hnx.1)
  have hta:20000≤zcD id∧zcD id+1024≤40000:=by unfold zcD;omega
  have hg: ∀j,j<N→g' j=putW (za1 0 [zg5 id s.nx (zcD id) l.length s.nw] (putL g (zcD id).toNat (zao l))) (4096+16*(zg5 id s.nx (zcD id) l.length s.nw).at0+14).toNat 2 (zg5 id s.nx (zcD id) l.length s.nw).nx j:=hg;refine zpA hnx (by omega) hidb hok hne hsg ⟨by omega,by omega⟩ (by omega) ((q1 _ (List.mem_singleton.2 rfl)).of hg (by show (4096+16*s.nx).toNat+16≤N;omega)) (zrw fun j hj=> ?_);rw [hg _ (by omega),q2 _ fun p hp=>by
   rw [List.mem_singleton] at hp;rw [hp];show _∨4096+16*s.nx+16≤_;omega]
  rw [zcF,if_pos (by rw [zo5];omega),Nat.add_sub_cancel_left]
 ·rw [if_neg hT] at hown hg ⊢;rw [if_neg hT] at hg;have hln:(l.length:Int)≤r.n:=by omega
  have hnd:((ppTo r.n id s.nx s.nw l l.length).map (·.at0)).Nodup:=by
   unfold ppTo;rw [List.map_map];refine List.pairwise_map.2 ((List.pairwise_lt_range).imp_of_mem fun {a b} ha hb2 hab=> ?_);have hb3:=List.mem_range.1 hb2;show (posN r.n s.nx s.nw a).1≠(posN r.n s.nx s.nw b).1;exact zt7 hnx hab (by omega)
  have hin: ∀p∈ppTo r.n id s.nx s.nw l l.length,0≤p.at0∧p.at0<r.n:=fun p hp=>by
   obtain ⟨k,_,rfl⟩:=List.mem_map.1 hp;exact zg6 hnx k
  refine zom hnx hln (by omega) hidb hok hne hsg fun p hp=> ?_;have hin2:=hin;revert hp;cases hps:ppTo r.n id s.nx s.nw l l.length with
  | nil=>
   intro hp;cases hp
  | cons p0 ps=>
   intro hp;rw [hps] at hg hnd hin hin2;obtain ⟨q1,_⟩:=zql (g:=g) hnd fun p hp=>(hin p hp).1;have h2:=hin2 p hp;exact (q1 p hp).of hg (by omega)
open Go.Maps Go.Sort Go.Deep
section
variable {A:Nat→Prop} {w w':World} {S P L Bs B I N:Nat} {r:Tryz.Rg} {s s':Tryz.DS} {g g':Nat→Int}
theorem Tryz.DW.mono (h:DW A w S P L Bs B I N r s g):S<w.heap.size∧I<w.heap.size∧B<w.heap.size:=⟨h.f.mvNe.1,h.f.mvNe.2.1,h.f.mvNe.2.2.2.2.2⟩
set_option maxRecDepth 100000 in
theorem Tryz.ziA (h:DW A w S P L Bs B I N r s g) (hi:DI s) {k:Int} (hk:0≤k) (hf:zev r 20 0 s g=(k,s',g')):
    Calls prog 41 #[.pointer (some ⟨S,0,none⟩)] w fun e w'=>e= .returned (.int .i64 k)∧DW A w' S P L Bs B I N r s' g'∧Dw.Mv (dK S I B) w w':=by
  go_enter func41,ntmps41;go_wp2;go_loopw [3] (fun iv wr=> ∃(j:Nat) (s2:DS) (g2:Nat→Int),j≤20∧iv= .int .i64 j∧DW A wr S P L Bs B I N r s2 g2∧DI s2∧zev r (20-j) j s2 g2=(k,s',g')∧Dw.Mv (dK S I B) w wr) (fun iv _=>20-(RowKit.intOf iv).toNat)
  case atStart=>exact ⟨0,s,g,by decide,rfl,h,hi,hf,Dw.Mv.refl (dK S I B) w⟩
  case round=>
    obtain ⟨j,s2,g2,hj,rfl,hW,hI,hF,hM⟩:=hrel;by_cases hj20:j<20
    · have hj':(j:Int)<20:=by omega
      have hbz:=zdy hW;by_cases hp:s2.ph=0
      · have e:=zhG (r:=r) (f:=20-j) (n:=j) (s:=s2) (g:=g2) hp;rw [hF] at e;cases e;rw [hp] at hbz;clear hF hI;go_wp2_with (first
          | (go_at_call 33;refine hbz.mono ?_;rintro e wA ⟨rfl,hw⟩;have hw:=hw.symm;subst hw)
          | go_in)
        go_ret;exact ⟨rfl,hW,hM⟩
      · have hst:=zrA hW hI;obtain ⟨x,y,z,hacc⟩:=zoJ (r:=r) s2 g2;have hIn:=hI.step (g:=g2) hW.pb;have hF2:(zaO r s2 g2).2.1=0∧zev r (20-(j+1)) ((j:Int)+1) (zaO r s2 g2).2.2.1 (zaO r s2 g2).2.2.2=(k,s',g'):=by
          rw [show 20-j=(20-(j+1))+1 by omega] at hF;unfold zev at hF;rw [if_neg hp] at hF;by_cases h0:(zaO r s2 g2).2.1=0
          · rw [if_pos h0] at hF;exact ⟨h0,hF⟩
          · rw [if_neg h0] at hF;have:=congrArg Prod.fst hF;have:(-1:Int)=k:=this;omega
        have hbt:decide (s2.ph≠0)=true:=decide_eq_true hp;rw [hbt] at hbz;rw [hacc,hF2.1] at hst;generalize hS':(zaO r s2 g2).2.2.1=s3 at hst hIn hF2;generalize hG':(zaO r s2 g2).2.2.2=g3 at hst hF2;have hF3:=hF2.2;clear hF2 hF hacc hS' hG' hbt hp hI;go_wp2_with (first
          | (go_at_call 33;refine hbz.mono ?_;rintro e wA ⟨rfl,hw⟩;have hw:=hw.symm;subst hw)
          | (go_at_call 25;refine hst.mono ?_;rintro e wB ⟨rfl,hWB,hMB⟩)
          | go_in)
        have hbx:=(Below.refl wB.heap.size wB).alloc (Nat.le_refl _) (Obj.cells #[.int .i64 x,.int .i64 y,.int .i64 z] 54);exact ⟨⟨j+1,s3,g3,by omega,by push_cast;rfl,hWB.below hbx,hIn,hF3,(hM.trans hMB).trans (zaa hbx)⟩,by simp only [RowKit.intOf];omega⟩
    · have hj': ¬(j:Int)<20:=by omega
      have hje:j=20:=by omega
      subst hje;have e:zev r 0 ((20:Nat):Int) s2 g2=(k,s',g'):=hF;cases e;clear hF hI;go_wp2_with fail;go_ret;exact ⟨rfl,hW,hM⟩
end
end Go.Proofs
namespace Go.Proofs
open Go.Dw Go.RowKit Go.Maps Go.Sort Go.Deep
def Tryz.zvK (w:World) (sa:Option Addr) (l:List Int):Prop:=l= []∨ ∃G o,sa=some ⟨G,o,none⟩∧w.rangeAt G o (zbe l)
set_option maxRecDepth 100000 in
theorem Tryz.zqv {w:World} {sa:Option Addr} {c:Nat} {l:List Int} (h:zvK w sa l) (hl:l.length≤100000) (t:Int):
  Calls prog 105 #[.slice sa l.length c,.int .i64 t] w fun e w'=> ∃i:Int,e= .returned (.int .i64 i)∧(decide (0≤i)=l.any fun x=>x==t)∧w'=w:=by
 go_enter func105,ntmps105;go_wp2_with fail;go_loopw [8] (fun x wr=>wr=w∧ ∃k:Nat,k≤l.length∧x= .int .i64 k∧((l.take k).any fun x=>x==t)=false) (fun x _=>l.length-(RowKit.intOf x).toNat)
 case atStart=>exact ⟨rfl,0,Nat.zero_le _,rfl,by simp⟩
 case round=>
  obtain ⟨rfl,k,hk,rfl,hno⟩:=hrel;by_cases hkl:k<l.length
  ·have hkl':(k:Int)<l.length:=by omega
   obtain ⟨G,o,rfl,hr⟩:=h.resolve_left (by intro e;rw [e] at hkl;exact absurd hkl (by simp));have e1:=hr k (.int .i64 l[k]) (by simp [zbe,hkl]);have ht:((l.take (k+1)).any fun x=>x==t)=(l[k]==t):=by
    rw [List.take_succ_eq_append_getElem hkl,List.any_append,hno];simp
   have hall:l[k]=t→(l.any fun x=>x==t)=true:=fun q=>List.any_eq_true.2 ⟨l[k],List.getElem_mem hkl,by simp [q]⟩;generalize l[k]=x at e1 ht hall;replace hno:HidP _:=⟨hno⟩;by_cases hx:t=x
   ·have ha:=hall hx.symm;subst hx;clear ht hall hr;go_wp2;go_ret;exact ⟨_,rfl,by rw [ha];simp,rfl⟩
   ·have hx2:(t==x)=false:=by simpa using hx
    have hx3:(x==t)=false:=by simpa using fun q:x=t=>hx q.symm
    rw [hx3] at ht;replace ht:HidP _:=⟨ht⟩;clear hall hr hx3;go_wp2;exact ⟨⟨trivial,k+1,by omega,by push_cast;rfl,ht.out⟩,by simp only [RowKit.intOf];omega⟩
  ·have hkl': ¬(k:Int)<l.length:=by omega
   have hkq:k=l.length:=by omega
   subst hkq;rw [List.take_length] at hno;replace hno:HidP _:=⟨hno⟩;go_wp2;go_ret;exact ⟨_,rfl,by rw [hno.out];rfl,rfl⟩
set_option maxRecDepth 100000 in
theorem Tryz.zd3 {w:World} {sa:Option Addr} {c:Nat} {l:List Int} (h:zvK w sa l) (hl:l.length≤100000) (t:Int):
    Calls prog 62 #[.slice sa l.length c,.int .i64 t] w fun e w'=>e= .returned (.bool (l.any fun x=>x==t))∧w'=w:=by
  have hi:=zqv (c:=c) h hl t;go_enter func62,ntmps62;go_wp2_with (first
    | (go_at_call 105;refine hi.mono ?_;rintro e w' ⟨i,rfl,hd,hw⟩;have hw:=hw.symm;subst hw)
    | go_in)
  go_ret;exact ⟨by rw [←hd];rfl,rfl⟩
theorem Tryz.zmn (a:Addr) (w:World):(binOp .eql 127 (.pointer none) (.pointer (some a))).run prog w= .ok (.bool false) w:=by
 show (do pure (Value.bool (←Op.equal 127 (.pointer none) (.pointer (some a)))):Sem Value).run prog w=_;unfold Op.equal Op.maxDepth Op.equalIn;simp only [Sem.run_bind,run_underlying underlying127,Result.andThen_ok,Sem.run_pure];rfl
theorem Tryz.zoI (w:World):(binOp .eql 127 (.pointer none) (.pointer none)).run prog w= .ok (.bool true) w:=by
 show (do pure (Value.bool (←Op.equal 127 (.pointer none) (.pointer none))):Sem Value).run prog w=_;unfold Op.equal Op.maxDepth Op.equalIn;simp only [Sem.run_bind,run_underlying underlying127,Result.andThen_ok,Sem.run_pure];rfl
section
variable {fns fns':List Nat} {nw nw':Prop} {A A':Nat→Prop} {w w':World} {S P L Bs B I N:Nat} {r:Tryz.Rg} {s s':Tryz.DS} {g g':Nat→Int}
set_option maxRecDepth 100000 in
theorem Tryz.zht {n:Nat} {L:List DO} (h:IdsW A w I n L) (hn:n≤32768):
  Calls prog 65 #[.slice (some ⟨I,0,none⟩) n n,.pointer none] w fun e w'=>e= .returned (.int .i64 (if zaM L n 0<n then ((zaM L n 0:Nat):Int) else-1))∧w'=w:=by
 obtain ⟨vs,h1,h2,h3⟩:=h;obtain ⟨f1,f2,f3,f4⟩:=zbz L n 0;obtain ⟨R,hR⟩: ∃R,R=zaM L n 0:=⟨_,rfl⟩;rw [←hR] at f1 f2 f3 f4 ⊢;clear hR;obtain ⟨res,hres⟩: ∃res:Int,res=(if R<n then ((R:Nat):Int) else-1):=⟨_,rfl⟩;rw [←hres];replace hres:HidP (res=(if R<n then ((R:Nat):Int) else-1)):=⟨hres⟩;go_enter func65,ntmps65;go_wp2_with fail;go_loopw [8] (fun x wr=>wr=w∧ ∃k:Nat,k≤n∧x= .int .i64 k∧k≤R) (fun x _=>n-(RowKit.intOf x).toNat)
 case atStart=>exact ⟨rfl,0,Nat.zero_le _,rfl,Nat.zero_le _⟩
 case round=>
  obtain ⟨rfl,k,hk,rfl,hkR⟩:=hrel;by_cases hkn:k<n
  ·have hkn':(k:Int)<n:=by omega
   have c0:=h1.cell k _ (List.getElem?_eq_getElem (by omega));by_cases hkR2:k<R
   ·have hh:=f3 k (Nat.zero_le _) hkR2;rw [←zbt] at hh;obtain ⟨e,he⟩:=Option.isSome_iff_exists.1 hh;obtain ⟨O,hO,_⟩:=(h3 k (by omega)).2 e he;rw [hO] at c0;have hn0:=zmn ⟨O,0,none⟩ wr;clear hh he hO;go_wp2;exact ⟨⟨trivial,k+1,by omega,by push_cast;rfl,by omega⟩,by simp only [RowKit.intOf];omega⟩
   ·have hkq:k=R:=by omega
    have h0:=(h3 k (by omega)).1 (by rw [hkq];exact f4 (by omega));rw [h0] at c0;have hr:=hres.out;rw [if_pos (by omega),←hkq] at hr;subst hr;have hn0:=zoI wr;clear h0 f1 f2 f3 f4 hkq hkR2 hkR hres h3;go_wp2;go_ret;exact ⟨rfl,rfl⟩
  ·have hkn': ¬(k:Int)<n:=by omega
   have hr:=hres.out;rw [if_neg (by omega)] at hr;subst hr;clear f1 f2 f3 f4;go_wp2;go_ret;exact ⟨rfl,rfl⟩
set_option maxRecDepth 100000 in
theorem Tryz.zfQ {v:Value} {l:List Sg} (h:SegV A w v l) (tb:Bool):
    Calls prog 64 #[v,.bool tb] w fun e w'=>e= .returned (.int .i64 (if zbc l≠0 then 0 else if tb then 1 else l.length))∧Below w.heap.size w w':=by
  have hck:=zdI h;obtain ⟨sa,c,rfl,hok,hr⟩:=h;clear hok hr;unfold zbc;generalize zaU l=e at hck;by_cases he:e=0
  · subst he;rw [if_neg (show¬(0:Int)≠0 by decide)];by_cases hl:l.length=0
    · rw [if_pos hl,if_pos (by decide)];have hb:((l.length:Int)==0)=true:=by simpa using hl
      clear hl;go_enter func64,ntmps64;go_wp2_with (first
        | (go_at_call 106;refine hck.mono ?_;rintro en w1 ⟨rfl,hb1⟩)
        | go_in)
      go_ret;exact ⟨rfl,hb1⟩
    · rw [if_neg hl,if_neg (show¬(0:Int)≠0 by decide)];have hb:((l.length:Int)==0)=false:=by simpa using hl
      clear hl;cases tb
      all_goals
        go_enter func64,ntmps64;go_wp2_with (first
          | (go_at_call 106;refine hck.mono ?_;rintro en w1 ⟨rfl,hb1⟩)
          | go_in)
        go_ret;exact ⟨rfl,hb1⟩
  · rw [if_pos he,if_pos he];have hb:(e==0)=false:=by simpa using he
    go_enter func64,ntmps64;go_wp2_with (first
      | (go_at_call 106;refine hck.mono ?_;rintro en w1 ⟨rfl,hb1⟩)
      | go_in)
    go_ret;exact ⟨rfl,hb1⟩
end
end Go.Proofs
namespace Go.Proofs
open Go.Dw Go.RowKit Go.Maps Go.Sort Go.Deep
set_option maxRecDepth 100000 in
theorem Tryz.zkl {f:Int} {x:Bool} (hf:f=0∨f=1∨f=2∨f=3∨f=4) (w:World):
  Calls prog 111 #[.int .u16 f,.bool x,.bool false] w fun e w'=>e= .returned (.int .u16 (zcj f x))∧w'=w:=by
 rcases hf with rfl|rfl|rfl|rfl|rfl<;>cases x
 all_goals
  go_enter func111,ntmps111;go_wp2;go_ret;exact ⟨rfl,rfl⟩
theorem Tryz.zml {w:World} {R X:Nat} (hX:Cl w X [.bool false]) (hr:w.rangeAt R 0 [(FnE.mk false X).val]) (hR:R<w.heap.size):
  Calls prog 107 #[.slice (some ⟨R,0,none⟩) 1 1] w fun e w'=>e= .returned (.int .i64 0)∧Below w.heap.size w w':=
 zhx (w:=w) (c:=1) [⟨false,X⟩] [0] rfl hr (by show 1≤64;decide) hR fun k hk w' hb=>by
  have hk0:k=0:=by simp at hk;omega
  subst hk0;exact zly ((hX.below hb hX.lt).cell 0 _ rfl)
theorem Tryz.zqJ {w:World} {R X Y:Nat} {A:Nat→Prop} {v:Value} {l:List Sg} (hY:Cl w Y [v]) (hv:SegV A w v l) (he:zbc l=0) (hX:Cl w X [.bool false]) (hr:w.rangeAt R 0 [(FnE.mk true Y).val,(FnE.mk false X).val]) (hR:R<w.heap.size):
  Calls prog 107 #[.slice (some ⟨R,0,none⟩) 2 2] w fun e w'=>e= .returned (.int .i64 0)∧Below w.heap.size w w':=by
 have:=zhx (w:=w) (c:=2) [⟨true,Y⟩,⟨false,X⟩] [zbc l,0] rfl hr (by show 2≤64;decide) hR fun k hk w' hb=>by
  have hk0:k=0∨k=1:=by simp at hk;omega
  rcases hk0 with rfl|rfl
  ·exact zhL (hY.below hb hY.lt) (hv.below hb)
  ·exact zly ((hX.below hb hX.lt).cell 0 _ rfl)
 have e0:zcm [zbc l,0]=0:=by rw [he];rfl
 rw [e0] at this;exact this
set_option maxRecDepth 100000 in
theorem Tryz.zsr {m:Int} (hm:1≤m∧m≤64) (w:World):Calls prog 110 #[.int .i64 m] w fun e w'=>e= .returned (.bool true)∧w'=w:=by
 obtain ⟨h1,h2⟩:=hm;go_enter func110,ntmps110;go_wp2;go_ret;exact ⟨by simp [h1,h2],rfl⟩
set_option maxRecDepth 100000 in
theorem Tryz.zsV {n a id m ad:Int} {x:Bool} (hn:1≤n∧n≤32768) (ha:0≤a∧a<n) (hid:0≤id∧id<n) (hm:1≤m∧m≤64) (w:World):
    Calls prog 67 #[posV a x,.int .i64 n,.int .i64 id,.int .u64 ad,.int .i64 m] w fun e w'=>e= .returned (.tuple #[.agg #[.int .i64 a,.int .u64 ad,.int .u32 (16*m),.int .u16 id,.int .u16 (zcj 4 x)],.int .i64 0])∧Below w.heap.size w w':=by
  have hck:=fun w'=>zmt (x:=x) hn ha.1 w';simp only [if_pos ha.2] at hck;have hmk:=fun w'=>zkl (f:=4) (x:=x) (by decide) w';have hmy:=fun w'=>zsr hm w';generalize zcj 4 x=fl at hmk ⊢;have h0:decide (id<0)=false:=decide_eq_false (by omega);have h1:decide (n≤id)=false:=decide_eq_false (by omega);have e1:IntKind.wrap .i64 (16*m)=16*m:=zaT (by omega) (by omega);have e2:IntKind.wrap .u32 (16*m)=16*m:=by unfold IntKind.wrap;simp [IntKind.signed,IntKind.bits];omega
  have e3:IntKind.wrap .u16 id=id:=zdF (by omega) (by omega);unfold posV at hck ⊢;have hb1:=(Below.refl w.heap.size w).alloc (Nat.le_refl _) (Obj.cells #[.int .i64 a,.bool x] 64);have hb2:=hb1.alloc (by simp) (Obj.cells #[.int .i64 0,.int .u64 0,.int .u32 0,.int .u16 0,.int .u16 0] 139);have k0:=(Cl.new w #[.int .i64 a,.bool x] 64).alloc (Obj.cells #[.int .i64 0,.int .u64 0,.int .u32 0,.int .u16 0,.int .u16 0] 139);have k1:=Cl.new2 (w:=w.alloc (Obj.cells #[.int .i64 a,.bool x] 64)) (b:=w.heap.size+1) (arr:= #[.int .i64 0,.int .u64 0,.int .u32 0,.int .u16 0,.int .u16 0]) (t:=139) (by simp);clear hn ha hid hm;go_enter func67,ntmps67;go_wp2_with (first
    | (go_at_call 109;refine (hck _).mono ?_;rintro en w3 ⟨rfl,hb3⟩;have j0:=k0.below hb3 k0.lt;have j1:=k1.below hb3 k1.lt)
    | (go_at_call 110;refine (hmy _).mono ?_;rintro en w' ⟨rfl,hw⟩;have hw:=hw.symm;subst hw)
    | (go_at_call 108;refine (zeQ _ false).mono ?_;rintro en w' ⟨rfl,hw⟩;have hw:=hw.symm;subst hw)
    | (go_at_call 107;refine (zml ((Cl.new w3 #[.bool false] 4).alloc _) (fun j y hy=>by
         have:=(Cl.new (w3.alloc (Obj.cells #[.bool false] 4)) #[(FnE.mk false w3.heap.size).val] 57).cell j y hy;rw [zas] at this;rwa [Nat.zero_add]) (by simp)).mono ?_;rintro en w4 ⟨rfl,hb4⟩
       have hb34:=((Below.refl w3.heap.size w3).alloc (Nat.le_refl _) (Obj.cells #[.bool false] 4)).alloc (by simp) (Obj.cells #[(FnE.mk false w3.heap.size).val] 57);have hb35:=hb34.trans (hb4.mono hb34.size))
    | go_in)
  have hbd:=(Below.refl w4.heap.size w4).drew;have hs2:=hb2.size;have hs3:=hb3.size;have hs5:=hb35.size;have hbw:Below w.heap.size w w4:=((hb2.trans (hb3.mono (by omega))).trans (hb35.mono (by omega)));clear hs2 hs3 hs5;have i0:=(j0.below hb35 j0.lt);have i1:=(j1.below hb35 j1.lt);have d0:=i0.below hbd i0.lt;have d1:=i1.below hbd i1.lt;have x0:=i0.cell 0 _ rfl;have x1:=i0.cell 1 _ rfl;have y0:=d0.cell 0 _ rfl;have y1:=d0.cell 1 _ rfl;have z0:=i1.cell 0 _ rfl;have q0:=i1.free 0;have z1:=i1.cell 1 _ rfl;have q1:=i1.free 1;have z2:=i1.cell 2 _ rfl;have q2:=i1.free 2;have z3:=i1.cell 3 _ rfl;have q3:=i1.free 3;have z4:=i1.cell 4 _ rfl;have q4:=i1.free 4;go_region_law (first
    | (go_simp;go_at_call 111;refine (hmk _).mono ?_;rintro en w' ⟨rfl,hw⟩;have hw:=hw.symm;subst hw))
  all_goals
    go_wp2_with fail;have hm4:=zai (zai (zai (zai (zai (zaa (K:=fun _=>False) hbw) (w.heap.size+1) 0 (.int .i64 a) (.inr (by omega))) (w.heap.size+1) 1 (.int .u64 ad) (.inr (by omega))) (w.heap.size+1) 2 (.int .u32 (16*m)) (.inr (by omega))) (w.heap.size+1) 3 (.int .u16 id) (.inr (by omega))) (w.heap.size+1) 4 (.int .u16 fl) (.inr (by omega));have hmF:=zbu (hm4.trans (zaa ((Below.refl _ _).drew)));have kF:=Cl.kept (w':=(((((w4.setCell ⟨w.heap.size+1,0,none⟩ (.int .i64 a)).setCell ⟨w.heap.size+1,1,none⟩ (.int .u64 ad)).setCell ⟨w.heap.size+1,2,none⟩ (.int .u32 (16*m))).setCell ⟨w.heap.size+1,3,none⟩ (.int .u16 id)).setCell ⟨w.heap.size+1,4,none⟩ (.int .u16 fl)).drew) (((((i1.set 0 (.int .i64 a) (by simp)).set 1 (.int .u64 ad) (by simp)).set 2 (.int .u32 (16*m)) (by simp)).set 3 (.int .u16 id) (by simp)).set 4 (.int .u16 fl) (by simp)) rfl;refine bodyPost_ret (zaB rfl _ _ (w.heap.size+1) [.int .i64 a,.int .u64 ad,.int .u32 (16*m),.int .u16 id,.int .u16 fl] _ rfl (fun j y hy=>by rw [Nat.zero_add];exact kF.cell j y hy) underlying139 rfl (by kernel_rfl)) rfl ?_;exact ⟨rfl,hmF⟩
theorem Tryz.zvM {L:List DO} {id:Int} {e:DO} (h:zby L id=some e): ∃(k:Nat) (hk:k<L.length),L[k]=e∧e.id=id∧ ∀(j:Nat) (hj:j<k),L[j].id≠id:=by
 unfold zby at h;rw [List.find?_eq_some_iff_getElem] at h;obtain ⟨h1,k,hk,h2,h3⟩:=h;exact ⟨k,hk,h2,by simpa using h1,fun j hj=>by simpa using h3 j hj⟩
theorem Tryz.znI: ∀ {L:List DO} {k:Nat} (hk:k<L.length) {id:Int},L[k].id=id→(∀(j:Nat) (hj:j<k),L[j].id≠id)→za8 L id=L.take k++L.drop (k+1)
 | x::r,0,_,id,h,_=>by
  have h:x.id=id:=h;unfold za8;rw [List.eraseP_cons_of_pos (by simpa using h)];simp
 | x::r,k+1,hk,id,h,hall=>by
  have h0:x.id≠id:=hall 0 (by omega);have:=znI (L:=r) (k:=k) (by simpa using hk) (id:=id) (by simpa using h) fun j hj=>by simpa using hall (j+1) (by omega)
  unfold za8 at this ⊢;rw [List.eraseP_cons_of_neg (by simpa using h0),this];simp
theorem Tryz.zbC (a b:List DO):zap (a++b)=zap a++zap b:=List.flatMap_append
theorem Tryz.zi8 (L:List DO) (k:Nat) (hk:k≤L.length):(zap L).take (k*3)=zap (L.take k):=by
 conv=>lhs;rw [←List.take_append_drop k L,zbC]
 rw [List.take_append_of_le_length (by rw [zaY,List.length_take];omega),List.take_of_length_le (by rw [zaY,List.length_take];omega)]
theorem Tryz.zi9 (L:List DO) (k:Nat) (hk:k≤L.length):(zap L).drop (k*3)=zap (L.drop k):=by
 conv=>lhs;rw [←List.take_append_drop k L,zbC]
 have hl:(zap (L.take k)).length=k*3:=by rw [zaY,List.length_take];omega
 rw [←hl,List.drop_left]
theorem Tryz.zkx (L:List DO): ∀u∈zap L,u.oneCell'=true:=fun u hu=>by
 obtain ⟨e,_,he⟩:=List.mem_flatMap.1 hu;simp only [DO.cells,List.mem_cons,List.not_mem_nil,or_false] at he;rcases he with rfl|rfl|rfl<;>rfl
section
variable {A A':Nat→Prop} {w w':World} {S P L Bs B N b2:Nat} {r:Tryz.Rg} {s s':Tryz.DS} {g g':Nat→Int} {lv lv':Value}
end
end Go.Proofs
namespace Go.Proofs
open Go.Dw Go.RowKit Go.Maps Go.Sort Go.Deep
theorem Tryz.zor (w:World) (t:TypeId) (sz:Nat):((w.alloc (Obj.cells #[] t)).drew).ownsRow w.heap.size t sz (.slice (some ⟨w.heap.size,0,none⟩) 0 0) 0 []:=
 ⟨by simp,.inr ⟨_,0,_,rfl,Nat.le_refl _,heap_alloc_new w _,Nat.le_refl _,Nat.zero_le _,by simp,by simp⟩⟩
theorem Tryz.zmu {w:World} {G:Nat} {cs:List Value} (h:w.rangeAt G 0 cs) {k c:Nat} (hc:cs.length≤c*3): ∀j u,(cs.drop (k*3))[j]? =some u→w.cell? ((if c=k then (⟨G,0,none⟩:Addr) else ⟨G,k*3,none⟩).add j)=some u:=fun j u hu=>by
 by_cases hk:c=k
 ·subst hk;rw [List.drop_eq_nil_of_le hc] at hu;cases hu
 ·rw [if_neg hk];rw [Dw.addr_add];rw [List.getElem?_drop] at hu;have:=h _ u hu
  rwa [Nat.zero_add] at this
section
variable {A A':Nat→Prop} {w w':World} {S P L Bs B N b2:Nat} {r:Tryz.Rg} {s s':Tryz.DS} {g g':Nat→Int} {lv lv':Value}
end
end Go.Proofs
namespace Go.Proofs
open Go.Dw Go.RowKit Go.Maps Go.Sort Go.Deep
section
variable {A A':Nat→Prop} {w w':World} {S P L Bs B N b2:Nat} {r:Tryz.Rg} {s s':Tryz.DS} {g g':Nat→Int} {lv lv':Value}
end
end Go.Proofs
namespace Go.Proofs
open Go.Dw Go.RowKit Go.Maps Go.Sort Go.Deep
def Tryz.segF (wr more:Bool):Int:=(if wr then 2 else 0)+if more then 1 else 0
theorem Tryz.ztJ (wr more:Bool):segF wr more=0∨segF wr more=1∨segF wr more=2∨segF wr more=3∨segF wr more=4:=by cases wr<;>cases more<;>decide
set_option maxRecDepth 100000 in
theorem Tryz.zss {id a ln:Int} {x wr more:Bool} (hid:0≤id∧id<65536) (w:World):
    Calls prog 196 #[.agg #[.int .u64 0,.int .u32 0,.int .u16 0,.int .u16 0,.int .i64 id,.bool x],.agg #[.int .u64 a,.int .u32 ln,.bool wr],.bool more] w fun e w'=>e= .returned (.iface 187 (.agg #[.int .u64 a,.int .u32 ln,.int .u16 id,.int .u16 (zcj (segF wr more) x),.int .i64 id,.bool x]))∧Below w.heap.size w w':=by
  have hmk:=fun w'=>zkl (x:=x) (ztJ wr more) w';have e3:IntKind.wrap .u16 id=id:=zdF (by omega) (by omega);clear hid;cases wr<;>cases more
  all_goals
    unfold segF at hmk ⊢;simp only [if_true,if_false,Bool.false_eq_true,Int.add_zero,Int.zero_add] at hmk ⊢;go_enter func196,ntmps196;go_wp2_with (first
      | (go_at_call 111;refine (hmk _).mono ?_;rintro en w' ⟨rfl,hw⟩;have hw:=hw.symm;subst hw)
      | go_in)
    go_ret;exact ⟨rfl,((Below.refl w.heap.size w).alloc (Nat.le_refl _) _).alloc (by simp) _⟩
def Tryz.zbk (ps:List (Int×Bool)):List Value:=ps.flatMap fun p=> [.int .i64 p.1,.bool p.2]
theorem Tryz.zdP: ∀ps:List (Int×Bool),(zbk ps).length=ps.length*2
 | [] => rfl
 | p::r=>by
  have:=zdP r;unfold zbk at this ⊢;rw [List.flatMap_cons,List.length_append,this,List.length_cons];simp;omega
theorem Tryz.zeF: ∀(ps:List (Int×Bool)) (i:Nat) (hi:i<ps.length),(zbk ps)[i*2]? =some (.int .i64 ps[i].1)∧(zbk ps)[i*2+1]? =some (.bool ps[i].2)
 | p::r,0,_=>⟨rfl,rfl⟩
 | p::r,i+1,hi=>by
  have q:=zeF r i (by simpa using hi);have e1:zbk (p::r)= .int .i64 p.1:: .bool p.2::zbk r:=rfl;rw [e1,show (i+1)*2=i*2+1+1 by omega];simpa using q
set_option maxRecDepth 100000 in
theorem Tryz.zlY {w:World} {X6 X11 G k n c:Nat} {id:Int} {x:Bool} (h6:Cl w X6 [.int .i64 id]) (h11:Cl w X11 [.slice (some ⟨G,0,none⟩) n c]) (hk:k<n) (hx:w.cell? ⟨G,k*2+1,none⟩=some (.bool x)):
  Calls prog 115 #[.int .i64 k,.pointer (some ⟨X6,0,none⟩),.pointer (some ⟨X11,0,none⟩)] w fun e w'=>e= .returned (.agg #[.int .u64 0,.int .u32 0,.int .u16 0,.int .u16 0,.int .i64 id,.bool x])∧Below w.heap.size w w':=by
 have hk':(k:Int)<n:=by omega
 have hb1:=(Below.refl w.heap.size w).alloc (Nat.le_refl _) (Obj.cells #[.int .u64 0,.int .u32 0,.int .u16 0,.int .u16 0,.int .i64 0,.bool false] 187);have hG:G<w.heap.size:=World.block_lt_of_cell? w _ hx;have k1:=Cl.new w #[.int .u64 0,.int .u32 0,.int .u16 0,.int .u16 0,.int .i64 0,.bool false] 187;have q6:=h6.below hb1 h6.lt;have q11:=h11.below hb1 h11.lt;have qx:=(hb1.cell (p:=⟨G,k*2+1,none⟩) hG).trans hx;have a6:=q6.cell 0 _ rfl;have a11:=q11.cell 0 _ rfl;have z0:=k1.cell 0 _ rfl;have f0:=k1.free 0;have z1:=k1.cell 1 _ rfl;have f1:=k1.free 1;have z2:=k1.cell 2 _ rfl;have f2:=k1.free 2;have z3:=k1.cell 3 _ rfl;have f3:=k1.free 3;have z4:=k1.cell 4 _ rfl;have f4:=k1.free 4;have z5:=k1.cell 5 _ rfl;have f5:=k1.free 5;clear hk hb1 hG;go_enter func115,ntmps115;go_wp2_with fail;go_region_law fail
 all_goals
  go_wp2_with fail;have kF:=(Cl.new w #[.int .u64 0,.int .u32 0,.int .u16 0,.int .u16 0,.int .i64 id,.bool x] 187).kept (w':=(w.alloc (Obj.cells #[.int .u64 0,.int .u32 0,.int .u16 0,.int .u16 0,.int .i64 id,.bool x] 187)).drew) rfl;refine bodyPost_ret (zpx rfl _ _ w.heap.size [.int .u64 0,.int .u32 0,.int .u16 0,.int .u16 0,.int .i64 id,.bool x] _ rfl (fun j y hy=>by rw [Nat.zero_add];exact kF.cell j y hy) underlying187 rfl (by kernel_rfl)) rfl ?_;exact ⟨rfl,((Below.refl w.heap.size w).alloc (Nat.le_refl _) _).drew⟩
set_option maxRecDepth 100000 in
theorem Tryz.zvw:(prog.info? 187).map (fun i=>(i.zero,i.size,i.bytes))=some (some (.agg #[.int .u64 0,.int .u32 0,.int .u16 0,.int .u16 0,.int .i64 0,.bool false]),6,32):=by kernel_rfl
def Tryz.zdR (id:Int) (ps:List (Int×Bool)) (l:List Sg) (k:Nat):List Value:=
 [.int .u64 (l.getD k ⟨0,0,false⟩).at1,.int .u32 (l.getD k ⟨0,0,false⟩).len,.int .u16 id,.int .u16 (zcj (segF (l.getD k ⟨0,0,false⟩).wr (decide (k+1<l.length))) (ps.getD k (0,false)).2),.int .i64 id,.bool (ps.getD k (0,false)).2]
def Tryz.zdg (id:Int) (ps:List (Int×Bool)) (l:List Sg) (k:Nat):List Value:=(List.range k).flatMap (zdR id ps l)
theorem Tryz.zdQ (id:Int) (ps:List (Int×Bool)) (l:List Sg) (k:Nat):zdg id ps l (k+1)=zdg id ps l k++zdR id ps l k:=by simp [zdg,List.range_succ]
set_option maxRecDepth 100000 in
theorem Tryz.zoN {A:Nat→Prop} {w:World} {v:Value} {l:List Sg} {X6 X11 G c2:Nat} {id:Int} {ps:List (Int×Bool)} (h:SegV A w v l) (hl:l.length≤16) (hid:0≤id∧id<65536) (hps:ps.length=l.length) (h6:Cl w X6 [.int .i64 id]) (h11:Cl w X11 [.slice (some ⟨G,0,none⟩) ps.length c2]) (hG:w.rangeAt G 0 (zbk ps)):
    Calls prog 114 #[v,.func (.func 115) #[] #[.pointer (some ⟨X6,0,none⟩),.pointer (some ⟨X11,0,none⟩)]] w fun e w'=>(∃u t,e= .returned u∧OwnR t 6 w' w.heap.size u l.length (zdg id ps l l.length))∧Below w.heap.size w w':=by
  obtain ⟨sa,c,rfl,hok,hr⟩:=h;have hinfo:=zvw;cases hi:prog.info? 187 with
  | none=>rw [hi] at hinfo;cases hinfo
  | some i0=>
  rw [hi] at hinfo;simp only [Option.map_some,Option.some.injEq,Prod.mk.injEq] at hinfo;obtain ⟨j1,j2,j3⟩:=hinfo;have hU:prog.underlying 184=some (.slice 187):=by kernel_rfl
  obtain ⟨w1,hmk,hown0,hgrow0⟩:=run_make_own (P:=prog) (w:=w) w.heap.size 184 187 i0 (.agg #[.int .u64 0,.int .u32 0,.int .u16 0,.int .u16 0,.int .i64 0,.bool false]) 6 hU hi j1 j2 .i64 .i64 l.length (by rw [j3];omega) (by unfold maxLen;omega) (Nat.le_refl _);have hb1:Below w.heap.size w w1:=⟨hgrow0.os,hgrow0.tape,hgrow0.output,hgrow0.size,fun b hb=>hgrow0.block b hb (fun e=>by cases e)⟩;replace hok:HidP (∀x∈l,x.ok):=⟨hok⟩;replace hr:HidP (l= []∨ ∃R o,sa=some ⟨R,o,none⟩∧ ¬A R∧w.rangeAt R o (zan l)):=⟨hr⟩;replace hG:HidP _:=⟨hG⟩;replace hps:HidP _:=⟨hps⟩;clear hgrow0;have hmeth : ∀ (v : Value) (w : World), (method 356 187 v "dumbwaiter/build.made").run prog w = .ok (196, v) w := fun _ _ => by kernel_rfl
  have hasrt: ∀(v:Value) (w:World),(Instr.typeAssert (.iface 187 v) 214 187 false).run prog w= .ok v w:=fun _ _=>by kernel_rfl
  go_enter func114,ntmps114;go_wp2_with fail;clear hmk;go_loopw [5,13] (fun cv x wr=> ∃(q:Nat) (t:TypeId),q≤l.length∧x= .int .i64 q∧OwnR t 6 wr w.heap.size cv q (zdg id ps l q)∧Below w.heap.size w wr) (fun _ x _=>l.length-(RowKit.intOf x).toNat)
  case atStart=>exact ⟨0,_,Nat.zero_le _,rfl,hown0,hb1⟩
  case round=>
    obtain ⟨q,ty,hq,rfl,ho,hb⟩:=hrel;by_cases hqn:q<l.length
    · have hqn':(q:Int)<l.length:=by omega
      obtain ⟨R,o,rfl,hA,hrg⟩:=hr.out.resolve_left (by intro e;rw [e] at hqn;exact absurd hqn (by simp));have hsg:=zag (zcS hrg q hqn) (hb.block R (zgZ hrg (by intro e;rw [e] at hqn;exact absurd hqn (by simp))));have hqp:q<ps.length:=by rw [hps.out];exact hqn
      have hGl:G<w.heap.size:=zaP hG.out (by intro e;have:=congrArg List.length e;rw [zdP] at this;simp only [List.length_nil] at this;omega);have hxw:=hG.out _ _ (zeF ps q hqp).2;rw [Nat.zero_add] at hxw;have hxr:wr.cell? ⟨G,q*2+1,none⟩=_:=(hb.cell (p:=⟨G,q*2+1,none⟩) hGl).trans hxw;have hcell:zdR id ps l q= [.int .u64 l[q].at1,.int .u32 l[q].len,.int .u16 id,.int .u16 (zcj (segF l[q].wr (decide (q+1<l.length))) ps[q].2),.int .i64 id,.bool ps[q].2]:=by
        unfold zdR;rw [show l.getD q ⟨0,0,false⟩=l[q] from by simp [List.getD_eq_getElem?_getD,hqn],show ps.getD q (0,false)=ps[q] from by simp [List.getD_eq_getElem?_getD,hqp]]
      have hsucc:=zdQ id ps l q;rw [hcell] at hsucc;clear hcell;generalize l[q]'(hqn)=s at hsg hsucc;generalize (ps[q]'(hqp)).2=x at hxr hsucc hxw;obtain ⟨sat,sln,swr⟩:=s;have hmore:decide (q+1<l.length)=decide ((q:Int)+1<l.length):=decide_eq_decide.2 (by omega);rw [hmore] at hsucc;have hw1:IntKind.wrap .i64 ((q:Int)+1)=(q:Int)+1:=zaT (by omega) (by omega);rw [Nat.mul_comm 3 q] at hsg;have s0:=hsg 0 _ rfl;have s1:=hsg 1 _ rfl;have s2:=hsg 2 _ rfl;rw [Nat.add_zero] at s0;have hbz:=(Below.refl wr.heap.size wr).alloc (Nat.le_refl _) (Obj.cells #[.int .u64 sat,.int .u32 sln,.bool swr] 137);have hbzd:=hbz.drew;have kz:=(Cl.new wr #[.int .u64 sat,.int .u32 sln,.bool swr] 137);have kzd:=kz.kept (w':=(wr.alloc (Obj.cells #[.int .u64 sat,.int .u32 sln,.bool swr] 137)).drew) rfl;have hG6:=((h6.below hb h6.lt).below hbzd (h6.below hb h6.lt).lt);have hG11:=((h11.below hb h11.lt).below hbzd (h11.below hb h11.lt).lt);have hGlr:G<wr.heap.size:=Nat.lt_of_lt_of_le hGl hb.size;have hGx:=(hbzd.cell (p:=⟨G,q*2+1,none⟩) hGlr).trans hxr;have hc1:=zlY (k:=q) hG6 hG11 hqp hGx;have hc2:=fun w'=>zss (a:=sat) (ln:=sln) (x:=x) (wr:=swr) (more:=decide ((q:Int)+1<l.length)) hid w';have ho2:=OwnR.kept ho (w':=(wr.alloc (Obj.cells #[.int .u64 sat,.int .u32 sln,.bool swr] 137)).drew) fun b e=>hbzd.block b (OwnR.lt ho b e).2;have z0:=kz.cell 0 _ rfl;have z1:=kz.cell 1 _ rfl;have z2:=kz.cell 2 _ rfl;have y0:=kzd.cell 0 _ rfl;have y1:=kzd.cell 1 _ rfl;have y2:=kzd.cell 2 _ rfl;obtain ⟨su,cu,hcv,_⟩:=OwnR.row ho;subst hcv;generalize zcj (segF swr (decide ((q:Int)+1<l.length))) x=fl at hc2 hsucc;clear hxr hxw hGx hrg hmore hok hr hG hps;go_wp2_with fail;go_region_held3 (fun w'=>w'.cell? ⟨wr.heap.size,0,none⟩=some (.int .u64 sat)∧w'.cell? ⟨wr.heap.size,1,none⟩=some (.int .u32 sln)∧w'.cell? ⟨wr.heap.size,2,none⟩=some (.bool swr)) (go_keep)
        ((first
          | (go_at_call 115;refine hc1.mono ?_;rintro en w3 ⟨rfl,hb3⟩;have kz3:=kzd.below hb3 kzd.lt;have v0:=kz3.cell 0 _ rfl;have v1:=kz3.cell 1 _ rfl;have v2:=kz3.cell 2 _ rfl)
          | (go_at_call 196;refine (hc2 _).mono ?_;rintro en w4 ⟨rfl,hb4⟩;have kz4:=kz3.below hb4 kz3.lt;have u0:=kz4.cell 0 _ rfl;have u1:=kz4.cell 1 _ rfl;have u2:=kz4.cell 2 _ rfl;have hb34:=hb3.trans (hb4.mono hb3.size);have ho4:=OwnR.kept ho2 (w':=w4) fun b e=>hb34.block b (OwnR.lt ho2 b e).2;have hbA:=(Below.refl w4.heap.size w4).alloc (Nat.le_refl _) (Obj.cells #[.int .u64 sat,.int .u32 sln,.int .u16 id,.int .u16 fl,.int .i64 id,.bool x] 187);have ho5:=OwnR.kept ho4 (w':=w4.alloc (Obj.cells #[.int .u64 sat,.int .u32 sln,.int .u16 id,.int .u16 fl,.int .i64 id,.bool x] 187)) fun b e=>hbA.block b (OwnR.lt ho4 b e).2;have kn5:=Cl.new w4 #[.int .u64 sat,.int .u32 sln,.int .u16 id,.int .u16 fl,.int .i64 id,.bool x] 187;have kz5:=kz4.below hbA kz4.lt;have t0:=kz5.cell 0 _ rfl;have t1:=kz5.cell 1 _ rfl;have t2:=kz5.cell 2 _ rfl;have hbase:w.heap.size≤(w4.alloc (Obj.cells #[.int .u64 sat,.int .u32 sln,.int .u16 id,.int .u16 fl,.int .i64 id,.bool x] 187)).heap.size:=Nat.le_trans hb.size (Nat.le_trans hbzd.size (Nat.le_trans hb34.size hbA.size)))
          | (refine zgy (P0:=prog) (by rfl) _ _ _ (by rfl) w.heap.size 187 ty i0 _ 6 32 hU hi j1 j2 j3 rfl (by decide) (.slice su q cu) q (zdg id ps l q) (by rfl) ho5 (some ⟨w4.heap.size,0,none⟩) ⟨w4.heap.size,0,none⟩ rfl 1 1 [.int .u64 sat,.int .u32 sln,.int .u16 id,.int .u16 fl,.int .i64 id,.bool x] (by rfl) rfl
               (fun j u hu=>by rw [Dw.addr_add];exact kn5.cell (0+j) u (by rw [Nat.zero_add];exact hu)) (fun u hu=>by simp only [List.mem_cons,List.not_mem_nil,or_false] at hu;rcases hu with rfl|rfl|rfl|rfl|rfl|rfl<;>rfl) (by unfold maxLen;omega) (by omega) hbase ?_
             intro v6 w6 t6 hown6 hgrow6 hat6;have kz6:=kz5.kept (w':=w6) (hgrow6.block _ kz5.lt (fun e=>by have:=(OwnR.lt ho _ e.symm).2;omega));have r0:=kz6.cell 0 _ rfl;have r1:=kz6.cell 1 _ rfl;have r2:=kz6.cell 2 _ rfl)))
      all_goals
        go_wp2_with fail;refine ⟨⟨q+1,t6,by omega,by push_cast;rfl,by rw [hsucc];exact hown6,?_⟩,by simp only [RowKit.intOf];omega⟩;have hbw:=(((hb.trans (hbzd.mono hb.size)).trans (hb34.mono (Nat.le_trans hb.size hbzd.size))).trans (hbA.mono (Nat.le_trans hb.size (Nat.le_trans hbzd.size hb34.size))));exact ⟨hgrow6.os.trans hbw.os,hgrow6.tape.trans hbw.tape,hgrow6.output.trans hbw.output,Nat.le_trans hbw.size hgrow6.size,fun b hh=>(hgrow6.block b (Nat.lt_of_lt_of_le hh hbw.size) (fun e=>by have:=(OwnR.lt ho b e.symm).1;omega)).trans (hbw.block b hh)⟩
    · have hqq:q=l.length:=by omega
      subst hqq;go_wp2;go_ret;exact ⟨⟨_,ty,rfl,ho⟩,hb⟩
section
variable {A A':Nat→Prop} {w w':World} {S P L Bs B N b2:Nat} {r:Tryz.Rg} {s s':Tryz.DS} {g g':Nat→Int} {lv lv':Value}
end
end Go.Proofs
namespace Go.Proofs
open Go.Dw Go.RowKit Go.Maps Go.Sort Go.Deep
section
variable {A A':Nat→Prop} {w w':World} {S P L Bs B N b2:Nat} {r:Tryz.Rg} {s s':Tryz.DS} {g g':Nat→Int} {lv lv':Value}
end
end Go.Proofs
namespace Go.Proofs
open Go.Dw Go.RowKit Go.Maps Go.Sort Go.Deep
section
variable {A A':Nat→Prop} {w w':World} {S P L Bs B N b2:Nat} {r:Tryz.Rg} {s s':Tryz.DS} {g g':Nat→Int} {lv lv':Value}
end
end Go.Proofs
namespace Go.Proofs
open Go.Dw Go.RowKit Go.Maps Go.Sort Go.Deep
section
variable {A A':Nat→Prop} {w w':World} {S P L Bs B N b2:Nat} {r:Tryz.Rg} {s s':Tryz.DS} {g g':Nat→Int} {lv lv':Value}
end
end Go.Proofs
namespace Go.Proofs
open Go.Dw Go.RowKit Go.Maps Go.Sort Go.Deep
set_option maxRecDepth 100000 in
theorem Tryz.zlD {n:Nat} (hn:1≤n∧n≤16) (ev tb pk:Bool) (w:World):
    Calls prog 38 #[.int .i64 n,.agg #[.bool ev,.bool tb,.bool pk]] w fun e w'=> ∃S P L Bs B I,e= .returned (.tuple #[.pointer (some ⟨P,0,none⟩),.pointer (some ⟨S,0,none⟩),(zcG n).pval,.bool true])∧
      DW (dK S I B) w' S P L Bs B I 60000 (zcG n) (DS.fresh ev tb (zcG n).n) (fun _=>0)∧Below w.heap.size w w'∧(w.heap.size≤S∧w.heap.size≤I∧w.heap.size≤B∧w.heap.size≤P∧w.heap.size≤L∧w.heap.size≤Bs):=by
  have hpl:=zop n hn;have hnew:=fun R w (c:Cl w R [.int .u64 0,.int .u64 60000])=>zul R 60000 1 w (c.cell 0 _ rfl) (c.cell 1 _ rfl) (by decide) (by decide);have hrk:=zfy hn;obtain ⟨r,hr⟩: ∃r,r=zcG n:=⟨_,rfl⟩;rw [←hr] at hpl hrk ⊢;clear hr;have hnw:=fun {w:World} {P L Bs B:Nat} (st:GM w P L Bs B 60000 (fun _=>0))=>zsp (ev:=ev) (tb:=tb) st hrk (by decide) (by decide);unfold Rg.pval at hpl hnw ⊢;go_enter func38,ntmps38;go_wp2_with (first
    | (go_at_call 8;refine (hpl _).mono ?_;rintro e w1 ⟨rfl,hb1⟩;have ka:=((Cl.new w _ _).alloc _).below hb1 (by simp<;>omega);have kb:=(Cl.new (w.alloc _) _ _).below hb1 (by simp<;>omega);rw [zas] at kb)
    | (go_at_call 9;refine (hnew (w1.heap.size+1) _ (Cl.new2 (zas _ _))).mono ?_;rintro e w2 ⟨P,L,Bs,B,rfl,hg,hb2,hP,hL,hBs,hB⟩;have kc:=((Cl.new w1 _ _).alloc _).below hb2 (by simp<;>omega);replace ka:=((ka.alloc _).alloc _).below hb2 (by have:=ka.lt;simp<;>omega);replace kb:=((kb.alloc _).alloc _).below hb2 (by have:=kb.lt;simp<;>omega);have x0:=ka.cell 0 _ rfl;have x1:=ka.cell 1 _ rfl;have x2:=ka.cell 2 _ rfl;have y0:=kc.cell 0 _ rfl;have y1:=kc.cell 1 _ rfl;have y2:=kc.cell 2 _ rfl;have y3:=kc.cell 3 _ rfl;have y4:=kc.cell 4 _ rfl)
    | (go_at_call 11;refine (hnw hg).mono ?_;rintro e w3 ⟨S,M,rfl,⟨hS,hM,hSM⟩,hso,hsm,hg3,hm3⟩;simp only [zas] at hB;clear x0 x1 x2 y0 y1 y2 y3 y4;have lw1:=hb1.size;have lkb:=kb.lt;simp only [zas] at lw1;replace kb:=kb.kept (hm3.block _ kb.lt (by show¬w.heap.size+1=B;omega));replace kc:=kc.kept (hm3.block _ kc.lt (by show¬w1.heap.size=B;omega));have y0:=kc.cell 0 _ rfl;have y1:=kc.cell 1 _ rfl;have y2:=kc.cell 2 _ rfl;have y3:=kc.cell 3 _ rfl;have y4:=kc.cell 4 _ rfl;have z0:=kb.cell 0 _ rfl;have z1:=kb.cell 1 _ rfl;have z2:=kb.cell 2 _ rfl;have z3:=kb.cell 3 _ rfl;have z4:=kb.cell 4 _ rfl;have f0:=kb.free 0;have f1:=kb.free 1;have f2:=kb.free 2;have f3:=kb.free 3;have f4:=kb.free 4)
    | go_in)
  have l1:=kb.lt;have hkb:=kb;clear ka kb kc;go_region;go_wp2_with fail;have k0:=((((hkb.set 0 (.bool true) (show 0<5 by decide)).set 1 (.int .i64 r.n) (show 1<5 by decide)).set 2 (.int .u64 r.d) (show 2<5 by decide)).set 3 (.int .u64 r.v) (show 3<5 by decide)).set 4 (.int .u64 r.c) (show 4<5 by decide);have hmv:=(((((Mv.refl (· =w.heap.size+1) w3).setCell (w.heap.size+1) 0 (.bool true) (.inl rfl)).setCell (w.heap.size+1) 1 (.int .i64 r.n) (.inl rfl)).setCell (w.heap.size+1) 2 (.int .u64 r.d) (.inl rfl)).setCell (w.heap.size+1) 3 (.int .u64 r.v) (.inl rfl)).setCell (w.heap.size+1) 4 (.int .u64 r.c) (.inl rfl);generalize (((((w3.setCell ⟨w.heap.size+1,0,none⟩ (.bool true)).setCell ⟨w.heap.size+1,1,none⟩ (.int .i64 r.n)).setCell ⟨w.heap.size+1,2,none⟩ (.int .u64 r.d)).setCell ⟨w.heap.size+1,3,none⟩ (.int .u64 r.v)).setCell ⟨w.heap.size+1,4,none⟩ (.int .u64 r.c))=w4 at k0 hmv ⊢;have hsz1:=hb1.size;have hsz2:=hb2.size;have hsz3:=hm3.size;simp only [zas] at hsz1 hsz2 hsz3 hP hL hBs;have hbw2:Below w.heap.size w w2:=(((((Below.refl _ w).alloc (Nat.le_refl _) _).alloc (by simp only [zas];omega) _).trans (hb1.mono (by simp only [zas];omega))).alloc (by omega) _).alloc (by simp only [zas];omega) _|>.trans (hb2.mono (by simp only [zas];omega));have hbw:Below w.heap.size w w3:=hbw2.trans ⟨hm3.os,hm3.tape,hm3.output,hm3.size,fun b hb=>hm3.block b (by omega) (by show¬b=B;omega)⟩;have hbl:=hbw.trans (hmv.below (base:=w.heap.size) (fun k hk=>by omega) hbw.size);refine bodyPost_ret (zrP rfl _ _ (w.heap.size+1) [.bool true,.int .i64 r.n,.int .u64 r.d,.int .u64 r.v,.int .u64 r.c] _ rfl (fun j v hv=>by rw [Nat.zero_add];exact k0.cell j v hv) underlying30 rfl (by kernel_rfl)) rfl ?_;have hlS:=hso.lt;have hlM:=hsm.lt;have hgp:=hg.pl;have hgl:=hg.ll;have hgs:=hg.sl;have hgb:=hg.bl;have hso4:=hso.kept (hmv.block S hlS (by omega));have hsm4:=hsm.kept (hmv.block M hlM (by omega));have hgm:=hg3.kept (fun k hk hk'=>hmv.block k hk (by omega)) hmv.size;refine ⟨S,P,L,Bs,B,M,rfl,(zsE hrk hso4 hsm4 hgm hSM (.inl rfl) (.inr (.inl rfl)) (.inr (.inr rfl)) (fun b hb=> ?_) (by decide) (by decide) ⟨by omega,by omega,by omega,by omega⟩ ⟨by omega,by omega,by omega,by omega⟩).below ((Below.refl _ w4).drew),hbl.drew,by omega,by omega,by omega,by omega,by omega,by omega⟩;have:=hmv.size;rcases hb with rfl|rfl|rfl<;>omega
open Go.ChangeShapes Go.WideShapes
structure Tryz.Tn where
 bk:Bool
 sv:Value
 sl:List Sg
 n:Int
 v:Int
def Tryz.Tn.cells (c:Tn):List Value:= [.bool c.bk,c.sv,.int .i64 c.n,.int .u32 c.v]
structure Tryz.Tn.ok (c:Tn) (w:World):Prop where
 sv:SegV (fun _=>False) w c.sv c.sl
 sn:c.sl.length<4000000000000000
 n: -9223372036854775808≤c.n∧c.n<9223372036854775808
 v:0≤c.v∧c.v<4294967296
structure Tryz.TnsV (w:World) (av:Value) (acts:List Tn):Prop where
 val: ∃aa c,av= .slice aa acts.length c∧(acts= []∨ ∃R o,aa=some ⟨R,o,none⟩∧ ∀i,(hi:i<acts.length)→w.rangeAt R (o+4*i) acts[i].cells)
 ok: ∀x∈acts,x.ok w
 len:acts.length<4000000000000000
section
variable {H:Type} {enc:TypeId×Value→H} {W:World} {sp:Nat→Bool} {held:Bool} {fuel:Nat}
set_option maxRecDepth 100000 in
theorem Tryz.ztw {cs:List Value} {x:DataW H×List MemPlace} (h:DataW.trod enc prog W 0 sp held fuel 89 cs=some x) (hw: ∀n∈x.1.weights prog 89,n≤reachBytes): ∃c:Tn,cs=c.cells∧c.ok W:=by
 obtain ⟨xs,n,rfl,rfl,hl,hx,hf⟩:=DataW.trod_struct underlying89 h;have hl:cs.length=4:=hl.trans (by kernel_rfl);have hx:xs.length=4:=hx
 match cs,hl with
 | [c0,c1,c2,c3],_=>
  have f0:DataW.trod enc prog W 0 sp held n 4 [c0]=xs[0]? :=by
   have:=(show DataW.trod enc prog W 0 sp held n 4 (([c0,c1,c2,c3].drop 0).take (prog.cellsOf 4))=xs[0]? from hf 0 _ rfl);rw [show prog.cellsOf 4=1 from by kernel_rfl] at this;exact this
  have f1:DataW.trod enc prog W 0 sp held n 49 [c1]=xs[1]? :=by
   have:=(show DataW.trod enc prog W 0 sp held n 49 (([c0,c1,c2,c3].drop 1).take (prog.cellsOf 49))=xs[1]? from hf 1 _ rfl);rw [show prog.cellsOf 49=1 from by kernel_rfl] at this;exact this
  have f2:DataW.trod enc prog W 0 sp held n 3 [c2]=xs[2]? :=by
   have:=(show DataW.trod enc prog W 0 sp held n 3 (([c0,c1,c2,c3].drop 2).take (prog.cellsOf 3))=xs[2]? from hf 2 _ rfl);rw [show prog.cellsOf 3=1 from by kernel_rfl] at this;exact this
  have f3:DataW.trod enc prog W 0 sp held n 50 [c3]=xs[3]? :=by
   have:=(show DataW.trod enc prog W 0 sp held n 50 (([c0,c1,c2,c3].drop 3).take (prog.cellsOf 50))=xs[3]? from hf 3 _ rfl);rw [show prog.cellsOf 50=1 from by kernel_rfl] at this;exact this
  rw [zgU (by omega)] at f0 f1 f2 f3;obtain ⟨gb,e0,_⟩:=DataW.trod_bool underlying4 f0;obtain ⟨n2,e2,_,w2⟩:=DataW.trod_int underlying3 f2;obtain ⟨n3,e3,_,w3⟩:=DataW.trod_int underlying50 f3;obtain ⟨sl,hsl,hsn⟩:=zpg f1 fun m hm=>hw m (by
   unfold DataW.weights;rw [underlying89];exact DataW.weights_mem_each (j:=1) (t:=49) (d:=xs[1].1) rfl (by rw [List.getElem?_map,zgU (by omega)];rfl) m hm)
  simp only [List.cons.injEq,and_true] at e0 e2 e3;subst e0 e2 e3;have b2:=bounds_i64 w2;have b3:=bounds_u32 w3;exact ⟨⟨gb,c1,sl,n2,n3⟩,rfl,hsl,hsn,⟨by show _≤n2;omega,by show n2<_;omega⟩,⟨by show 0≤n3;omega,by show n3<_;omega⟩⟩
theorem Tryz.zfU {e:TypeId}: ∀ {l:List (DataW H)} {d:DataW H},d∈l→ ∀n∈d.weights prog e,n∈DataW.weightsAll prog e l
 | x::r,d,h,n,hn=>by
  unfold DataW.weightsAll;rcases List.mem_cons.1 h with rfl|h
  ·exact List.mem_append_left _ hn
  ·exact List.mem_append_right _ (zfU h n hn)
set_option maxRecDepth 100000 in
theorem Tryz.tns_open {v:Value} {x:DataW H×List MemPlace} (h:DataW.trod enc prog W 0 sp held fuel 87 [v]=some x) (hw: ∀n∈x.1.weights prog 87,n≤reachBytes):
  ∃ l,TnsV W v l:=by
 rcases DataW.trod_slice underlying87 h with ⟨e,_⟩|⟨a,len,cap,elems,rest,n,rfl,e,rfl,_,hlc,hcap,hel,hc,_⟩
 ·simp only [List.cons.injEq,and_true] at e;subst e;exact ⟨[],⟨⟨none,0,rfl,.inl rfl⟩,fun x hx=>(by cases hx),by decide⟩⟩
 ·simp only [List.cons.injEq,and_true] at e;subst e;have hb:prog.bytesOf 89=48:=by kernel_rfl
  have hc9:prog.cellsOf 89=4:=by kernel_rfl
  have hws: ∀m,(m=(elems.length+rest.length)*48∨m∈DataW.weightsAll prog 89 (elems.map (·.1)))→m≤reachBytes:=fun m hm=>hw m (by
   unfold DataW.weights;rw [underlying87];simp only [List.length_map,hb,List.mem_cons,List.mem_append];rcases hm with hm|hm
   ·exact .inl hm
   ·exact .inr (.inl hm))
  have hsz:=hws _ (.inl rfl);unfold reachBytes at hsz;rw [hc9] at hc;obtain ⟨l,hll,hl⟩:=zqi (p:=fun i (s:Tn)=>W.cells? 0 (a.add (i*4)) 4=some s.cells∧s.ok W) len fun i hi=>by
   have:=hc i hi;rw [zgU (by omega)] at this;obtain ⟨cs,h1,h2⟩:=Option.bind_eq_some_iff.1 this;obtain ⟨s,rfl,hs⟩:=ztw h2 fun m hm=>hws m (.inr (zfU (List.mem_map.2 ⟨_,List.getElem_mem _,rfl⟩) m hm));exact ⟨s,h1,hs⟩
  subst hll;refine ⟨l,⟨⟨some a,cap,rfl,?_⟩,fun s hs=> ?_,by omega⟩⟩
  ·by_cases h0:l= []
   ·exact .inl h0
   ·right;obtain ⟨ab,ao,aq⟩:=a;have hp:0<l.length:=List.length_pos_iff.2 h0;have hs:aq=none:=cell_spot ((World.cells?_some (hl 0 hp).1).2.2 0 (by decide));subst hs;refine ⟨ab,ao,rfl,fun i hi j y hy=> ?_⟩;have hj:j<4:=by
     have:=List.getElem?_eq_some_iff.1 hy;simpa [Tn.cells] using this.1
    have:=(World.cells?_some (hl i hi).1).2.2 j hj;rw [hy,addr_add,addr_add] at this;rw [show ao+4*i+j=ao+i*4+j by omega];exact this
  ·obtain ⟨i,hi,rfl⟩:=List.mem_iff_getElem.1 hs;exact (hl i hi).2
end
end Go.Proofs
namespace Go.Proofs
set_option maxRecDepth 100000 in
theorem Tryz.zhv {t:Array Value} (h:t.size=314) {v0 v2 v4 v8 v9 v10 v12 v13 v14 v15 v16 v17:Value} (h0:t.getD 0 undef=v0) (h2:t.getD 2 undef=v2) (h4:t.getD 4 undef=v4) (h8:t.getD 8 undef=v8) (h9:t.getD 9 undef=v9) (h10:t.getD 10 undef=v10) (h12:t.getD 12 undef=v12) (h13:t.getD 13 undef=v13) (h14:t.getD 14 undef=v14) (h15:t.getD 15 undef=v15) (h16:t.getD 16 undef=v16) (h17:t.getD 17 undef=v17):
  ∃ j:Nat→Value,t= #[v0,j 1,v2,j 3,v4,j 5,j 6,j 7,v8,v9,v10,j 11,v12,v13,v14,v15,v16,v17,j 18,j 19,j 20,j 21,j 22,j 23,j 24,j 25,j 26,j 27,j 28,j 29,j 30,j 31,j 32,j 33,j 34,j 35,j 36,j 37,j 38,j 39,j 40,j 41,j 42,j 43,j 44,j 45,j 46,j 47,j 48,j 49,j 50,j 51,j 52,j 53,j 54,j 55,j 56,j 57,j 58,j 59,j 60,j 61,j 62,j 63,j 64,j 65,j 66,j 67,j 68,j 69,j 70,j 71,j 72,j 73,j 74,j 75,j 76,j 77,j 78,j 79,j 80,j 81,j 82,j 83,j 84,j 85,j 86,j 87,j 88,j 89,j 90,j 91,j 92,j 93,j 94,j 95,j 96,j 97,j 98,j 99,j 100,j 101,j 102,j 103,j 104,j 105,j 106,j 107,j 108,j 109,j 110,j 111,j 112,j 113,j 114,j 115,j 116,j 117,j 118,j 119,j 120,j 121,j 122,j 123,j 124,j 125,j 126,j 127,j 128,j 129,j 130,j 131,j 132,j 133,j 134,j 135,j 136,j 137,j 138,j 139,j 140,j 141,j 142,j 143,j 144,j 145,j 146,j 147,j 148,j 149,j 150,j 151,j 152,j 153,j 154,j 155,j 156,j 157,j 158,j 159,j 160,j 161,j 162,j 163,j 164,j 165,j 166,j 167,j 168,j 169,j 170,j 171,j 172,j 173,j 174,j 175,j 176,j 177,j 178,j 179,j 180,j 181,j 182,j 183,j 184,j 185,j 186,j 187,j 188,j 189,j 190,j 191,j 192,j 193,j 194,j 195,j 196,j 197,j 198,j 199,j 200,j 201,j 202,j 203,j 204,j 205,j 206,j 207,j 208,j 209,j 210,j 211,j 212,j 213,j 214,j 215,j 216,j 217,j 218,j 219,j 220,j 221,j 222,j 223,j 224,j 225,j 226,j 227,j 228,j 229,j 230,j 231,j 232,j 233,j 234,j 235,j 236,j 237,j 238,j 239,j 240,j 241,j 242,j 243,j 244,j 245,j 246,j 247,j 248,j 249,j 250,j 251,j 252,j 253,j 254,j 255,j 256,j 257,j 258,j 259,j 260,j 261,j 262,j 263,j 264,j 265,j 266,j 267,j 268,j 269,j 270,j 271,j 272,j 273,j 274,j 275,j 276,j 277,j 278,j 279,j 280,j 281,j 282,j 283,j 284,j 285,j 286,j 287,j 288,j 289,j 290,j 291,j 292,j 293,j 294,j 295,j 296,j 297,j 298,j 299,j 300,j 301,j 302,j 303,j 304,j 305,j 306,j 307,j 308,j 309,j 310,j 311,j 312,j 313]:=by
 subst h0 h2 h4 h8 h9 h10 h12 h13 h14 h15 h16 h17;obtain ⟨l⟩:=t;exact ⟨fun i=>(⟨l⟩:Array Value).getD i undef,zkY l h⟩
open Go.Dw Go.RowKit Go.Maps Go.Sort Go.Deep
structure Tryz.Hd where
 X4:Nat
 S:Nat
 P:Nat
 L:Nat
 Bs:Nat
 B:Nat
 I:Nat
 X10:Nat
 X13:Nat
 X14:Nat
structure Tryz.Hd.ok (d:Hd) (n0:Nat):Prop where
 ex: ∃n1 n2,n0≤d.X4∧d.X4<n1∧(n1≤d.S∧n1≤d.P∧n1≤d.L∧n1≤d.Bs∧n1≤d.B∧n1≤d.I)∧(d.S<n2∧d.P<n2∧d.L<n2∧d.Bs<n2∧d.B<n2∧d.I<n2)∧n2≤d.X10∧d.X10<d.X13∧d.X13<d.X14
def Tryz.hoA (d:Hd) (ov:Value) (b:Nat):Prop:=dK d.S d.I d.B b∨b=d.X13∨b=d.X14∨ov.ownBlock=some b
structure Tryz.HoW (W0:World) (n:Nat) (ev tb pk:Bool) (d:Hd) (r:Rg) (w:World) (s:DS) (g:Nat→Int) (ov:Value) (q13 q14:List Value) (M:List DO):Prop where
 dr:DW (hoA d ov) w d.S d.P d.L d.Bs d.B d.I 60000 r s g
 x4:Cl w d.X4 [.bool ev,.bool tb,.bool pk]
 x10:Cl w d.X10 (zpt n)
 x13:Cl w d.X13 q13
 x14:Cl w d.X14 q14
 row: ∃t,OwnR t 3 w (d.X14+1) ov M.length (zap M)
 old:Below W0.heap.size W0 w
 ok:d.ok W0.heap.size
section
variable {W0:World} {n:Nat} {ev tb pk:Bool} {d:Tryz.Hd} {r:Tryz.Rg} {w w':World} {s s':Tryz.DS} {g g':Nat→Int} {ov ov':Value} {q13 q14 q13' q14':List Value} {M M':List Tryz.DO}
theorem Tryz.HoW.below (h:HoW W0 n ev tb pk d r w s g ov q13 q14 M) (hb:Below w.heap.size w w'):HoW W0 n ev tb pk d r w' s g ov q13 q14 M:=by
 obtain ⟨t,hrow⟩:=h.row;exact ⟨h.dr.below hb,h.x4.below hb h.x4.lt,h.x10.below hb h.x10.lt,h.x13.below hb h.x13.lt,h.x14.below hb h.x14.lt,⟨t,OwnR.keepD hrow hb⟩,h.old.trans (hb.mono h.old.size),h.ok⟩
theorem Tryz.HoW.kept (h:HoW W0 n ev tb pk d r w s g ov q13 q14 M) (hm:Dw.Mv (dK d.S d.I d.B) w w'): ∀b,b<w.heap.size→(b<d.S∧b<d.I∧b<d.B)∨d.X10≤b→w'.heap[b]? =w.heap[b]? :=fun b hb hh=>by
 obtain ⟨n1,n2,q1,q2,⟨q3,q4,q5,q6,q7,q8⟩,⟨q9,q10,q11,q12,q13,q14⟩,q15,q16,q17⟩:=h.ok.ex;exact hm.block b hb (by rintro (e|e|e)<;>omega)
theorem Tryz.HoW.turn (h:HoW W0 n ev tb pk d r w s g ov q13 q14 M) (hd:DW (hoA d ov) w' d.S d.P d.L d.Bs d.B d.I 60000 r s' g') (hm:Dw.Mv (dK d.S d.I d.B) w w'):HoW W0 n ev tb pk d r w' s' g' ov q13 q14 M:=by
 have hk:=h.kept hm;obtain ⟨n1,n2,q1,q2,⟨q3,q4,q5,q6,q7,q8⟩,⟨q9,q10,q11,q12,q13,q14⟩,q15,q16,q17⟩:=h.ok.ex;obtain ⟨t,hrow⟩:=h.row;refine ⟨hd,h.x4.kept (hk _ h.x4.lt (.inl ⟨by omega,by omega,by omega⟩)),h.x10.kept (hk _ h.x10.lt (.inr (by omega))),h.x13.kept (hk _ h.x13.lt (.inr (by omega))),h.x14.kept (hk _ h.x14.lt (.inr (by omega))),⟨t,OwnR.kept hrow fun b e=> ?_⟩,⟨hm.os.trans h.old.os,hm.tape.trans h.old.tape,hm.output.trans h.old.output,Nat.le_trans h.old.size hm.size,fun b hb=>(hk b (Nat.lt_of_lt_of_le hb h.old.size) (.inl ⟨by omega,by omega,by omega⟩)).trans (h.old.block b hb)⟩,h.ok⟩;have:=OwnR.lt hrow b e;exact hk b this.2 (.inr (by omega))
theorem Tryz.HoW.mine (h:HoW W0 n ev tb pk d r w s g ov q13 q14 M) {K:Nat→Prop} (hm:Dw.Mv K w w') (hK: ∀b,K b→b=d.X13∨b=d.X14∨ov.ownBlock=some b) (hv: ∀b,ov'.ownBlock=some b→ov.ownBlock=some b∨w.heap.size≤b) (hlt: ∀b,ov'.ownBlock=some b→b<w'.heap.size):DW (hoA d ov') w' d.S d.P d.L d.Bs d.B d.I 60000 r s g:=by
 obtain ⟨n1,n2,q1,q2,⟨q3,q4,q5,q6,q7,q8⟩,⟨q9,q10,q11,q12,q13,q14⟩,q15,q16,q17⟩:=h.ok.ex;obtain ⟨t,hrow⟩:=h.row;have hne: ∀b,K b→d.X10<b:=fun b hb=>by
  rcases hK b hb with e|e|e
  ·omega
  ·omega
  ·have:=(OwnR.lt hrow b e).1;omega
 have hs:=hm.size;have l13:=h.x13.lt;have l14:=h.x14.lt;refine h.dr.keepA (K:=K) (fun b hb q=> ?_) (.inl (.inl rfl)) (.inl (.inr (.inl rfl))) (.inl (.inr (.inr rfl))) (fun b q=> ?_) hm (fun b q=> .inr (hK b q)) ⟨fun e=>by have:=hne _ e;omega,fun e=>by have:=hne _ e;omega,fun e=>by have:=hne _ e;omega,fun e=>by have:=hne _ e;omega,fun e=>by have:=hne _ e;omega,fun e=>by have:=hne _ e;omega⟩
 ·rcases q with q|q|q|q
  ·exact .inl q
  ·exact .inr (.inl q)
  ·exact .inr (.inr (.inl q))
  ·rcases hv b q with e|e
   ·exact .inr (.inr (.inr e))
   ·omega
 ·rcases q with q|q|q|q
  ·have:=h.dr.mono;rcases q with rfl|rfl|rfl<;>omega
  ·omega
  ·omega
  ·exact hlt b q
theorem Tryz.HoW.x10l (h:HoW W0 n ev tb pk d r w s g ov q13 q14 M):W0.heap.size≤d.X4∧d.X4<d.X10∧d.X10<d.X13∧d.X13<d.X14:=by
 obtain ⟨n1,n2,q1,q2,⟨q3,q4,q5,q6,q7,q8⟩,⟨q9,q10,q11,q12,q13,q14⟩,q15,q16,q17⟩:=h.ok.ex;exact ⟨q1,by omega,q16,q17⟩
theorem Tryz.HoW.set14 (h:HoW W0 n ev tb pk d r w s g ov q13 q14 M) (hm:Dw.Mv (· =d.X14) w w') (hk:Cl w' d.X14 q14'):HoW W0 n ev tb pk d r w' s g ov q13 q14' M:=by
 obtain ⟨e1,e2,e3,e4⟩:=h.x10l;obtain ⟨t,hrow⟩:=h.row;have hl:=fun b e=>OwnR.lt hrow b e;exact ⟨h.mine hm (fun b e=> .inr (.inl e)) (fun b e=> .inl e) (fun b e=>Nat.lt_of_lt_of_le (hl b e).2 hm.size),h.x4.kept (hm.block _ h.x4.lt (by show¬d.X4=d.X14;omega)),h.x10.kept (hm.block _ h.x10.lt (by show¬d.X10=d.X14;omega)),h.x13.kept (hm.block _ h.x13.lt (by show¬d.X13=d.X14;omega)),hk,⟨t,OwnR.kept hrow fun b e=>hm.block b (hl b e).2 (by have:=(hl b e).1;show¬b=d.X14;omega)⟩,
  ⟨hm.os.trans h.old.os,hm.tape.trans h.old.tape,hm.output.trans h.old.output,Nat.le_trans h.old.size hm.size,fun b hb=>(hm.block b (Nat.lt_of_lt_of_le hb h.old.size) (by show¬b=d.X14;omega)).trans (h.old.block b hb)⟩,h.ok⟩
theorem Tryz.HoW.set13 (h:HoW W0 n ev tb pk d r w s g ov q13 q14 M) (hm:Dw.Mv (· =d.X13) w w') (hk:Cl w' d.X13 q13'):HoW W0 n ev tb pk d r w' s g ov q13' q14 M:=by
 obtain ⟨e1,e2,e3,e4⟩:=h.x10l;obtain ⟨t,hrow⟩:=h.row;have hl:=fun b e=>OwnR.lt hrow b e;exact ⟨h.mine hm (fun b e=> .inl e) (fun b e=> .inl e) (fun b e=>Nat.lt_of_lt_of_le (hl b e).2 hm.size),h.x4.kept (hm.block _ h.x4.lt (by show¬d.X4=d.X13;omega)),h.x10.kept (hm.block _ h.x10.lt (by show¬d.X10=d.X13;omega)),hk,h.x14.kept (hm.block _ h.x14.lt (by show¬d.X14=d.X13;omega)),⟨t,OwnR.kept hrow fun b e=>hm.block b (hl b e).2 (by have:=(hl b e).1;show¬b=d.X13;omega)⟩,
  ⟨hm.os.trans h.old.os,hm.tape.trans h.old.tape,hm.output.trans h.old.output,Nat.le_trans h.old.size hm.size,fun b hb=>(hm.block b (Nat.lt_of_lt_of_le hb h.old.size) (by show¬b=d.X13;omega)).trans (h.old.block b hb)⟩,h.ok⟩
theorem Tryz.HoW.setO (h:HoW W0 n ev tb pk d r w s g ov q13 q14 M) (hm:Dw.Mv (fun b=>ov.ownBlock=some b) w w') {t:TypeId} (hr:OwnR t 3 w' (d.X14+1) ov' M'.length (zap M')) (hv: ∀b,ov'.ownBlock=some b→ov.ownBlock=some b∨w.heap.size≤b):HoW W0 n ev tb pk d r w' s g ov' q13 q14 M':=by
 obtain ⟨e1,e2,e3,e4⟩:=h.x10l;obtain ⟨t0,hrow⟩:=h.row;have hl:=fun b e=>OwnR.lt hrow b e;have hn: ∀b,b≤d.X14→ ¬ov.ownBlock=some b:=fun b hb e=>by have:=(hl b e).1;omega
 exact ⟨h.mine hm (fun b e=> .inr (.inr e)) hv (fun b e=>(OwnR.lt hr b e).2),h.x4.kept (hm.block _ h.x4.lt (hn _ (by omega))),h.x10.kept (hm.block _ h.x10.lt (hn _ (by omega))),h.x13.kept (hm.block _ h.x13.lt (hn _ (by omega))),h.x14.kept (hm.block _ h.x14.lt (hn _ (Nat.le_refl _))),⟨t,hr⟩,
  ⟨hm.os.trans h.old.os,hm.tape.trans h.old.tape,hm.output.trans h.old.output,Nat.le_trans h.old.size hm.size,fun b hb=>(hm.block b (Nat.lt_of_lt_of_le hb h.old.size) (hn _ (by omega))).trans (h.old.block b hb)⟩,h.ok⟩
end
end Go.Proofs
namespace Go.Proofs
open Go.Dw Go.RowKit Go.Maps Go.Sort Go.Deep
def Tryz.posL (n a:Int) (x:Bool) (k:Nat):List (Int×Bool):=(List.range k).map (posN n a x)
theorem Tryz.zr9 (n a:Int) (x:Bool) (k:Nat):(posL n a x k).length=k:=by simp [posL]
theorem Tryz.zpR (n a:Int) (x:Bool) (k:Nat):zbk (posL n a x (k+1))=zbk (posL n a x k)++ [.int .i64 (posN n a x k).1,.bool (posN n a x k).2]:=by
 unfold posL zbk;rw [List.range_succ,List.map_append,List.flatMap_append];simp
set_option maxRecDepth 100000 in
theorem Tryz.zuv:(prog.info? 64).map (fun i=>(i.zero,i.size,i.bytes))=some (some (.agg #[.int .i64 0,.bool false]),2,16):=by kernel_rfl
set_option maxRecDepth 100000 in
theorem Tryz.zsy:(prog.info? 139).map (fun i=>(i.zero,i.size,i.bytes))=some (some (.agg #[.int .i64 0,.int .u64 0,.int .u32 0,.int .u16 0,.int .u16 0]),5,24):=by kernel_rfl
theorem Tryz.zih (id:Int) (ps:List (Int×Bool)) (l:List Sg): ∀(n k:Nat),k<n→ ∀j,j<6→(zdg id ps l n)[k*6+j]? =(zdR id ps l k)[j]?
 | 0,k,hk,_,_=>absurd hk (Nat.not_lt_zero _)
 | n+1,k,hk,j,hj=>by
  have hlen: ∀m,(zdg id ps l m).length=m*6:=fun m=>by
   induction m with
   | zero=>rfl
   | succ m ih=>rw [zdQ,List.length_append,ih];simp [zdR];omega
  rw [zdQ];by_cases hkn:k<n
  ·rw [List.getElem?_append_left (by rw [hlen];omega)];exact zih id ps l n k hkn j hj
  ·have hq:k=n:=by omega
   subst hq;rw [List.getElem?_append_right (by rw [hlen];omega),hlen,show k*6+j-k*6=j by omega]
set_option maxRecDepth 100000 in
theorem Tryz.zlX {A:Nat→Prop} {w:World} {v:Value} {l:List Sg} {n id a:Int} {x:Bool} (h:SegV A w v l) (he:zbc l=0) (hn:1≤n∧n≤16) (hln:(l.length:Int)≤n) (ha:0≤a∧a<n) (hid:0≤id∧id<n):
    Calls prog 68 #[posV a x,.int .i64 n,.int .i64 id,v] w fun e w'=>(∃u t,e= .returned (.tuple #[u,.int .i64 0])∧OwnR t 5 w' w.heap.size u (ppTo n id a x l l.length).length (zaQ (ppTo n id a x l l.length)))∧Below w.heap.size w w':=by
  have hv:=h;have hl0:0<l.length:=by
    unfold zbc at he;by_cases q:l.length=0
    · rw [if_pos q] at he;split at he
      · rename_i z;exact absurd he z
      · cases he
    · omega
  have hck:=fun w'=>zmt (n:=n) (x:=x) ⟨hn.1,by omega⟩ ha.1 w';simp only [if_pos ha.2] at hck;have h0:decide (id<0)=false:=decide_eq_false (by omega);have h1:decide (n≤id)=false:=decide_eq_false (by omega);have h2:decide (n<(l.length:Int))=false:=decide_eq_false (by omega);have hb2:=((Below.refl w.heap.size w).alloc (Nat.le_refl _) (Obj.cells #[.int .i64 a,.bool x] 64)).alloc (by simp) (Obj.cells #[.int .i64 id] 3);have k4:=(Cl.new w #[.int .i64 a,.bool x] 64).alloc (Obj.cells #[.int .i64 id] 3);have k6:=Cl.new2 (w:=(w.alloc (Obj.cells #[.int .i64 a,.bool x] 64))) (b:=w.heap.size+1) (arr:= #[.int .i64 id]) (t:=3) (by simp);have hv2:SegV A ((w.alloc (Obj.cells #[.int .i64 a,.bool x] 64)).alloc (Obj.cells #[.int .i64 id] 3)) v l:=h.below hb2;obtain ⟨sa,c,rfl,hok,hr⟩:=h;replace hok:HidP (∀x∈l,x.ok):=⟨hok⟩;clear hr;replace hv:HidP _:=⟨hv⟩;replace he:HidP _:=⟨he⟩;unfold posV at hck ⊢;go_enter func68,ntmps68;go_wp2_with fail;generalize ((w.alloc (Obj.cells #[.int .i64 a,.bool x] 64)).alloc (Obj.cells #[.int .i64 id] 3))=w2 at*;have hbd:=(Below.refl w2.heap.size w2).drew;have d4:=k4.below hbd k4.lt;have d6:=k6.below hbd k6.lt;have x0:=k4.cell 0 _ rfl;have x1:=k4.cell 1 _ rfl;have x6:=k6.cell 0 _ rfl;have z0:=d4.cell 0 _ rfl;have z1:=d4.cell 1 _ rfl;have z6:=d6.cell 0 _ rfl;go_region_held3 (fun w'=>w'.cell? ⟨w.heap.size,0,none⟩=some (.int .i64 a)∧w'.cell? ⟨w.heap.size,1,none⟩=some (.bool x)∧w'.cell? ⟨w.heap.size+1,0,none⟩=some (.int .i64 id)) (go_keep)
    ((first
      | (go_at_call 112;refine (ziN _ _ rfl).mono ?_;rintro en w3 ⟨rfl,hw3⟩;have hb3:Below w2.drew.heap.size w2.drew w3:=(by rw [hw3];exact (Below.refl _ _).alloc (Nat.le_refl _) _);have kB:Cl w3 w2.drew.heap.size [.slice sa l.length c]:=(by rw [hw3];exact Cl.new _ _ _);clear hw3;have p4:=d4.below hb3 d4.lt;have p6:=d6.below hb3 d6.lt;have y0:=p4.cell 0 _ rfl;have y1:=p4.cell 1 _ rfl;have y6:=p6.cell 0 _ rfl)
      | (go_at_call 109;refine (hck _).mono ?_;rintro en w4 ⟨rfl,hb4⟩;have kB4:=kB.below hb4 kB.lt;have q4:=p4.below hb4 p4.lt;have q6:=p6.below hb4 p6.lt;have v0:=q4.cell 0 _ rfl;have v1:=q4.cell 1 _ rfl;have v6:=q6.cell 0 _ rfl)
      | (go_at_call 108;refine (zeQ _ false).mono ?_;rintro en w5 ⟨rfl,hw5⟩;have hb5:Below w4.heap.size w4 w5:=(by rw [hw5];exact (Below.refl _ _).alloc (Nat.le_refl _) _);have kW:Cl w5 w4.heap.size [.bool false]:=(by rw [hw5];exact Cl.new _ _ _);clear hw5;have hbF:=(Below.refl w5.heap.size w5).alloc (Nat.le_refl _) (Obj.cells #[(FnE.mk true w2.drew.heap.size).val,(FnE.mk false w4.heap.size).val] 57);have kF:=Cl.new w5 #[(FnE.mk true w2.drew.heap.size).val,(FnE.mk false w4.heap.size).val] 57;have kB5:=kB4.below hb5 kB4.lt;have kB6:=kB5.below hbF kB5.lt;have kW6:=kW.below hbF kW.lt;have r4:=q4.below hb5 q4.lt;have r6:=q6.below hb5 q6.lt;have s4:=r4.below hbF r4.lt;have s6:=r6.below hbF r6.lt;have u0:=r4.cell 0 _ rfl;have u1:=r4.cell 1 _ rfl;have u6:=r6.cell 0 _ rfl;have t0:=s4.cell 0 _ rfl;have t1:=s4.cell 1 _ rfl;have t6:=s6.cell 0 _ rfl;have hsz:w.heap.size≤w2.heap.size:=(by have:=k4.lt;omega);have hb25:Below w2.heap.size w2 (w5.alloc (Obj.cells #[(FnE.mk true w2.drew.heap.size).val,(FnE.mk false w4.heap.size).val] 57)):=(((hbd.trans hb3).trans (hb4.mono hb3.size)).trans (hb5.mono (Nat.le_trans hb3.size hb4.size))).trans (hbF.mono (Nat.le_trans hb3.size (Nat.le_trans hb4.size hb5.size)));have hv6:=hv2.below hb25;have hfi:=zqJ (R:=w5.heap.size) kB6 hv6 he.out kW6 (fun j y hy=>by rw [Nat.zero_add];exact kF.cell j y hy) (by simp))
      | (go_at_call 107;refine hfi.mono ?_;rintro en w7 ⟨rfl,hb7⟩;have m4:=s4.below hb7 s4.lt;have m6:=s6.below hb7 s6.lt;have n0:=m4.cell 0 _ rfl;have n1:=m4.cell 1 _ rfl;have n6:=m6.cell 0 _ rfl)))
  all_goals
    have hb27:=hb25.trans (hb7.mono hb25.size);have hbw7:=hb2.trans (hb27.mono (by have:=k4.lt;omega));clear x0 x1 x6 z0 z1 z6 y0 y1 y6 v0 v1 v6 u0 u1 u6 t0 t1 t6 n0 n1 n6 hfi hck;obtain ⟨ip,hip,p1,p2,p3⟩:=info_parts zuv;obtain ⟨iq,hiq,g1,g2,g3⟩:=info_parts zsy;have hz7:w.heap.size+1<w7.heap.size:=by have:=hb27.size;have:=k6.lt;omega
    have hok2: ∀(k:Nat) (hk:k<l.length),l[k].ok:=fun k hk=>hok.out _ (List.getElem_mem hk);have hn1:1≤n∧n≤32768:=⟨hn.1,by omega⟩;go_wp2_with fail;go_loopw [44] (fun y wr=> ∃(q:Nat) (v:Value),q≤l.length∧y= .int .i64 q∧Cl wr w.heap.size [.int .i64 (posN n a x q).1,.bool (posN n a x q).2]∧Cl wr (w.heap.size+1) [.int .i64 id]∧Cl wr w7.heap.size [v]∧OwnR 64 2 wr (w7.heap.size+1) v q (zbk (posL n a x q))∧Below w.heap.size w wr) (fun y _=>l.length-(RowKit.intOf y).toNat)
    case atStart=>
      have hbA:=(Below.refl w7.heap.size w7).alloc (Nat.le_refl _) (Obj.cells #[.slice none 0 0] 183);exact ⟨0,_,Nat.zero_le _,rfl,m4.below hbA m4.lt,m6.below hbA m6.lt,Cl.new w7 #[.slice none 0 0] 183,by simpa [posL,zbk] using OwnR.nil 64 2 _ (w7.heap.size+1),hbw7.trans (hbA.mono hbw7.size)⟩
    case round=>
      obtain ⟨q,cv,hq,rfl,c4,c6,c11,ho,hb⟩:=hrel;by_cases hqn:q<l.length
      · have hqn':(q:Int)<l.length:=by omega
        have hin:=zg6 (n:=n) (a:=a) (x:=x) ha q;have hgo:=fun w'=>zqA (n:=n) (a:=(posN n a x q).1) (c:=1) (x:=(posN n a x q).2) hn1 hin ⟨by decide,hn.1⟩ w';have hsuc:=zpR n a x q;obtain ⟨u,hu⟩: ∃u,u=posN n a x (q+1):=⟨_,rfl⟩;have hgo2:zaH n (posN n a x q).1 (posN n a x q).2 1=u:=hu.symm;rw [hgo2] at hgo;replace hu:HidP _:=⟨hu⟩;clear hgo2;generalize (posN n a x q).1=pa at*;generalize (posN n a x q).2=px at*;unfold posV at hgo;have hol:=OwnR.lt ho;have hrs:w7.heap.size<wr.heap.size:=c11.lt;have hbn:=(Below.refl wr.heap.size wr).alloc (Nat.le_refl _) (Obj.cells #[.int .i64 pa,.bool px] 64);have ho2:=OwnR.kept ho (w':=wr.alloc (Obj.cells #[.int .i64 pa,.bool px] 64)) fun b e=>hbn.block b (hol b e).2;have kn:=Cl.new wr #[.int .i64 pa,.bool px] 64;have hnews: ∀j u,([.int .i64 pa,.bool px]:List Value)[j]? =some u→(wr.alloc (Obj.cells #[.int .i64 pa,.bool px] 64)).cell? ((⟨wr.heap.size,0,none⟩:Addr).add j)=some u:=fun j u hu=>by
          rw [Dw.addr_add];exact kn.cell (0+j) u (by rw [Nat.zero_add];exact hu)
        have x40:=c4.cell 0 _ rfl;have x41:=c4.cell 1 _ rfl;have x11:=c11.cell 0 _ rfl;have hlt4:=c4.lt;have hlt6:=c6.lt;clear hqn hin;go_wp2_with (first
          | (at_builtin;go_loud (refine wpList_append_own_at _ rfl _ _ 183 rfl (w7.heap.size+1) 64 ip _ 2 16 (by kernel_rfl) hip p1 p2 p3 rfl (by decide) cv q (zbk (posL n a x q)) rfl ho2 ⟨wr.heap.size,0,none⟩ 1 1 [.int .i64 pa,.bool px] rfl rfl hnews (by intro y hy;simp only [List.mem_cons,List.not_mem_nil,or_false] at hy;rcases hy with rfl|rfl<;>rfl) (by unfold maxLen;omega) (by omega) (by simp;omega) ?_);intro v2 w9 h2 h3 h4 h5;obtain ⟨sa2,cx2,hvx,hjunk⟩:=OwnR.row (show OwnR 64 2 w9 (w7.heap.size+1) v2 (q+1) _ from h2);clear hjunk;subst hvx;have hgb: ∀b,b<(wr.alloc (Obj.cells #[.int .i64 pa,.bool px] 64)).heap.size→b≤w7.heap.size→w9.heap[b]? =(wr.alloc (Obj.cells #[.int .i64 pa,.bool px] 64)).heap[b]? :=fun b hb1 hb2=>h3.block b hb1 fun e=>by have:=(hol b e.symm).1;omega
             have e4:=(c4.below hbn c4.lt).kept (w':=w9) (hgb _ (c4.below hbn c4.lt).lt (by omega));have e6:=(c6.below hbn c6.lt).kept (w':=w9) (hgb _ (c6.below hbn c6.lt).lt (by omega));have e11:=(c11.below hbn c11.lt).kept (w':=w9) (hgb _ (c11.below hbn c11.lt).lt (Nat.le_refl _));have y40:=e4.cell 0 _ rfl;have y41:=e4.cell 1 _ rfl;have y11:=e11.cell 0 _ rfl;have f11:=e11.free 0;have i11:=e11.set 0 (Value.slice sa2 (q+1) cx2) (by simp);have hmA:=zaj (K:=(· =w7.heap.size)) (Dw.Mv.refl (· =w7.heap.size) w9) w7.heap.size 0 (Value.slice sa2 (q+1) cx2) rfl;have i4:=e4.kept (hmA.block _ e4.lt (by show¬w.heap.size=w7.heap.size;omega));have i6:=e6.kept (hmA.block _ e6.lt (by show¬w.heap.size+1=w7.heap.size;omega));have z40:=i4.cell 0 _ rfl;have z41:=i4.cell 1 _ rfl;go_frame)
          | (go_at_call 113;refine (hgo _).mono ?_;rintro en w10 ⟨rfl,hb10⟩;have n4:=i4.below hb10 i4.lt;have n6:=i6.below hb10 i6.lt;have n11:=i11.below hb10 i11.lt;have a40:=n4.cell 0 _ rfl;have a41:=n4.cell 1 _ rfl;have f40:=n4.free 0;have f41:=n4.free 1)
          | go_in)
        have o4:=(n4.set 0 (.int .i64 u.1) (by simp)).set 1 (.bool u.2) (by simp);have hmB:=zaj (zaj (Dw.Mv.refl (· =w.heap.size) w10) w.heap.size 0 (.int .i64 u.1) rfl) w.heap.size 1 (.bool u.2) rfl;have o6:=n6.kept (hmB.block _ n6.lt (by show¬w.heap.size+1=w.heap.size;omega));have o11:=n11.kept (hmB.block _ n11.lt (by show¬w7.heap.size=w.heap.size;omega));have hl2: ∀b,(Value.slice sa2 (q+1) cx2).ownBlock=some b→w7.heap.size+1≤b∧b<w9.heap.size:=OwnR.lt h2;have ho3:=OwnR.kept (show OwnR 64 2 w9 (w7.heap.size+1) (.slice sa2 (q+1) cx2) (q+1) _ from h2) (w':=(w10.setCell ⟨w.heap.size,0,none⟩ (.int .i64 u.1)).setCell ⟨w.heap.size,1,none⟩ (.bool u.2)) fun b e=>by
          have:=hl2 b e;exact (hmB.block b (by have:=hb10.size;simp at this;omega) (by show¬b=w.heap.size;omega)).trans ((hb10.block b (by simp;omega)).trans (hmA.block b this.2 (by show¬b=w7.heap.size;omega)))
        have hbg:Below w.heap.size w w9:=by
          have h9:=hb.trans (hbn.mono hb.size);exact ⟨h3.os.trans h9.os,h3.tape.trans h9.tape,h3.output.trans h9.output,Nat.le_trans h9.size h3.size,fun b hh=>(hgb b (Nat.lt_of_lt_of_le hh h9.size) (by omega)).trans (h9.block b hh)⟩
        have hmf:Dw.Mv (fun _=>False) w ((w10.setCell ⟨w.heap.size,0,none⟩ (.int .i64 u.1)).setCell ⟨w.heap.size,1,none⟩ (.bool u.2)):=zai (zai ((zai (zaa (K:=fun _=>False) hbg) w7.heap.size 0 (Value.slice sa2 (q+1) cx2) (.inr (by omega))).trans (zaa hb10)) w.heap.size 0 _ (.inr (Nat.le_refl _))) w.heap.size 1 _ (.inr (Nat.le_refl _));exact ⟨⟨q+1,.slice sa2 (q+1) cx2,by omega,by push_cast;rfl,by rw [←hu.out];exact o4,o6,o11,by rw [hsuc];exact ho3,zbu hmf⟩,by simp only [RowKit.intOf];omega⟩
      · have hqq:q=l.length:=by omega
        subst hqq;have hpl:=zr9 n a x l.length;obtain ⟨sa1,c1,rfl,hrow⟩:=OwnR.row ho;obtain ⟨G,rfl,hGo,hG⟩:=hrow.resolve_left (by intro e;have:=congrArg List.length e;rw [zdP,hpl] at this;simp only [List.length_nil] at this;omega);have hGl:=(OwnR.lt ho G hGo).2;have hvr:=hv.out.below hb;have hch:=zoN (c2:=c1) (G:=G) (id:=id) (ps:=posL n a x l.length) hvr (by omega) ⟨hid.1,by omega⟩ hpl c6 (by rw [hpl];exact c11) hG;clear hrow;go_wp2_with (first
          | (go_at_call 114;refine hch.mono ?_;rintro en w9 ⟨⟨u,tu,rfl,hu⟩,hb9⟩;obtain ⟨su,cu,rfl,hurow⟩:=OwnR.row hu)
          | go_in)
        have hpk:HidP (∀(k:Nat) (hk:k<l.length) (j:Nat),j<6→(zdg id (posL n a x l.length) l l.length)[k*6+j]? =(zdR id (posL n a x l.length) l k)[j]?):=⟨fun k hk j hj=>zih id _ l l.length k hk j hj⟩;obtain ⟨Gu,rfl,hGuo,hGu⟩:=hurow.resolve_left (by intro e;have:=hpk.out 0 hl0 0 (by decide);rw [e] at this;simp [zdR] at this);have hGul:=(OwnR.lt hu Gu hGuo).2;have hG9:=zag hG (hb9.block G hGl);have hGl9:G<w9.heap.size:=Nat.lt_of_lt_of_le hGl hb9.size;have c119:=c11.below hb9 c11.lt;have hb09:=hb.trans (hb9.mono hb.size);have hz9:=hb09.size;clear hch hurow hG;go_loopw [12,61] (fun cv y w'=> ∃(q:Nat) (t:TypeId),q≤l.length∧y= .int .i64 q∧OwnR t 5 w' w9.heap.size cv q (zaQ (ppTo n id a x l q))∧Below w9.heap.size w9 w') (fun _ y _=>l.length-(RowKit.intOf y).toNat)
        case atStart=>exact ⟨0,139,Nat.zero_le _,rfl,by simpa [ppTo,zaQ] using OwnR.nil 139 5 _ w9.heap.size,Below.refl _ _⟩
        case round=>
          obtain ⟨q,ty,hq,rfl,hop,hbp⟩:=hrel;by_cases hqn:q<l.length
          · have hqn':(q:Int)<l.length:=by omega
            have hcell:zdR id (posL n a x l.length) l q= [.int .u64 l[q].at1,.int .u32 l[q].len,.int .u16 id,.int .u16 (zcj (segF l[q].wr (decide (q+1<l.length))) (posN n a x q).2),.int .i64 id,.bool (posN n a x q).2]:=by
              unfold zdR;rw [show l.getD q ⟨0,0,false⟩=l[q] from by simp [List.getD_eq_getElem?_getD,hqn],show (posL n a x l.length).getD q (0,false)=posN n a x q from by simp [posL,List.getD_eq_getElem?_getD,hqn]]
            have hgu:=fun j hj v (hv':(zdR id (posL n a x l.length) l q)[j]? =some v)=>(hbp.cell (p:=⟨Gu,0+(q*6+j),none⟩) hGul).trans (hGu (q*6+j) v (by rw [hpk.out q hqn j hj];exact hv'));have hpos:=(hbp.cell (p:=⟨G,0+(q*2),none⟩) hGl9).trans (hG9 (q*2) _ (zeF (posL n a x l.length) q (by rw [hpl];exact hqn)).1);rw [show (posL n a x l.length)[q]'(by rw [hpl];exact hqn)=posN n a x q from by simp [posL]] at hpos;have hpp:zaQ (ppTo n id a x l (q+1))=zaQ (ppTo n id a x l q)++ [.int .i64 (posN n a x q).1,.int .u64 l[q].at1,.int .u32 l[q].len,.int .u16 id,.int .u16 (zcj (segF l[q].wr (decide (q+1<l.length))) (posN n a x q).2)]:=by
              rw [zpQ];unfold zaQ;rw [List.flatMap_append];simp only [List.flatMap_cons,List.flatMap_nil,List.append_nil];congr 1;unfold ppAt Pt.cells segF;rw [show l.getD q ⟨0,0,false⟩=l[q] from by simp [List.getD_eq_getElem?_getD,hqn]];simp
            rw [hcell] at hgu;clear hcell;generalize l[q]'(hqn)=s at hgu hpp;generalize zcj (segF s.wr (decide (q+1<l.length))) (posN n a x q).2=fl at hgu hpp;generalize (posN n a x q).1=pa at hpos hpp;generalize (posN n a x q).2=px at hgu;have u0:=hgu 0 (by decide) _ rfl;have u1:=hgu 1 (by decide) _ rfl;have u2:=hgu 2 (by decide) _ rfl;have u3:=hgu 3 (by decide) _ rfl;have u4:=hgu 4 (by decide) _ rfl;have u5:=hgu 5 (by decide) _ rfl;simp only [Nat.zero_add,Nat.add_zero] at u0 u1 u2 u3 u4 u5 hpos;have hcz:=c119.below hbp c119.lt;have x11:=hcz.cell 0 _ rfl;have hol:=OwnR.lt hop;have hbA:=(Below.refl wr.heap.size wr).alloc (Nat.le_refl _) (Obj.cells #[.int .u64 s.at1,.int .u32 s.len,.int .u16 id,.int .u16 fl,.int .i64 id,.bool px] 187);have hbD:=hbA.drew;have k14:=Cl.new wr #[.int .u64 s.at1,.int .u32 s.len,.int .u16 id,.int .u16 fl,.int .i64 id,.bool px] 187;have kd:=k14.kept (w':=(wr.alloc (Obj.cells #[.int .u64 s.at1,.int .u32 s.len,.int .u16 id,.int .u16 fl,.int .i64 id,.bool px] 187)).drew) rfl;have hdz:=hcz.below hbD hcz.lt;have hGz:G<wr.heap.size:=Nat.lt_of_lt_of_le hGl9 hbp.size;have hposd:=(hbD.cell (p:=⟨G,q*2,none⟩) hGz).trans hpos;have hposa:=(hbA.cell (p:=⟨G,q*2,none⟩) hGz).trans hpos;have hcza:=hcz.below hbA hcz.lt;have a0:=k14.cell 0 _ rfl;have a1:=k14.cell 1 _ rfl;have a2:=k14.cell 2 _ rfl;have a3:=k14.cell 3 _ rfl;have a11:=hcza.cell 0 _ rfl;have d0:=kd.cell 0 _ rfl;have d1:=kd.cell 1 _ rfl;have d2:=kd.cell 2 _ rfl;have d3:=kd.cell 3 _ rfl;have d11:=hdz.cell 0 _ rfl;have ho4:=OwnR.kept hop (w':=(wr.alloc (Obj.cells #[.int .u64 s.at1,.int .u32 s.len,.int .u16 id,.int .u16 fl,.int .i64 id,.bool px] 187)).drew) fun b e=>hbD.block b (hol b e).2;have hbE:=(Below.refl (wr.alloc (Obj.cells #[.int .u64 s.at1,.int .u32 s.len,.int .u16 id,.int .u16 fl,.int .i64 id,.bool px] 187)).drew.heap.size (wr.alloc (Obj.cells #[.int .u64 s.at1,.int .u32 s.len,.int .u16 id,.int .u16 fl,.int .i64 id,.bool px] 187)).drew).alloc (Nat.le_refl _) (Obj.cells #[.int .i64 pa,.int .u64 s.at1,.int .u32 s.len,.int .u16 id,.int .u16 fl] 139);have ho5:=OwnR.kept ho4 (w':=(wr.alloc (Obj.cells #[.int .u64 s.at1,.int .u32 s.len,.int .u16 id,.int .u16 fl,.int .i64 id,.bool px] 187)).drew.alloc (Obj.cells #[.int .i64 pa,.int .u64 s.at1,.int .u32 s.len,.int .u16 id,.int .u16 fl] 139)) fun b e=>hbE.block b (OwnR.lt ho4 b e).2;have kn5:=Cl.new2 (w:=(wr.alloc (Obj.cells #[.int .u64 s.at1,.int .u32 s.len,.int .u16 id,.int .u16 fl,.int .i64 id,.bool px] 187)).drew) (b:=wr.heap.size+1) (arr:= #[.int .i64 pa,.int .u64 s.at1,.int .u32 s.len,.int .u16 id,.int .u16 fl]) (t:=139) (by simp);have k145:=kd.below hbE kd.lt;have hc5:=hdz.below hbE hdz.lt;have hpos5:=(hbE.cell (p:=⟨G,q*2,none⟩) (Nat.lt_of_lt_of_le hGz hbD.size)).trans hposd;have f0:=k145.cell 0 _ rfl;have f1:=k145.cell 1 _ rfl;have f2:=k145.cell 2 _ rfl;have f3:=k145.cell 3 _ rfl;have f11:=hc5.cell 0 _ rfl;have hbase:w9.heap.size≤((wr.alloc (Obj.cells #[.int .u64 s.at1,.int .u32 s.len,.int .u16 id,.int .u16 fl,.int .i64 id,.bool px] 187)).drew.alloc (Obj.cells #[.int .i64 pa,.int .u64 s.at1,.int .u32 s.len,.int .u16 id,.int .u16 fl] 139)).heap.size:=Nat.le_trans hbp.size (Nat.le_trans hbD.size hbE.size);obtain ⟨sp,cp,rfl,_⟩:=OwnR.row hop;clear hgu hpk hGu hqn;go_wp2_with fail;go_region_held3 (fun w'=>w'.cell? ⟨w7.heap.size,0,none⟩=some (.slice (some ⟨G,0,none⟩) l.length c1)∧w'.cell? ⟨G,q*2,none⟩=some (.int .i64 pa)∧w'.cell? ⟨wr.heap.size,0,none⟩=some (.int .u64 s.at1)∧w'.cell? ⟨wr.heap.size,1,none⟩=some (.int .u32 s.len)∧w'.cell? ⟨wr.heap.size,2,none⟩=some (.int .u16 id)∧w'.cell? ⟨wr.heap.size,3,none⟩=some (.int .u16 fl)) (go_keep)
              ((first
                | (refine zgy (P0:=prog) (by rfl) _ _ _ (by rfl) w9.heap.size 139 ty iq _ 5 24 (by kernel_rfl) hiq g1 g2 g3 rfl (by decide) (.slice sp q cp) q (zaQ (ppTo n id a x l q)) (by rfl) ho5 (some ⟨wr.heap.size+1,0,none⟩) ⟨wr.heap.size+1,0,none⟩ rfl 1 1 [.int .i64 pa,.int .u64 s.at1,.int .u32 s.len,.int .u16 id,.int .u16 fl] (by rfl) rfl
                     (fun j u hu=>by rw [Dw.addr_add];exact kn5.cell (0+j) u (by rw [Nat.zero_add];exact hu)) (fun u hu=>by simp only [List.mem_cons,List.not_mem_nil,or_false] at hu;rcases hu with rfl|rfl|rfl|rfl|rfl<;>rfl) (by unfold maxLen;omega) (by omega) hbase ?_
                   intro v6 w6 t6 hown6 hgrow6 hat6;have k146:=k145.kept (w':=w6) (hgrow6.block _ k145.lt (fun e=>by have:=(hol _ e.symm).2;omega));have hc6:=hc5.kept (w':=w6) (hgrow6.block _ hc5.lt (fun e=>by have:=(hol _ e.symm).1;have:=c119.lt;omega));have hpos6:=(World.cell?_of_block (a:=⟨G,q*2,none⟩) (hgrow6.block G (Nat.lt_of_lt_of_le hGl9 hbase) (fun e=>by have:=(hol _ e.symm).1;omega))).trans hpos5;have r0:=k146.cell 0 _ rfl;have r1:=k146.cell 1 _ rfl;have r2:=k146.cell 2 _ rfl;have r3:=k146.cell 3 _ rfl;have r11:=hc6.cell 0 _ rfl)))
            all_goals
              go_wp2_with fail;refine ⟨⟨q+1,t6,by omega,by push_cast;rfl,by rw [hpp];exact hown6,?_⟩,by simp only [RowKit.intOf];omega⟩;have hbw:=(hbp.trans (hbD.mono hbp.size)).trans (hbE.mono (Nat.le_trans hbp.size hbD.size));exact ⟨hgrow6.os.trans hbw.os,hgrow6.tape.trans hbw.tape,hgrow6.output.trans hbw.output,Nat.le_trans hbw.size hgrow6.size,fun b hh=>(hgrow6.block b (Nat.lt_of_lt_of_le hh hbw.size) (fun e=>by have:=(hol b e.symm).1;omega)).trans (hbw.block b hh)⟩
          · have hqq:q=l.length:=by omega
            subst hqq;go_wp2;go_ret2;exact ⟨⟨_,ty,rfl,by rw [zm6];exact OwnR.mono hop hz9⟩,hb09.trans (hbp.mono hz9)⟩
open Go.Shelf
def Tryz.tsTo (L:List DO) (q:Nat):List Int:=(List.range q).filterMap fun (k:Nat)=>(zby L (k:Int)).map (·.tk)
theorem Tryz.zo0 (L:List DO) (q:Nat):tsTo L (q+1)=tsTo L q++(match zby L (q:Int) with|none=> []|some e=> [e.tk]):=by
 unfold tsTo;rw [List.range_succ,List.filterMap_append];cases h:zby L (q:Int)<;>simp [h]
theorem Tryz.zk9 {L:List DO} (hnd:(L.map (·.id)).Nodup) {e:DO} (he:e∈L):zby L e.id=some e:=by
 induction L with
 | nil=>cases he
 | cons x r ih=>
  rw [List.map_cons,List.nodup_cons] at hnd;unfold zby at ih ⊢;rcases List.mem_cons.1 he with h|h
  ·rw [List.find?_cons_of_pos (by simp [h]),h]
  ·have hne:x.id≠e.id:=fun q=>hnd.1 (q▸List.mem_map.2 ⟨e,h,rfl⟩);rw [List.find?_cons_of_neg (by simpa using hne)];exact ih hnd.2 h
theorem Tryz.zo1 {L:List DO} {n:Nat} (hnd:(L.map (·.id)).Nodup) (hin: ∀e∈L,0≤e.id∧e.id<n):(tsTo L n).Perm (L.map (·.tk)):=by
 have h1:tsTo L n=((List.range n).filterMap fun (k:Nat)=>zby L (k:Int)).map (·.tk):=by
  unfold tsTo;rw [List.map_filterMap]
 rw [h1];refine List.Perm.map _ ((List.perm_ext_iff_of_nodup ?_ ?_).2 fun e=> ?_)
 ·refine List.Pairwise.filterMap (R:=fun a b=>a≠b) _ (fun a b hab x hx y hy hxy=> ?_) List.nodup_range;have q1:=(zce hx).2;have q2:=(zce hy).2;rw [hxy] at q1;omega
 ·exact (List.pairwise_map.1 hnd).imp fun h e=>h (congrArg (·.id) e)
 ·rw [List.mem_filterMap];constructor
  ·rintro ⟨k,_,hk⟩;exact (zce hk).1
  ·intro he;have hi:=hin e he;refine ⟨e.id.toNat,List.mem_range.2 (by omega),?_⟩;rw [show ((e.id.toNat:Nat):Int)=e.id by omega];exact zk9 hnd he
theorem Tryz.zue {s:DS} {n:Nat} (hnd:(s.L.map (·.id)).Nodup) (hin: ∀e∈s.L,0≤e.id∧e.id<n):(tsTo s.L n).mergeSort leI=s.outs:=mergeSort_of_perm_i (zo1 hnd hin)
section
variable {fns fns':List Nat} {nw nw':Prop} {A A':Nat→Prop} {w w':World} {S P L Bs B I N:Nat} {r:Tryz.Rg} {s s':Tryz.DS} {g g':Nat→Int}
set_option maxRecDepth 100000 in
theorem Tryz.zi7 (h:DW A w S P L Bs B I N r s g):Calls prog 30 #[.pointer (some ⟨S,0,none⟩)] w fun e w'=> ∃v,e= .returned v∧OwnR 3 1 w' w.heap.size v s.outs.length (zbe s.outs)∧Below w.heap.size w w':=by
  have hm:=zfd h.f;have hbn:=h.f.rg.bnd;obtain ⟨stv,nowv,sgv,puv,h1,_⟩:=h.f.obj;have c15:=h1.cell 15 _ rfl;obtain ⟨vs,i1,i2,i3⟩:=h.f.ids;obtain ⟨n,hn,hn16⟩: ∃n:Nat,r.n.toNat=n∧n≤16:=⟨r.n.toNat,rfl,by omega⟩;have hout:HidP ((tsTo s.L n).mergeSort leI=s.outs):=⟨zue h.pb.nd fun e he=>by have:=(h.pb.el e he).1;omega⟩;have hol:s.outs.length=(tsTo s.L n).length:=by rw [←hout.out,List.length_mergeSort]
  have htl: ∀q,(tsTo s.L q).length≤q:=fun q=>by
    unfold tsTo;exact Nat.le_trans (List.length_filterMap_le _ _) (by simp)
  rw [hn] at c15 i2;replace i3:HidP _:=⟨i3⟩;obtain ⟨i0,hi0,j1,j2,j3⟩:=info_parts zvQ;have hone: ∀l:List Int,∀u∈zbe l,u.oneCell'=true:=fun l u hu=>by
    obtain ⟨x,_,rfl⟩:=List.mem_map.1 hu;rfl
  replace hone:HidP _:=⟨hone⟩;clear hbn hn;go_enter func30,ntmps30;go_wp2_with (first
    | (go_at_call 89;refine hm.mono ?_;rintro e w' ⟨rfl,hw⟩;have hw:=hw.symm;subst hw)
    | go_in)
  go_loopw [2,13] (fun c y wr=> ∃(q:Nat) (cv:Value),cv=c∧q≤n∧y= .int .i64 q∧OwnR 3 1 wr w.heap.size cv (tsTo s.L q).length (zbe (tsTo s.L q))∧Below w.heap.size w wr) (fun _ y _=>n-(RowKit.intOf y).toNat)
  case atStart=>exact ⟨0,_,rfl,Nat.zero_le _,rfl,by simpa [tsTo,zbe] using OwnR.nil 3 1 _ w.heap.size,Below.refl _ _⟩
  case round=>
    obtain ⟨q,cv,hcv,hq,rfl,ho,hb⟩:=hrel;subst hcv;by_cases hqn:q<n
    · have hqn':(q:Int)<n:=by omega
      have hqv:q<vs.length:=by omega
      have hsuc:=zo0 s.L q;have hql:=htl q;have c0:=(hb.cell (p:=⟨I,q,none⟩) i1.lt).trans (i1.cell q _ (List.getElem?_eq_getElem hqv));cases hg:zby s.L (q:Int) with
      | none=>
        have hv:=(i3.out q hqv).1 (by rw [←zbt,hg];rfl);rw [hv] at c0;rw [hg] at hsuc;simp only [List.append_nil] at hsuc;replace hsuc:HidP _:=⟨hsuc⟩;clear hv hg;go_wp2;exact ⟨⟨q+1,_,rfl,by omega,by push_cast;rfl,by rw [hsuc.out];exact ho,hb⟩,by simp only [RowKit.intOf];omega⟩
      | some e=>
        obtain ⟨O,hO,hOA,hOr⟩:=(i3.out q hqv).2 e hg;rw [hO] at c0;rw [hg] at hsuc;simp only at hsuc;have hOl:=zaP hOr (by simp [DO.cells]);have t1:=(zag hOr (hb.block O hOl)) 1 _ rfl;rw [Nat.zero_add] at t1;have hol:=OwnR.lt ho;have hbn:=(Below.refl wr.heap.size wr).alloc (Nat.le_refl _) (Obj.cells #[.int .i64 e.tk] 3);have ho2:=OwnR.kept ho (w':=wr.alloc (Obj.cells #[.int .i64 e.tk] 3)) fun b q=>hbn.block b (hol b q).2;have kn:=Cl.new wr #[.int .i64 e.tk] 3;have hnews: ∀j u,([.int .i64 e.tk]:List Value)[j]? =some u→(wr.alloc (Obj.cells #[.int .i64 e.tk] 3)).cell? ((⟨wr.heap.size,0,none⟩:Addr).add j)=some u:=fun j u hu=>by
          rw [Dw.addr_add];exact kn.cell (0+j) u (by rw [Nat.zero_add];exact hu)
        have hbs:=hb.size;replace hsuc:HidP _:=⟨hsuc⟩;clear hg hO hqn;go_wp2_with (first
          | (at_builtin;go_loud (refine wpList_append_own_at _ rfl _ _ 82 rfl w.heap.size 3 i0 _ 1 8 (by kernel_rfl) hi0 j1 j2 j3 rfl (by decide) cv (tsTo s.L q).length (zbe (tsTo s.L q)) rfl ho2 ⟨wr.heap.size,0,none⟩ 1 1 [.int .i64 e.tk] rfl rfl hnews (by intro y hy;simp only [List.mem_cons,List.not_mem_nil,or_false] at hy;subst hy;rfl) (by unfold maxLen;omega) (by omega) (by simp;omega) ?_);intro v2 w9 h2 h3 h4 h5;go_frame)
          | go_in)
        refine ⟨⟨q+1,_,rfl,by omega,by push_cast;rfl,?_,?_⟩,by simp only [RowKit.intOf];omega⟩
        · rw [hsuc.out,List.length_append,show zbe (tsTo s.L q++ [e.tk])=zbe (tsTo s.L q)++ [.int .i64 e.tk] from List.map_append];exact h2
        · have hbw:=hb.trans (hbn.mono hbs);exact ⟨h3.os.trans hbw.os,h3.tape.trans hbw.tape,h3.output.trans hbw.output,Nat.le_trans hbw.size h3.size,fun b hh=>(h3.block b (Nat.lt_of_lt_of_le hh hbw.size) (fun e=>by have:=(hol b e.symm).1;omega)).trans (hbw.block b hh)⟩
    · have hqq:q=n:=by omega
      subst hqq;have hqn': ¬(q:Int)<q:=by omega
      have hrow:=ho;obtain ⟨hc0,hrow2⟩:=hrow;rcases hrow2 with ⟨hv0,hl0⟩|⟨G,cap,cur,rfl,hbase,hbk,h1',h2',h3',h4'⟩
      · subst hv0;have hts:tsTo s.L q= []:=List.length_eq_zero_iff.1 hl0;have hc:=AnyM.slices_Sort_int_none zu7 none 0 wr;have hc:Calls prog 90 #[.slice none 0 0] wr _:=hc;replace hol:HidP _:=⟨hol⟩;replace hts:HidP _:=⟨hts⟩;clear ho hc0 hl0;go_wp2_with (first
          | (go_at_call 90;refine hc.mono ?_;rintro e w' ⟨rfl,hw⟩;have hw:=hw.symm;subst hw)
          | go_in)
        go_ret;rw [hol.out,←hout.out,hts.out];exact ⟨_,rfl,by simpa [zbe] using OwnR.nil 3 1 _ w.heap.size,hb⟩
      · have hH:Holds (Value.int .i64) wr G 0 (tsTo s.L q).toArray:=holds_of_blockI hbk (by simpa [zbe] using h4');have hgl:G<wr.heap.size:=(Array.getElem?_eq_some_iff.1 hbk).1;have hql:=htl q;have hc:=AnyM.slices_Sort_int zu7 G 0 cap (tsTo s.L q) wr hH hgl (by omega);have hc:Calls prog 90 #[.slice (some ⟨G,0,none⟩) (tsTo s.L q).length cap] wr _:=hc;replace hol:HidP _:=⟨hol⟩;go_wp2_with (first
          | (go_at_call 90;refine hc.mono ?_;rintro e w' ⟨rfl,nn,os,rfl⟩)
          | go_in)
        go_ret;rw [hol.out,←hout.out];refine ⟨_,rfl,?_,hb.grown (grownBy_sortedI _) hb.size (fun j hj=>by cases hj;exact hbase)⟩;have:=ownsRow_sortedI (w:=wr) (n:=nn) (os:=os) (ts:=(tsTo s.L q).mergeSort fun x y=>decide (x≤y)) (ss:=tsTo s.L q) (e:=3) (by simp) hbase hbk h1' h2' h3';exact this
end
end Go.Proofs
namespace Go.Proofs
open Go.Dw Go.RowKit Go.Maps Go.Sort Go.Deep
section
variable {fns fns':List Nat} {nw nw':Prop} {A A':Nat→Prop} {w w':World} {S P L Bs B I N:Nat} {r:Tryz.Rg} {s s':Tryz.DS} {g g':Nat→Int}
theorem Tryz.DS.has_tk (L:List DO) (t:Int):((L.map (·.tk)).mergeSort leI).any (fun x=>x==t)=L.any fun e=>e.tk==t:=by
 rw [Bool.eq_iff_iff,List.any_eq_true,List.any_eq_true];constructor
 ·rintro ⟨x,hx,hxt⟩;rw [List.mem_mergeSort] at hx;obtain ⟨e,he,rfl⟩:=List.mem_map.1 hx;exact ⟨e,he,hxt⟩
 ·rintro ⟨e,he,het⟩;exact ⟨e.tk,List.mem_mergeSort.2 (List.mem_map.2 ⟨e,he,rfl⟩),het⟩
theorem Tryz.zi6 (s:DS) (t:Int):(s.outs.any fun x=>x==t)=s.L.any fun e=>e.tk==t:=DS.has_tk s.L t
set_option maxRecDepth 100000 in
theorem Tryz.zsm (h:DW A w S P L Bs B I N r s g) {v:Value} {l:List Sg} (hv:SegV A w v l) (hl:l.length≤100000) {t:Int} (hno:(za3 N r.n s t l).1≠0):
    Calls prog 13 #[.pointer (some ⟨S,0,none⟩),.int .i64 t,v] w fun e w'=>e= .returned (.int .i64 (za3 N r.n s t l).1)∧Below w.heap.size w w':=by
  have hrd:=ze5 h;unfold DS.rdy at hrd;have hN:=h.f.hN;have hF:=h.f.fit;obtain ⟨sa,c,hve,_⟩:=id hv;subst hve;have hin2:=fun (w1:World) (hb:Below w.heap.size w w1)=>zpi (h.f.mem.below hb) hN (by omega) (hv.below hb) (by omega);unfold za3 at hno ⊢;by_cases hb:s.br=true
  · rw [if_pos hb] at hrd ⊢;clear hno hb;go_enter func13,ntmps13;go_wp2_with (first
      | (go_at_call 61;refine hrd.mono ?_;rintro e w' ⟨rfl,hw⟩;have hw:=hw.symm;subst hw)
      | go_in)
    go_ret;exact ⟨rfl,Below.refl _ _⟩
  rw [if_neg hb] at hrd hno ⊢;by_cases hp:s.ph≠0
  · rw [if_pos hp] at hrd ⊢;clear hno hb hp;go_enter func13,ntmps13;go_wp2_with (first
      | (go_at_call 61;refine hrd.mono ?_;rintro e w' ⟨rfl,hw⟩;have hw:=hw.symm;subst hw)
      | go_in)
    go_ret;exact ⟨rfl,Below.refl _ _⟩
  rw [if_neg hp] at hrd hno ⊢;have hout:=zi7 h;have hany:=zi6 s t;have hol:s.outs.length≤100000:=by
    unfold DS.outs;rw [List.length_mergeSort,List.length_map];have:=zbg fun x hx=>(h.pb.el x hx).2.2.1;have:=h.pb.sum;have:=h.pb.own;have:=h.f.rg.bnd;omega
  by_cases ht:t<0
  · have ht':decide (t<0)=true:=decide_eq_true ht;rw [if_pos (.inl ht)];clear hno hb hp ht;go_enter func13,ntmps13;go_wp2_with (first
      | (go_at_call 61;refine hrd.mono ?_;rintro e w' ⟨rfl,hw⟩;have hw:=hw.symm;subst hw)
      | go_in)
    go_ret;exact ⟨rfl,Below.refl _ _⟩
  have ht':decide (t<0)=false:=decide_eq_false ht;have hcon: ∀(w1:World) (u:Value),OwnR 3 1 w1 w.heap.size u s.outs.length (zbe s.outs)→Calls prog 62 #[u,.int .i64 t] w1 fun e w'=>e= .returned (.bool (s.L.any fun e=>e.tk==t))∧w'=w1:=fun w1 u hu=>by
    obtain ⟨su,cu,rfl,hr⟩:=OwnR.row hu;have:=zd3 (w:=w1) (sa:=su) (c:=cu) (l:=s.outs) (by
      rcases hr with hr|⟨G,e,_,hr⟩
      · exact .inl (List.map_eq_nil_iff.1 hr)
      · exact .inr ⟨G,0,e,hr⟩) hol t
    rw [hany] at this;exact this
  clear hany;by_cases htk:(s.L.any fun e=>e.tk==t)=true
  · rw [if_pos (.inr htk)];rw [htk] at hcon;clear hno hb hp ht htk;go_enter func13,ntmps13;go_wp2_with (first
      | (go_at_call 61;refine hrd.mono ?_;rintro e w' ⟨rfl,hw⟩;have hw:=hw.symm;subst hw)
      | (go_at_call 30;refine hout.mono ?_;rintro e w1 ⟨u,rfl,hu,hb1⟩)
      | (go_at_call 62;refine (hcon _ _ hu).mono ?_;rintro e w' ⟨rfl,hw⟩;have hw:=hw.symm;subst hw)
      | go_in)
    go_ret;exact ⟨rfl,hb1⟩
  have htkf:(s.L.any fun e=>e.tk==t)=false:=by simpa using htk
  rw [if_neg (by rintro (q|q);exact ht q;exact htk q)] at hno ⊢;rw [htkf] at hcon;have hobj:=h.f.obj;have hS:=h.f.lt S h.f.aS;have hc0: ∀w1,Below w.heap.size w w1→w1.cell? ⟨S,0,none⟩=some (.pointer (some ⟨P,0,none⟩)):=fun w1 hb=>by
    obtain ⟨stv,nowv,sgv,puv,h1,_⟩:=hobj;exact (h1.below hb h1.lt).cell 0 _ rfl
  by_cases hin:zbH N l≠0
  · rw [if_pos hin];have hinb:(zbH N l==0)=false:=by simpa using hin
    generalize zbH N l=e at hin2 hin hinb ⊢;clear hno hb hp ht htk htkf;go_enter func13,ntmps13;go_wp2_with (first
      | (go_at_call 61;refine hrd.mono ?_;rintro e w' ⟨rfl,hw⟩;have hw:=hw.symm;subst hw)
      | (go_at_call 30;refine hout.mono ?_;rintro e w1 ⟨u,rfl,hu,hb1⟩)
      | (go_at_call 62;refine (hcon _ _ hu).mono ?_;rintro e w' ⟨rfl,hw⟩;have hw:=hw.symm;subst hw;have x0:=hc0 _ hb1)
      | (go_at_call 63;refine (hin2 _ hb1).mono ?_;rintro e w2 ⟨rfl,hb2⟩)
      | go_in)
    go_ret;exact ⟨rfl,hb1.trans (hb2.mono hb1.size)⟩
  rw [if_neg hin] at hno ⊢;rw [Decidable.not_not.1 hin] at hin2;by_cases hl0:l.length=0
  · rw [if_pos hl0];have hb0:((l.length:Int)==0)=true:=by simpa using hl0
    clear hno hb hp ht htk htkf hin hl0;go_enter func13,ntmps13;go_wp2_with (first
      | (go_at_call 61;refine hrd.mono ?_;rintro e w' ⟨rfl,hw⟩;have hw:=hw.symm;subst hw)
      | (go_at_call 30;refine hout.mono ?_;rintro e w1 ⟨u,rfl,hu,hb1⟩)
      | (go_at_call 62;refine (hcon _ _ hu).mono ?_;rintro e w' ⟨rfl,hw⟩;have hw:=hw.symm;subst hw;have x0:=hc0 _ hb1)
      | (go_at_call 63;refine (hin2 _ hb1).mono ?_;rintro e w2 ⟨rfl,hb2⟩)
      | go_in)
    go_ret;exact ⟨rfl,hb1.trans (hb2.mono hb1.size)⟩
  rw [if_neg hl0] at hno ⊢;have hbe:zbc l=0:=by
    unfold zbc;rw [(zbV (Decidable.not_not.1 hin)).2,if_neg (by decide),if_neg hl0]
  obtain ⟨T,hT⟩: ∃T,(s.tb&&decide ((1:Int)<l.length))=T:=⟨_,rfl⟩;have hTt:s.tab l=T:=by
    unfold DS.tab;rw [←hT];congr 1;exact decide_eq_decide.2 (by omega)
  have hneed:s.need l=if T=true then 1 else (l.length:Int):=by unfold DS.need;rw [hTt]
  have hnd:=fun w1 hb=>zfQ (w:=w1) (hv.below hb) T;simp only [if_neg (show¬zbc l≠0 from fun q=>q hbe)] at hnd;rw [←hneed] at hnd;simp only at hno ⊢;generalize s.need l=ct at hno hnd ⊢;have hbn:=h.f.rg.bnd;have hidx:=fun w1 (hb:Below w.heap.size w w1)=>zht (h.below hb).f.ids (by omega);obtain ⟨idx,hidq⟩: ∃idx:Int,idx=(if zaM s.L r.n.toNat 0<r.n.toNat then ((zaM s.L r.n.toNat 0:Nat):Int) else-1):=⟨_,rfl⟩;rw [←hidq] at hidx;have hb0:((l.length:Int)==0)=false:=by simpa using hl0
  have hc7: ∀w1,Below w.heap.size w w1→w1.cell? ⟨S,7,none⟩=some (.bool s.tb):=fun w1 hb=>by
    obtain ⟨stv,nowv,sgv,puv,h1,_⟩:=hobj;exact (h1.below hb h1.lt).cell 7 _ rfl
  have hc15: ∀w1,Below w.heap.size w w1→w1.cell? ⟨S,15,none⟩=some (.slice (some ⟨I,0,none⟩) r.n.toNat r.n.toNat):=fun w1 hb=>by
    obtain ⟨stv,nowv,sgv,puv,h1,_⟩:=hobj;exact (h1.below hb h1.lt).cell 15 _ rfl
  have hc14: ∀w1,Below w.heap.size w w1→w1.cell? ⟨S,14,none⟩=some (.int .i64 s.own):=fun w1 hb=>by
    obtain ⟨stv,nowv,sgv,puv,h1,_⟩:=hobj;exact (h1.below hb h1.lt).cell 14 _ rfl
  obtain ⟨d1,d2,hd1,hd2,hdd⟩: ∃d1 d2:Bool,decide (s.own<ct)=d1∧decide (idx<0)=d2∧(d1||d2)=true:=by
    refine ⟨_,_,rfl,rfl,?_⟩;by_cases q:s.own<ct∨r.n≤(zaM s.L r.n.toNat 0:Nat)
    · rcases q with q|q
      · rw [decide_eq_true q];rfl
      · rw [hidq,if_neg (by omega)];simp
    · rw [if_neg q] at hno;exact absurd rfl hno
  have hres:(if s.own<ct∨r.n≤(zaM s.L r.n.toNat 0:Nat) then ((7:Int),s) else (0,{ s with c:=⟨(zaM s.L r.n.toNat 0:Nat),t,ct⟩,sg:=l,pu:=s.puts r.n (zaM s.L r.n.toNat 0:Nat) l,L:=s.L++ [⟨(zaM s.L r.n.toNat 0:Nat),t,ct⟩],own:=s.own-ct,ph:=1,dn:=false,op:=1,nn:=false,tok:=t,wr:=0,kk:=false })).1=7:=by
    by_cases q:s.own<ct∨r.n≤(zaM s.L r.n.toNat 0:Nat)
    · rw [if_pos q]
    · rw [if_neg q] at hno;exact absurd rfl hno
  rw [hres];clear hres hno hb hp ht htk htkf hin hl0 hTt hneed hbe hidq hbn;rcases Bool.eq_false_or_eq_true s.tb with htb|htb
  all_goals
    rw [htb] at hT hc7
    first|rw [Bool.true_and] at hT|(rw [Bool.false_and] at hT;subst hT)
    clear htb;go_enter func13,ntmps13;go_wp2_with (first
        | (go_at_call 61;refine hrd.mono ?_;rintro e w' ⟨rfl,hw⟩;have hw:=hw.symm;subst hw)
        | (go_at_call 30;refine hout.mono ?_;rintro e w1 ⟨u,rfl,hu,hb1⟩)
        | (go_at_call 62;refine (hcon _ _ hu).mono ?_;rintro e w' ⟨rfl,hw⟩;have hw:=hw.symm;subst hw;have x0:=hc0 _ hb1)
        | (go_at_call 63;refine (hin2 _ hb1).mono ?_;rintro e w2 ⟨rfl,hb2⟩;have hb12:=hb1.trans (hb2.mono hb1.size);have x7:=hc7 _ hb12)
        | go_in)
    have hbd:=(Below.refl w2.heap.size w2).drew;have hb2d:=hb12.trans (hbd.mono hb12.size);have y15:=hc15 _ hb12;have z15:=hc15 _ hb2d;go_region_held3 (fun w'=>w'.cell? ⟨S,15,none⟩=some (.slice (some ⟨I,0,none⟩) r.n.toNat r.n.toNat)) (go_keep)
      ((first
        | (go_at_call 64;refine (hnd _ hb2d).mono ?_;rintro en w3 ⟨rfl,hb3⟩;have hb13:=hb2d.trans (hb3.mono hb2d.size);have v15:=hc15 _ hb13)
        | (go_at_call 65;refine (hidx _ hb13).mono ?_;rintro en w' ⟨rfl,hw⟩;have hw:=hw.symm;subst hw)))
    all_goals
      have x14:=hc14 _ hb13;cases d1<;>cases d2<;>first|exact absurd hdd (by decide)|skip
      all_goals
        go_wp2_with fail;go_ret;exact ⟨rfl,hb13⟩
end
end Go.Proofs
namespace Go.Proofs
open Go.Dw Go.RowKit Go.Maps Go.Sort Go.Deep
section
variable {fns fns':List Nat} {nw nw':Prop} {A A':Nat→Prop} {w w':World} {S P L Bs B I N:Nat} {r:Tryz.Rg} {s s':Tryz.DS} {g g':Nat→Int}
theorem Tryz.DWf.setVal (h:DWf fns nw A w S P L Bs B I N r s g) (j:Nat) (v:Value):Dw.Mv (· =S) w (w.setCell ⟨S,j,none⟩ v)∧ ∀b,b<w.heap.size→ ¬A b→(w.setCell ⟨S,j,none⟩ v).heap[b]? =w.heap[b]? :=by
 have hm:Dw.Mv (· =S) w (w.setCell ⟨S,j,none⟩ v):=zaj (zaa (Below.refl _ _)) S j _ rfl;exact ⟨hm,fun b hb hn=>hm.block b hb fun e=>hn (by have e:b=S:=e;exact e▸h.aS)⟩
theorem Tryz.DWf.setSeg (h:DWf fns nw A w S P L Bs B I N r s g) {u:Value} {l:List Sg} (hu:SegV A w u l):DWf fns nw A (w.setCell ⟨S,18,none⟩ u) S P L Bs B I N r { s with sg:=l } g:=by
 obtain ⟨hm,hk⟩:=h.setVal 18 u;obtain ⟨stv,nowv,sgv,puv,h1,h2,h3,h4,h5,h6⟩:=h.ptr hk;exact h.setSB (hm.mono fun b e=> .inl e) (h.gmS hm) ⟨stv,nowv,u,puv,h1.set 18 u (by show 18<27;decide),h2,h3,h4,hu.setK (fun _ _ q=>q) hk,h6⟩ rfl
theorem Tryz.DWf.setPut (h:DWf fns nw A w S P L Bs B I N r s g) {u:Value} {l:List Pt} (hu:PutV A w u l):DWf fns nw A (w.setCell ⟨S,19,none⟩ u) S P L Bs B I N r { s with pu:=l } g:=by
 obtain ⟨hm,hk⟩:=h.setVal 19 u;obtain ⟨stv,nowv,sgv,puv,h1,h2,h3,h4,h5,h6⟩:=h.ptr hk;exact h.setSB (hm.mono fun b e=> .inl e) (h.gmS hm) ⟨stv,nowv,sgv,u,h1.set 19 u (by show 19<27;decide),h2,h3,h4,h5,hu.setK (fun _ _ q=>q) hk⟩ rfl
theorem Tryz.DWf.setNow (h:DWf fns nw A w S P L Bs B I N r s g) {u:Value} {e:DO} (hu:NowV A w u e):DWf fns True A (w.setCell ⟨S,17,none⟩ u) S P L Bs B I N r { s with c:=e } g:=by
 obtain ⟨hm,hk⟩:=h.setVal 17 u;obtain ⟨stv,nowv,sgv,puv,h1,h2,h3,h4,h5,h6⟩:=h.ptr hk;have hu2:=hu.setK (A':=A) (fun _ _ q=>q) hk;obtain ⟨O,rfl,_⟩:=id hu;exact h.setSB (hm.mono fun b e=> .inl e) (h.gmS hm) ⟨stv,_,sgv,puv,h1.set 17 _ (by show 17<27;decide),h2,rfl,fun _=>hu2,h5,h6⟩ rfl
theorem Tryz.zhF {L:List DO} {e:DO} (k:Int):zby (L++ [e]) k=(match zby L k with|some x=>some x|none=>if e.id=k then some e else none):=by
 unfold zby;rw [List.find?_append];cases h:L.find? fun e=>e.id==k with
 | some x=>rfl
 | none=>
  by_cases q:e.id=k
  ·simp [q]
  ·simp [q]
theorem Tryz.IdsW.add {n:Nat} {l:List DO} {k:Nat} {u:Value} {t ct:Int} (h:IdsW A w I n l) (hno:zdC l k=false) (aI:A I) (hk:k<n) (hu:NowV A w u ⟨k,t,ct⟩):IdsW A (w.setCell ⟨I,k,none⟩ u) I n (l++ [⟨k,t,ct⟩]):=by
 obtain ⟨vs,h1,h2,h3⟩:=h;have hm:Dw.Mv (· =I) w (w.setCell ⟨I,k,none⟩ u):=zaj (K:=(· =I)) (zaa (Below.refl _ _)) I k _ rfl;have hK: ∀b,b<w.heap.size→ ¬A b→(w.setCell ⟨I,k,none⟩ u).heap[b]? =w.heap[b]? :=fun b hb hn=>hm.block b hb fun q=>hn (by have q:b=I:=q;exact q▸aI);have hg0:zby l k=none:=by
  rw [←zbt] at hno;exact Option.not_isSome_iff_eq_none.1 (by rw [hno];decide)
 refine ⟨vs.set k u,h1.set k _ (by omega),by rw [List.length_set];exact h2,fun j hj=> ?_⟩;rw [List.length_set] at hj;by_cases hjk:j=k
 ·subst hjk;refine ⟨fun q=> ?_,fun e he=> ?_⟩
  ·rw [←zbt,zhF,hg0] at q;simp at q
  ·rw [zhF,hg0] at he;simp at he;subst he;simpa using hu.setK (A':=A) (fun _ _ q=>q) hK
 ·have hne: ¬(k:Int)=j:=by omega
  rw [←zbt,zhF,List.getElem_set_ne (fun e=>hjk e.symm)];have hh:=h3 j hj;rw [←zbt] at hh;cases hg:zby l (j:Int) with
  | some x=>
   simp only;rw [hg] at hh;exact ⟨hh.1,fun e he=>(hh.2 e he).setK (fun _ _ q=>q) hK⟩
  | none=>
   simp only;rw [if_neg hne];rw [hg] at hh;exact ⟨fun _=>hh.1 rfl,fun e he=>by cases he⟩
end
end Go.Proofs
namespace Go.Proofs
open Go.Dw Go.RowKit Go.Maps Go.Sort Go.Deep
section
variable {fns fns':List Nat} {nw nw':Prop} {A A':Nat→Prop} {w w':World} {S P L Bs B I N:Nat} {r:Tryz.Rg} {s s':Tryz.DS} {g g':Nat→Int}
set_option maxRecDepth 100000 in
theorem Tryz.zp2 (h:DW A w S P L Bs B I N r s g) {v:Value} {l:List Sg} (hv:SegV A w v l) (hl:l.length≤100000) {t:Int} (ht63:t<9223372036854775808) (hyes:(za3 N r.n s t l).1=0) (hTT:s.tab l=true):
    Calls prog 13 #[.pointer (some ⟨S,0,none⟩),.int .i64 t,v] w fun e w'=>e= .returned (.int .i64 0)∧DW A w' S P L Bs B I N r (za3 N r.n s t l).2 g∧Dw.Mv (fun b=>b=S∨b=I) w w':=by
  have hrd:=ze5 h;unfold DS.rdy at hrd;have hN:=h.f.hN;have hF:=h.f.fit;have hbn:=h.f.rg.bnd;have hlt:=h.f.mvNe;obtain ⟨sa,c,hve,hok,_⟩:=id hv;subst hve;have hpb:=h.pb.off (N:=N) (t:=t) ⟨hbn.1,hbn.2⟩ ht63 hok;have hin2:=fun (w1:World) (hb:Below w.heap.size w w1)=>zpi (h.f.mem.below hb) hN (by omega) (hv.below hb) (by omega);have hout:=zi7 h;have hany:=zi6 s t;have hol:s.outs.length≤100000:=by
    unfold DS.outs;rw [List.length_mergeSort,List.length_map];have:=zbg fun x hx=>(h.pb.el x hx).2.2.1;have:=h.pb.sum;have:=h.pb.own;omega
  have hcon: ∀(w1:World) (u:Value),OwnR 3 1 w1 w.heap.size u s.outs.length (zbe s.outs)→Calls prog 62 #[u,.int .i64 t] w1 fun e w'=>e= .returned (.bool (s.L.any fun e=>e.tk==t))∧w'=w1:=fun w1 u hu=>by
    obtain ⟨su,cu,rfl,hr⟩:=OwnR.row hu;have:=zd3 (w:=w1) (sa:=su) (c:=cu) (l:=s.outs) (by
      rcases hr with hr|⟨G,e,_,hr⟩
      · exact .inl (List.map_eq_nil_iff.1 hr)
      · exact .inr ⟨G,0,e,hr⟩) hol t
    rw [hany] at this;exact this
  clear hany;unfold za3 at hyes hpb ⊢;by_cases hb:s.br=true
  · rw [if_pos hb] at hyes;exact absurd hyes (show¬(4:Int)=0 by decide)
  rw [if_neg hb] at hrd hyes hpb ⊢;by_cases hp:s.ph≠0
  · rw [if_pos hp] at hyes;exact absurd hyes (show¬(8:Int)=0 by decide)
  rw [if_neg hp] at hrd hyes hpb ⊢;by_cases htk:t<0∨(s.L.any fun e=>e.tk==t)=true
  · rw [if_pos htk] at hyes;exact absurd hyes (show¬(2:Int)=0 by decide)
  rw [if_neg htk] at hyes hpb ⊢;have ht':decide (t<0)=false:=decide_eq_false fun q=>htk (.inl q);have htkf:(s.L.any fun e=>e.tk==t)=false:=by
    cases q:(s.L.any fun e=>e.tk==t) with
    | false=>rfl
    | true=>exact absurd (.inr q) htk
  rw [htkf] at hcon;by_cases hin:zbH N l≠0
  · rw [if_pos hin] at hyes;exact absurd hyes hin
  rw [if_neg hin] at hyes hpb ⊢;rw [Decidable.not_not.1 hin] at hin2;by_cases hl0:l.length=0
  · rw [if_pos hl0] at hyes;exact absurd hyes (show¬(2:Int)=0 by decide)
  rw [if_neg hl0] at hyes hpb ⊢;have hl64:=(zbV (Decidable.not_not.1 hin)).1;have hbe:zbc l=0:=by
    unfold zbc;rw [(zbV (Decidable.not_not.1 hin)).2,if_neg (by decide),if_neg hl0]
  simp only at hyes hpb ⊢;by_cases hfull:s.own<s.need l∨r.n≤(zaM s.L r.n.toNat 0:Nat)
  · rw [if_pos hfull] at hyes;exact absurd hyes (show¬(7:Int)=0 by decide)
  rw [if_neg hfull] at hyes hpb ⊢;clear hyes;simp only at hpb ⊢;obtain ⟨T,hT⟩: ∃T,(s.tb&&decide ((1:Int)<l.length))=T:=⟨_,rfl⟩;have hTt:s.tab l=T:=by
    unfold DS.tab;rw [←hT];congr 1;exact decide_eq_decide.2 (by omega)
  have hTe:T=true:=hTt.symm.trans hTT;replace hTe:HidP _:=⟨hTe⟩;clear hTT;have hneed:s.need l=if T=true then 1 else (l.length:Int):=by unfold DS.need;rw [hTt]
  have hnd:=fun w1 hb=>zfQ (w:=w1) (hv.below hb) T;simp only [if_neg (show¬zbc l≠0 from fun q=>q hbe)] at hnd;rw [←hneed] at hnd;obtain ⟨ct,hct⟩: ∃ct,ct=s.need l:=⟨_,rfl⟩;obtain ⟨f1,f2,f3,f4⟩:=zbz s.L r.n.toNat 0;have hidx:=fun w1 (hb:Below w.heap.size w w1)=>zht (h.below hb).f.ids (by omega);rw [if_pos (show zaM s.L r.n.toNat 0<r.n.toNat by omega)] at hidx;have hfree:=f4 (by omega);obtain ⟨id,hid⟩: ∃id:Nat,id=zaM s.L r.n.toNat 0:=⟨_,rfl⟩;rw [←hid] at hidx hfree hfull hpb ⊢;rw [←hct] at hnd hneed hfull hpb ⊢;have hidn:id<r.n.toNat:=by omega
  have hidI:(id:Int)<r.n.toNat:=by omega
  have hidJ: ¬(r.n.toNat:Int)≤id:=by omega
  have hmx:max r.n 0=r.n:=by omega
  have hidK:(id:Int)<r.n:=by omega
  have hid2:decide ((id:Int)<0)=false:=decide_eq_false (by omega);have hown2:decide (s.own<ct)=false:=decide_eq_false (by omega);have hown0:=h.pb.own;have hct1:1≤ct∧ct≤s.own:=⟨by rw [hneed];split<;>omega,by omega⟩;have hcl16:T=false→(l.length:Int)≤r.n:=fun q=>by
    rw [q] at hneed;have h1:=h.pb.sum;have h2:=zbg fun x hx=>(h.pb.el x hx).2.2.1;simp at hneed;omega
  have hown64:IntKind.wrap .i64 (s.own-ct)=s.own-ct:=zaT (by omega) (by have:=h.pb.sum;have:=zbg fun x hx=>(h.pb.el x hx).2.2.1;omega);have hobj:=h.f.obj;have hc0: ∀w1,Below w.heap.size w w1→w1.cell? ⟨S,0,none⟩=some (.pointer (some ⟨P,0,none⟩)):=fun w1 hb=>by
    obtain ⟨stv,nowv,sgv,puv,h1,_⟩:=hobj;exact (h1.below hb h1.lt).cell 0 _ rfl
  have hc7: ∀w1,Below w.heap.size w w1→w1.cell? ⟨S,7,none⟩=some (.bool s.tb):=fun w1 hb=>by
    obtain ⟨stv,nowv,sgv,puv,h1,_⟩:=hobj;exact (h1.below hb h1.lt).cell 7 _ rfl
  have hc15: ∀w1,Below w.heap.size w w1→w1.cell? ⟨S,15,none⟩=some (.slice (some ⟨I,0,none⟩) r.n.toNat r.n.toNat):=fun w1 hb=>by
    obtain ⟨stv,nowv,sgv,puv,h1,_⟩:=hobj;exact (h1.below hb h1.lt).cell 15 _ rfl
  have hc14: ∀w1,Below w.heap.size w w1→w1.cell? ⟨S,14,none⟩=some (.int .i64 s.own):=fun w1 hb=>by
    obtain ⟨stv,nowv,sgv,puv,h1,_⟩:=hobj;exact (h1.below hb h1.lt).cell 14 _ rfl
  have hl1:(1:Int)≤l.length:=by omega
  have e1:IntKind.wrap .u64 (id:Int)=id:=wrap_u64 _ (by omega) (by omega);have e2:IntKind.wrap .u64 ((id:Int)*1024)=(id:Int)*1024:=wrap_u64 _ (by omega) (by omega);have e3:IntKind.wrap .u64 (20000+(id:Int)*1024)=20000+(id:Int)*1024:=wrap_u64 _ (by omega) (by omega);have hb0:((l.length:Int)==0)=false:=by simpa using hl0
  have hph0:s.ph=0:=Decidable.not_not.1 hp;have hdF:dFns s.ph= []:=by rw [hph0];rfl
  replace hcl16:HidP _:=⟨hcl16⟩;replace hph0:HidP _:=⟨hph0⟩;have hput:HidP (s.puts r.n id l=if T=true then [zg5 id s.nx (zcD id) l.length s.nw] else ppTo r.n id s.nx s.nw l l.length):=⟨by unfold DS.puts;rw [hTt]⟩;have hTb:s.tb=true∨s.tb=false:=by cases s.tb<;>simp
  replace hbe:HidP _:=⟨hbe⟩;replace hct:HidP _:=⟨hct⟩;clear hb hp htk htkf hin hl0 hTt hneed hfull f1 f2 f3 f4 hid hol;have hTc:(s.tb=true∧T=true)∨(s.tb=true∧T=false)∨(s.tb=false∧T=false):=by
    rcases hTb with q|q
    · cases T
      · exact .inr (.inl ⟨q,rfl⟩)
      · exact .inl ⟨q,rfl⟩
    · rw [q,Bool.false_and] at hT;exact .inr (.inr ⟨q,hT.symm⟩)
  clear hTb;rcases hTc with ⟨htb,hTv⟩|⟨htb,hTv⟩|⟨htb,hTv⟩
  · rw [htb] at hT hc7;rw [Bool.true_and] at hT;subst hTv;clear htb hTe;go_enter func13,ntmps13;go_wp2_with (first
      | (go_at_call 61;refine hrd.mono ?_;rintro e w' ⟨rfl,hw⟩;have hw:=hw.symm;subst hw)
      | (go_at_call 30;refine hout.mono ?_;rintro e w1 ⟨u,rfl,hu,hb1⟩)
      | (go_at_call 62;refine (hcon _ _ hu).mono ?_;rintro e w' ⟨rfl,hw⟩;have hw:=hw.symm;subst hw;have x0:=hc0 _ hb1)
      | (go_at_call 63;refine (hin2 _ hb1).mono ?_;rintro e w2 ⟨rfl,hb2⟩;have hb12:=hb1.trans (hb2.mono hb1.size);have x7:=hc7 _ hb12)
      | go_in)
    have hbd:=(Below.refl w2.heap.size w2).drew;have hb2d:=hb12.trans (hbd.mono hb12.size);have y15:=hc15 _ hb12;have z15:=hc15 _ hb2d;go_region_held3 (fun w'=>w'.cell? ⟨S,15,none⟩=some (.slice (some ⟨I,0,none⟩) r.n.toNat r.n.toNat)) (go_keep)
      ((first
        | (go_at_call 64;refine (hnd _ hb2d).mono ?_;rintro en w3 ⟨rfl,hb3⟩;have hb13:=hb2d.trans (hb3.mono hb2d.size);have v15:=hc15 _ hb13)
        | (go_at_call 65;refine (hidx _ hb13).mono ?_;rintro en w' ⟨rfl,hw⟩;have hw:=hw.symm;subst hw)))
    have x14:=hc14 _ hb13;have h3:=h.f.below hb13;have hcl:=zil (hv.below hb13) (by omega);have hsz3:=hb13.size;go_wp2_with (first
      | (go_at_call 66;refine hcl.mono ?_;rintro en w4 ⟨u4,rfl,hu4,hb4⟩;have h4:=h3.below hb4;have hu4v:=OwnSeg.segV hu4 hok (A:=A) (fun b q1 q2=>by have:=h.f.lt b q2;omega);obtain ⟨su4,cu4,hue,_⟩:=OwnSeg.slice hu4;subst hue;obtain ⟨stv4,nowv4,sgv4,puv4,o4,_⟩:=h4.obj;have x18:=o4.cell 18 _ rfl;have f18:=o4.free 18;have h5:=h4.setSeg hu4v;have hm5:=zaj (Dw.Mv.refl (· =S) w4) S 18 (.slice su4 l.length cu4) rfl;have o5:=o4.set 18 (.slice su4 l.length cu4) (by show 18<27;decide))
      | go_in)
    generalize w4.setCell ⟨S,18,none⟩ (.slice su4 l.length cu4)=w5 at*;have hm05:Dw.Mv (fun b=>b=S∨b=I) w w5:=((zaa hb13).trans (zaa hb4)).trans (hm5.mono fun b q=> .inl q);clear x18 f18 x14 x0 x7 y15 z15 v15 hcl hrd hin2 hout hcon hnd hidx hobj hc0 hc7 hc15 hc14 ht' hu hid2 hown2 hb1 hb2 hb12 hbd hb2d hb3 h3 h4 o4 hb0;have o5':Cl w5 S (({ s with sg:=l }:DS).row r P I stv4 nowv4 (.slice su4 l.length cu4) puv4):=o5;have x10:=o5'.cell 10 (.int .i64 s.nx) rfl;have x11:=o5'.cell 11 (.bool s.nw) rfl;have x2:=o5'.cell 2 (.int .i64 r.n) rfl;have x9:=o5'.cell 9 (.int .u64 20000) rfl;have x19:=o5'.cell 19 _ rfl;have f19:=o5'.free 19;have hone:=fun w'=>zsV (n:=r.n) (a:=s.nx) (id:=id) (m:=l.length) (ad:=20000+id*1024) (x:=s.nw) ⟨hbn.1,by omega⟩ h.pb.nx ⟨by omega,by omega⟩ ⟨by omega,by omega⟩ w';unfold posV at hone;generalize hfl:zcj 4 s.nw=fl at hone;replace hfl:HidP _:=⟨hfl⟩;replace hlt:HidP _:=⟨hlt⟩;go_wp2_with fail;go_cut [12,13] from 73 to 96 (fun z e wx=> ∃Zb,z= .pointer (some ⟨Zb,0,none⟩)∧e= .int .i64 0∧Cl wx Zb [.int .i64 s.nx,.int .u64 (20000+id*1024),.int .u32 (16*l.length),.int .u16 id,.int .u16 fl]∧Below w5.heap.size w5 wx)
    case first=>
      have hbz0:=(Below.refl w5.heap.size w5).alloc (Nat.le_refl _) (Obj.cells #[.int .i64 0,.int .u64 0,.int .u32 0,.int .u16 0,.int .u16 0] 139);have hbD:=(Below.refl w5.heap.size w5).drew;have hS5:w5.heap.size≠S:=by have:=o5'.lt;omega
      have hS6:S≠w5.heap.size:=fun q=>hS5 q.symm;have hbZ:=hbz0.drew;have od:=o5'.below hbD o5'.lt;have oz:=o5'.below hbZ o5'.lt;have d10:=od.cell 10 (.int .i64 s.nx) rfl;have d11:=od.cell 11 (.bool s.nw) rfl;have d2:=od.cell 2 (.int .i64 r.n) rfl;have d9:=od.cell 9 (.int .u64 20000) rfl;have g10:=oz.cell 10 (.int .i64 s.nx) rfl;have g11:=oz.cell 11 (.bool s.nw) rfl;have g2:=oz.cell 2 (.int .i64 r.n) rfl;have g9:=oz.cell 9 (.int .u64 20000) rfl;go_region_held3 (fun w'=>w'.cell? ⟨S,10,none⟩=some (.int .i64 s.nx)∧w'.cell? ⟨S,11,none⟩=some (.bool s.nw)∧w'.cell? ⟨S,2,none⟩=some (.int .i64 r.n)∧w'.cell? ⟨S,9,none⟩=some (.int .u64 20000)) (go_keep)
        ((first
          | (go_at_call 67;refine (hone (w5.drew)).mono ?_;rintro en w9 ⟨rfl,hb9⟩;have hd9:=hbD.trans (hb9.mono (Nat.le_refl _));have on:=od.below hb9 od.lt;have v10:=on.cell 10 (.int .i64 s.nx) rfl;have v11:=on.cell 11 (.bool s.nw) rfl;have v2:=on.cell 2 (.int .i64 r.n) rfl;have v9:=on.cell 9 (.int .u64 20000) rfl)
          | (go_at_call 67;refine (hone ((w5.alloc (Obj.cells #[.int .i64 0,.int .u64 0,.int .u32 0,.int .u16 0,.int .u16 0] 139)).drew)).mono ?_;rintro en w9 ⟨rfl,hb9⟩;have hd9:=hbZ.trans (hb9.mono hbZ.size);have on:=oz.below hb9 oz.lt;have v10:=on.cell 10 (.int .i64 s.nx) rfl;have v11:=on.cell 11 (.bool s.nw) rfl;have v2:=on.cell 2 (.int .i64 r.n) rfl;have v9:=on.cell 9 (.int .u64 20000) rfl;have zc:=((Cl.new w5 #[.int .i64 0,.int .u64 0,.int .u32 0,.int .u16 0,.int .u16 0] 139).kept (w':=(w5.alloc (Obj.cells #[.int .i64 0,.int .u64 0,.int .u32 0,.int .u16 0,.int .u16 0] 139)).drew) rfl).below hb9 (by simp);have zc0:=zc.cell 0 _ rfl;have zf0:=zc.free 0;have zc1:=zc.cell 1 _ rfl;have zf1:=zc.free 1;have zc2:=zc.cell 2 _ rfl;have zf2:=zc.free 2;have zc3:=zc.cell 3 _ rfl;have zf3:=zc.free 3;have zc4:=zc.cell 4 _ rfl;have zf4:=zc.free 4)))
      all_goals
        go_wp2_with fail;go_meet
        first
          | exact ⟨w9.heap.size,rfl,rfl,Cl.new w9 _ _,hd9.alloc hd9.size _⟩
          | exact ⟨w5.heap.size,rfl,rfl,((((zc.set 0 _ (by simp)).set 1 _ (by simp)).set 2 _ (by simp)).set 3 _ (by simp)).set 4 _ (by simp),zbu (zai (zai (zai (zai (zai (zaa (K:=fun _=>False) hd9) w5.heap.size 0 _ (.inr (Nat.le_refl _))) w5.heap.size 1 _ (.inr (Nat.le_refl _))) w5.heap.size 2 _ (.inr (Nat.le_refl _))) w5.heap.size 3 _ (.inr (Nat.le_refl _))) w5.heap.size 4 _ (.inr (Nat.le_refl _)))⟩
    case rest=>
    obtain ⟨Zb,rfl,rfl,hZ,hb6⟩:=hcut;have a0:=hZ.cell 0 _ rfl;have a1:=hZ.cell 1 _ rfl;have a2:=hZ.cell 2 _ rfl;have a3:=hZ.cell 3 _ rfl;have a4:=hZ.cell 4 _ rfl;have h6:=h5.below hb6;have hbV:=(Below.refl wc.heap.size wc).alloc (Nat.le_refl _) (Obj.cells #[.int .i64 s.nx,.int .u64 (20000+id*1024),.int .u32 (16*l.length),.int .u16 id,.int .u16 fl] 139);have kV:=Cl.new wc #[.int .i64 s.nx,.int .u64 (20000+id*1024),.int .u32 (16*l.length),.int .u16 id,.int .u16 fl] 139;have hPV:PutV A (wc.alloc (Obj.cells #[.int .i64 s.nx,.int .u64 (20000+id*1024),.int .u32 (16*l.length),.int .u16 id,.int .u16 fl] 139)) (.slice (some ⟨wc.heap.size,0,none⟩) 1 1) (s.puts r.n id l):=by
      rw [hput.out]
      first|rw [if_pos rfl]|rw [if_pos trivial]
      refine ⟨_,_,rfl,.inr ⟨wc.heap.size,0,rfl,fun q=>absurd (h6.lt _ q) (Nat.lt_irrefl _),fun j y hy=> ?_⟩⟩;rw [Nat.zero_add];have e:zaQ [zg5 (id:Int) s.nx (zcD id) l.length s.nw]= [.int .i64 s.nx,.int .u64 (20000+id*1024),.int .u32 (16*l.length),.int .u16 id,.int .u16 fl]:=by
        rw [←hfl.out];unfold zaQ zg5 zcD Pt.cells;simp [Int.mul_comm]
      rw [e] at hy;exact kV.cell j y hy
    have o6a:=(o5'.below hb6 o5'.lt).below hbV (o5'.below hb6 o5'.lt).lt;have m19:=o6a.cell 19 _ rfl;have n19:=o6a.free 19;have h7:=(h6.below hbV).setPut hPV;have hm7:=zaj (Dw.Mv.refl (· =S) (wc.alloc (Obj.cells #[.int .i64 s.nx,.int .u64 (20000+id*1024),.int .u32 (16*l.length),.int .u16 id,.int .u16 fl] 139))) S 19 (.slice (some ⟨wc.heap.size,0,none⟩) 1 1) rfl;have hm07:=((hm05.trans (zaa hb6)).trans (zaa hbV)).trans (hm7.mono fun b q=> .inl q);clear x10 x11 x2 x9 x19 f19;have hbO:=(Below.refl ((wc.alloc (Obj.cells #[.int .i64 s.nx,.int .u64 (20000+id*1024),.int .u32 (16*l.length),.int .u16 id,.int .u16 fl] 139)).setCell ⟨S,19,none⟩ (.slice (some ⟨wc.heap.size,0,none⟩) 1 1)).heap.size ((wc.alloc (Obj.cells #[.int .i64 s.nx,.int .u64 (20000+id*1024),.int .u32 (16*l.length),.int .u16 id,.int .u16 fl] 139)).setCell ⟨S,19,none⟩ (.slice (some ⟨wc.heap.size,0,none⟩) 1 1))).alloc (Nat.le_refl _) (Obj.cells #[.int .i64 id,.int .i64 t,.int .i64 ct] 145);obtain ⟨stv7,nowv7,sgv7,puv7,o7,_⟩:=h7.obj;have o7a:=o7.below hbO o7.lt;have y17:=o7a.cell 17 _ rfl;have g17:=o7a.free 17;have kO:=Cl.new2 (w:=((wc.alloc (Obj.cells #[.int .i64 s.nx,.int .u64 (20000+id*1024),.int .u32 (16*l.length),.int .u16 id,.int .u16 fl] 139)).setCell ⟨S,19,none⟩ (.slice (some ⟨wc.heap.size,0,none⟩) 1 1))) (b:=(wc.heap.size+1)) (arr:= #[.int .i64 id,.int .i64 t,.int .i64 ct]) (t:=145) (by simp);have hOA: ¬A ((wc.heap.size+1)):=fun q=>absurd (h7.lt _ q) (by simp);have hO8:NowV A (((wc.alloc (Obj.cells #[.int .i64 s.nx,.int .u64 (20000+id*1024),.int .u32 (16*l.length),.int .u16 id,.int .u16 fl] 139)).setCell ⟨S,19,none⟩ (.slice (some ⟨wc.heap.size,0,none⟩) 1 1)).alloc (Obj.cells #[.int .i64 id,.int .i64 t,.int .i64 ct] 145)) (.pointer (some ⟨(wc.heap.size+1),0,none⟩)) ⟨id,t,ct⟩:=⟨(wc.heap.size+1),rfl,hOA,fun j y hy=>by rw [Nat.zero_add];exact kO.cell j y hy⟩;have h8:=(h7.below hbO).setNow hO8;have hm8:=zaj (Dw.Mv.refl (· =S) (((wc.alloc (Obj.cells #[.int .i64 s.nx,.int .u64 (20000+id*1024),.int .u32 (16*l.length),.int .u16 id,.int .u16 fl] 139)).setCell ⟨S,19,none⟩ (.slice (some ⟨wc.heap.size,0,none⟩) 1 1)).alloc (Obj.cells #[.int .i64 id,.int .i64 t,.int .i64 ct] 145))) S 17 (.pointer (some ⟨(wc.heap.size+1),0,none⟩)) rfl;have o8:=o7a.set 17 (.pointer (some ⟨(wc.heap.size+1),0,none⟩)) (by show 17<27;decide);have hO8':=hO8.setK (A':=A) (fun _ _ q=>q) fun b hb hn=>hm8.block b hb fun e=>hn (by have e:b=S:=e;exact e▸h.f.aS);have o8':Cl ((((wc.alloc (Obj.cells #[.int .i64 s.nx,.int .u64 (20000+id*1024),.int .u32 (16*l.length),.int .u16 id,.int .u16 fl] 139)).setCell ⟨S,19,none⟩ (.slice (some ⟨wc.heap.size,0,none⟩) 1 1)).alloc (Obj.cells #[.int .i64 id,.int .i64 t,.int .i64 ct] 145)).setCell ⟨S,17,none⟩ (.pointer (some ⟨(wc.heap.size+1),0,none⟩))) S (({ s with sg:=l,pu:=s.puts r.n id l,c:=⟨id,t,ct⟩ }:DS).row r P I stv7 (.pointer (some ⟨(wc.heap.size+1),0,none⟩)) sgv7 puv7):=o8;replace hlt:HidP _:=⟨hlt⟩;go_wp2_with fail;generalize ((((wc.alloc (Obj.cells #[.int .i64 s.nx,.int .u64 (20000+id*1024),.int .u32 (16*l.length),.int .u16 id,.int .u16 fl] 139)).setCell ⟨S,19,none⟩ (.slice (some ⟨wc.heap.size,0,none⟩) 1 1)).alloc (Obj.cells #[.int .i64 id,.int .i64 t,.int .i64 ct] 145)).setCell ⟨S,17,none⟩ (.pointer (some ⟨(wc.heap.size+1),0,none⟩)))=w8 at*;clear y17 g17;have z15:=o8'.cell 15 _ rfl;have z17:=o8'.cell 17 _ rfl;obtain ⟨vs,i1,i2,i3⟩:=h8.ids;have zI:=i1.cell id _ (List.getElem?_eq_getElem (by omega));have fI:=i1.free id;have hids:=IdsW.add ⟨vs,i1,i2,i3⟩ hfree h8.aI hidn hO8';clear i3;go_cut [] from 128 to 137 (fun wx=>DWf (dFns s.ph) True A wx S P L Bs B I N r ({ s with sg:=l,pu:=s.puts r.n id l,c:=⟨id,t,ct⟩,L:=s.L++ [⟨id,t,ct⟩] }:DS) g∧Cl wx S (({ s with sg:=l,pu:=s.puts r.n id l,c:=⟨id,t,ct⟩ }:DS).row r P I stv7 (.pointer (some ⟨(wc.heap.size+1),0,none⟩)) sgv7 puv7)∧Dw.Mv (· =I) w8 wx)
    case first=>
      go_region_law fail
      all_goals
        go_wp2_with fail;go_meet;have hmI:=(zaj (Dw.Mv.refl (· =I) w8) I id (.pointer (some ⟨(wc.heap.size+1),0,none⟩)) rfl);have hmI2:=hmI.trans (zaa ((Below.refl _ _).drew));exact ⟨(h8.setIds hmI hids).below ((Below.refl _ _).drew),o8'.kept (hmI2.block S o8'.lt h.f.ne),hmI2⟩
    case rest=>
      obtain ⟨h9,o9,hm9⟩:=hcut;clear z15 z17 zI fI;have z14:=o9.cell 14 _ rfl;have f14:=o9.free 14;have h10:=h9.setRow (s':= { s with sg:=l,pu:=s.puts r.n id l,c:=⟨id,t,ct⟩,L:=s.L++ [⟨id,t,ct⟩],own:=s.own-ct }) 14 (.int .i64 (s.own-ct)) (by decide) (fun _ _ _ _=>rfl) rfl rfl rfl rfl;have hm10:=zaj (Dw.Mv.refl (· =S) wc) S 14 (.int .i64 (s.own-ct)) rfl;generalize hw10:wc.setCell ⟨S,14,none⟩ (.int .i64 (s.own-ct))=w10 at h10 hm10;have hbF:=(Below.refl w10.heap.size w10).alloc (Nat.le_refl _) (Obj.cells #[.func (.func 70) #[.pointer (some ⟨S,0,none⟩)] #[],.func (.func 71) #[.pointer (some ⟨S,0,none⟩)] #[],.func (.func 72) #[.pointer (some ⟨S,0,none⟩)] #[],.func (.func 71) #[.pointer (some ⟨S,0,none⟩)] #[],.func (.func 73) #[.pointer (some ⟨S,0,none⟩)] #[]] 155);have hst:=StepV.new (A:=A) (S:=S) (w:=w10) (l:=dFns 1) (cs:= #[.func (.func 70) #[.pointer (some ⟨S,0,none⟩)] #[],.func (.func 71) #[.pointer (some ⟨S,0,none⟩)] #[],.func (.func 72) #[.pointer (some ⟨S,0,none⟩)] #[],.func (.func 71) #[.pointer (some ⟨S,0,none⟩)] #[],.func (.func 73) #[.pointer (some ⟨S,0,none⟩)] #[]]) h10.lt 155 rfl;rw [show w10.heap.size=wc.heap.size from by rw [←hw10];simp,show (dFns 1).length=5 from rfl] at hst;have hbg:=zhO (h10.below hbF) hst 1 t 0 false false;subst hw10;go_wp2_with (first
        | (go_at_call 69;refine hbg.mono ?_;rintro e w12 ⟨rfl,h12,hm12⟩)
        | go_in)
      go_ret;refine ⟨rfl,⟨(h12.nwMono fun _=>trivial).alt (fun _ _ _ _=>rfl) rfl rfl rfl rfl,hpb⟩,?_⟩;exact (((((hm07.trans (zaa hbO)).trans (hm8.mono fun b q=> .inl q)).trans (hm9.mono fun b q=> .inr q)).trans (hm10.mono fun b q=> .inl q)).trans (zaa hbF)).trans (hm12.mono fun b q=> .inl q)
  · exact absurd (hTv.symm.trans hTe.out) (by decide)
  · exact absurd (hTv.symm.trans hTe.out) (by decide)
end
end Go.Proofs
end
