/-
  Proved: laws on the way to 'SdriveHoldsProof' (texts YaD YaE YaF YaG QaE0 QaA QaB QaC QaD QaE QaF QaG QaH XcR XcM XaR XaS0 XaS XaT XaU XaV XaW XaX XaY XaZ XbA XcJ XcK XcL XcN XcO XcS XcT XcD XcE XcU XcV XbB XcF XbC XbD XbH XcG XcW XcH XcX XcY XcZ XdA XdB0 XdB XdC XdD XbI XbK XbM XbN XbF XbG XbE XbO XbP XbQ XbR XcP XdE XdF XdG0 XdG XdH XdI XdJ QaI QbE PsA PsB0 QbA PsB PsC QbB QbC QbD PsD0 PsD PsE QbF QbG QbH XdK QbI QbJ QbK QbL QbM QbN QbO QbP QbQ QbR QbS PsV PsW QbT QbU QbW QbY YaH YbA PsG0 PsG PsH PsI PsJ PsK0 PsK PsL PsM PsF PsN PsO PsP0 PsP PsQ PsR0 PsR PsS PsT PsU PsX PsY PtA0 PtA PtB PtC PtD PtE0 PtE PtF PtG VaA VaB VaC VaD RyE VaE VaF VaG VaH VaI VaJ VaK VaL VaM VaN VaO VaP VaQ VaR); no condition.
-/
import Derived.Test.YtaichlekaoefpaaGreatM6
import Derived.Laws.IdiomCopy
import Derived.OpenShut
import Derived.Lib.LaidU8
import Derived.Deep.RegionHeld3
import Derived.Deep.DrawnRows
import Derived.Deep.RegionWith
set_option linter.unusedSimpArgs false
set_option linter.unusedVariables false
set_option maxHeartbeats 4000000
noncomputable section
namespace Go.Proofs
open Go.Dw Go.RowKit
structure Tryz.zxb (N:Nat) (s:SD) (t:Int) (l:List Sg) (s1:SD):Prop where
 br:s.br=false
 ph:s.ph=0
 t0:0≤t
 seg:zbs N l=0
 ne:l≠ []
 len:s.need l≤s.F.length
 eq:s1= { s with c:=⟨s.F.take (s.need l),t⟩,sg:=l,F:=s.F.drop (s.need l),L:=s.L++ [⟨s.F.take (s.need l),t⟩],ph:=1,dn:=false,op:=1,nn:=false,tok:=t,wr:=0,kk:=false }
theorem Tryz.zmU {N:Nat} {s:SD} {t:Int} {l:List Sg} (h:(zbG N s t l).1=0):zxb N s t l (zbG N s t l).2:=by
 unfold zbG at h ⊢;split at h
 ·cases h
 ·rename_i h1;rw [if_neg h1];split at h
  ·cases h
  ·rename_i h2;rw [if_neg h2];split at h
   ·cases h
   ·rename_i h3;rw [if_neg h3];split at h
    ·rename_i h4;exact absurd h h4
    ·rename_i h4;rw [if_neg h4];split at h
     ·cases h
     ·rename_i h5;rw [if_neg h5];split at h
      ·cases h
      ·rename_i h6;rw [if_neg h6];exact ⟨by simpa using h1,by omega,by omega,by omega,fun e=>h5 (by rw [e];rfl),by omega,rfl⟩
theorem Tryz.zpH {N:Nat} {l:List Sg} (h:zbs N l=0):l.length≤64∧zaO l=0:=by
 unfold zbs at h;by_cases he:zaO l=0
 ·refine ⟨?_,he⟩;unfold zaO at he;split at he
  ·cases he
  ·omega
 ·simp [he] at h
theorem Tryz.zt7: ∀(ps:List Pt) (k i:Nat) (hk:k<ps.length),i<16→(ps.flatMap Pt.bytes).getD (16*k+i) 0=(ps[k]'(hk)).bytes.getD i 0
 | p::ps,0,i,_,hi=>by
  rw [List.flatMap_cons,List.getD_eq_getElem?_getD,List.getElem?_append_left (by rw [Pt.bytes_len];omega),←List.getD_eq_getElem?_getD,Nat.mul_zero,Nat.zero_add];rfl
 | p::ps,k+1,i,hk,hi=>by
  have hl:=Pt.bytes_len p;rw [List.flatMap_cons,List.getD_eq_getElem?_getD,List.getElem?_append_right (by rw [hl];omega),hl,←List.getD_eq_getElem?_getD,show 16*(k+1)+i-16=16*k+i by omega];exact zt7 ps k i (by simpa using hk) hi
theorem Tryz.zin (ps:List Pt):(ps.flatMap Pt.bytes).length=16*ps.length:=by
 induction ps with
 | nil=>rfl
 | cons p ps ih=>rw [List.flatMap_cons,List.length_append,ih,Pt.bytes_len,List.length_cons];omega
theorem Tryz.zmT (l:List Sg):(zaN l).length=16*l.length:=by
 unfold zaN;rw [zin,zcZ]
theorem Tryz.zsd {l:List Sg} {k i:Nat} (hk:k<l.length) (hi:i<16):(zaN l).getD (16*k+i) 0=(putAt (upto l.length) l k).bytes.getD i 0:=by
 unfold zaN;rw [zt7 _ _ _ (by rw [zcZ];exact hk) hi];congr 2;simp [za6,upto]
theorem Tryz.zpz: ∀ {F:List Int} {m:Nat} (h:0<F.length),1≤m→(F.take m).headD 0=F[0]'(h)
 | x::q,m+1,_,_=>rfl
theorem Tryz.zon {N:Nat} {r:Rg} {s s1:SD} {t:Int} {l:List Sg} {g g':Nat→Int} (hr:RgOk r) (hn16:r.n≤16) (hv:r.d+16*r.n≤r.v∧r.v+6+2*r.n≤20000) (hb:SDB r.n.toNat s) (hN:40000≤N∧N≤1048576) (hy:zxb N s t l s1) (hok: ∀x∈l,x.ok)
  (hg: ∀j,j<N→g' j=putW (putW (zdg r s1 g) (r.v+4+2*(s.av%r.n)).toNat 2 s1.c.head) (r.v+2).toNat 2 ((s.av+1)%65536) j):
  zaf g' (r.v+2).toNat 2=(s.av+1)%65536∧zaf g' (r.v+4+2*(s.av%r.n)).toNat 2=s1.c.head∧zda N g' r s1.c.head s.tb=(l,0)∧0≤s1.c.head∧s1.c.head<r.n:=by
 have hbn:=hr.bnd;have hd0:=hr.d0;have hv0:=hr.v0;have hm0:0≤s.av%r.n:=Int.emod_nonneg _ (by omega);have hm1:s.av%r.n<r.n:=Int.emod_lt_of_pos _ (by omega);have hlp:0<l.length:=List.length_pos_iff.2 hy.ne;have h64:=(zpH hy.seg).1;have hne1:=zlH s l (by omega);have hlen:=hy.len;have hs1:=hy.eq;have hc:s1.c=⟨s.F.take (s.need l),t⟩:=by rw [hs1]
 have hsg:s1.sg=l:=by rw [hs1]
 have htb:s1.tab l=s.tab l:=by rw [hs1];rfl
 have hF0:0<s.F.length:=by omega
 have hhd:s1.c.head=s.F[0]:=by
  rw [hc];unfold SO.head;exact zpz hF0 hne1.1
 have hfin: ∀x∈s.F,0≤x∧x<r.n:=fun x hx=>by
  have:=hb.lo x (List.mem_append_left _ hx);omega
 have hhb:=hfin _ (List.getElem_mem hF0);rw [←hhd] at hhb;have hall:=hb.all;rw [List.length_append] at hall;have q1: ∀i,i<2→g' ((r.v+2).toNat+i)=putW (putW (zdg r s1 g) (r.v+4+2*(s.av%r.n)).toNat 2 s1.c.head) (r.v+2).toNat 2 ((s.av+1)%65536) ((r.v+2).toNat+i):=fun i hi=>hg _ (by omega);have q2: ∀i,i<2→g' ((r.v+4+2*(s.av%r.n)).toNat+i)=putW (putW (zdg r s1 g) (r.v+4+2*(s.av%r.n)).toNat 2 s1.c.head) (r.v+2).toNat 2 ((s.av+1)%65536) ((r.v+4+2*(s.av%r.n)).toNat+i):=fun i hi=>hg _ (by omega);have q3: ∀j:Nat,j<N→((j:Int)<r.v∨r.v+4+2*r.n≤(j:Int))→g' j=zdg r s1 g j:=fun j hj h=>by
  rw [hg j hj];unfold putW;rw [if_neg (by omega),if_neg (by omega)]
 refine ⟨?_,?_,?_,hhb.1,hhb.2⟩
 ·rw [zeG q1,zgg (by omega)];exact Int.emod_eq_of_lt (by omega) (by show (s.av+1)%65536<65536;omega)
 ·rw [zeG q2,zen (by omega),zgg hhb.1];exact Int.emod_eq_of_lt hhb.1 (by show s1.c.head<65536;omega)
 ·by_cases ht:s.tab l=true
  ·have htb1:s.tb=true:=by
    unfold SD.tab at ht;simp at ht;exact ht.1
   have hM:zdg r s1 g=zdC r.d [zdI s1.c.head l.length] (putL g (zcS s1.c.head).toNat (zaN l)):=by
    unfold zdg SD.puts;rw [hsg,htb,if_pos ht,if_pos ht]
   rw [htb1];obtain ⟨p1,p2⟩:=zlD hd0 (ps:= [zdI s1.c.head l.length]) (g:=putL g (zcS s1.c.head).toNat (zaN l)) (by simp) fun p hp=>by
    rw [List.mem_singleton] at hp;rw [hp];exact hhb.1
   have h1:=p1 _ (List.mem_singleton.2 rfl);have hA:zcS s1.c.head=20000+1024*s1.c.head:=rfl;refine zpI (A:=zcS s1.c.head) hbn hd0 (by omega) hN.2 hhb ⟨by omega,by omega⟩ h64 hok hy.ne hy.seg ⟨fun i hi=> ?_⟩ fun k hk=>⟨fun i hi=> ?_⟩
   ·rw [q3 _ (by omega) (by omega),hM];exact h1.w i hi
   ·rw [q3 _ (by omega) (by omega),hM,p2 _ fun p hp=>by
     rw [List.mem_singleton] at hp;rw [hp];show _<r.d+16*s1.c.head∨r.d+16*s1.c.head+16≤_;omega]
    rw [zgR,if_pos (by rw [zmT];omega),show (zcS s1.c.head+16*(k:Int)).toNat+i-(zcS s1.c.head).toNat=16*k+i by omega];exact zsd hk hi
  ·have hnd:s.need l=l.length:=by unfold SD.need;rw [if_neg ht]
   have hM:zdg r s1 g=zdC r.d (za6 (s.F.take l.length) l l.length) g:=by
    unfold zdg SD.puts;rw [hsg,htb,if_neg ht,if_neg ht,hc,hnd]
   have hil:(s.F.take l.length).length=l.length:=by rw [List.length_take];omega
   have hndp:(s.F.take l.length).Nodup:=((List.nodup_append.1 hb.nd).1).sublist (List.take_sublist _ _);have hin: ∀x∈s.F.take l.length,0≤x∧x<r.n:=fun x hx=>hfin x (List.mem_of_mem_take hx);have h0:s1.c.head=(s.F.take l.length).getD 0 0:=by
    rw [hhd,List.getD_eq_getElem?_getD,List.getElem?_take_of_lt hlp,List.getElem?_eq_getElem hF0];rfl
   have hmap:(za6 (s.F.take l.length) l l.length).map (·.at0)=s.F.take l.length:=by
    refine List.ext_getElem (by simp only [List.length_map,zcZ,hil]) fun i h1 h2=> ?_;have h3:i<l.length:=by rw [hil] at h2;exact h2
    simp only [za6,putAt,List.getElem_map,List.getElem_range,List.getD_eq_getElem?_getD,List.getElem?_eq_getElem h2,Option.getD_some]
   obtain ⟨p1,_⟩:=zlD hd0 (ps:=za6 (s.F.take l.length) l l.length) (g:=g) (by rw [hmap];exact hndp) fun p hp=>(zeW hil hok (fun x hx=>⟨(hin x hx).1,by have:=(hin x hx).2;omega⟩) p hp).2.1;rw [h0];refine zok hbn hd0 (by omega) hN.2 hil (by omega) hndp hin hok hy.ne hy.seg s.tb fun k hk=>⟨fun i hi=> ?_⟩;have hki:k<(s.F.take l.length).length:=by rw [hil];exact hk
   have gk:(s.F.take l.length).getD k 0=(s.F.take l.length)[k]:=by simp only [List.getD_eq_getElem?_getD,List.getElem?_eq_getElem hki,Option.getD_some]
   have hbi:=hin _ (List.getElem_mem hki);rw [←gk] at hbi;rw [q3 _ (by omega) (by omega),hM];exact (p1 (putAt (s.F.take l.length) l k) (List.mem_map.2 ⟨k,List.mem_range.2 hk,rfl⟩)).w i hi
def Tryz.zdL (r:Rg):Nat→Int→SD→(Nat→Int)→Int×SD×(Nat→Int)
 | 0,n,s,g=>(n,s,g)
 | f+1,n,s,g=>if s.ph=0 then (n,s,g) else if (zay r s g).2.1=0 then zdL r f (n+1) (zay r s g).2.2.1 (zay r s g).2.2.2 else (-1,(zay r s g).2.2.1,(zay r s g).2.2.2)
theorem Tryz.zfk {r:Rg} {f:Nat} {n:Int} {s:SD} {g:Nat→Int} (h:s.ph=0):zdL r f n s g=(n,s,g):=by
 cases f with
 | zero=>rfl
 | succ f=>unfold zdL;rw [if_pos h]
theorem Tryz.zbk {r:Rg} {f:Nat} {n:Int} {s:SD} {g:Nat→Int} {x:Value} {s':SD} {g':Nat→Int} (h:s.ph≠0) (e:zay r s g=(x,0,s',g')):zdL r (f+1) n s g=zdL r f (n+1) s' g':=by
 conv=>lhs;unfold zdL
 rw [if_neg h,e];rfl
theorem Tryz.zce {r:Rg} {s:SD} {g:Nat→Int} {p:Nat} (hb:s.br=false) (hp:s.ph=p) (h0:p≠0):zay r s g=zcl r s g p:=by
 unfold zay;rw [if_neg (by rw [hb];decide),hp,if_neg h0]
def Tryz.zhD (r:Rg) (s1:SD) (g:Nat→Int):Nat→Int:=putW (putW (zdg r s1 g) (r.v+4+2*(s1.av%r.n)).toNat 2 s1.c.head) (r.v+2).toNat 2 ((s1.av+1)%65536)
theorem Tryz.zwB (r:Rg) (s:SD) (g:Nat→Int): ∃x kk,zcl r s g 6=(x,0,({ s with kk:=kk }:SD).stop,g):=by
 have e:zcl r s g 6=if s.ev=true then (.agg #[.int .i64 2,.int .i64 9,.int .i64 0],0,({ s with kk:=zlX (zaf g (r.c+4+8*r.n).toNat 2) s.av ((s.av-1)%65536) }:SD).stop,g)
  else (.agg #[.int .i64 2,.int .i64 6,.int .i64 0],0,({ s with kk:=decide (zaf g r.c.toNat 2%2=0) }:SD).stop,g):=rfl
 by_cases h:s.ev=true
 ·rw [if_pos h] at e;exact ⟨_,_,e⟩
 ·rw [if_neg h] at e;exact ⟨_,_,e⟩
theorem Tryz.zlt {r:Rg} {s1:SD} {g:Nat→Int} (hp:s1.ph=1) (hb:s1.br=false): ∃kk,zdL r 20 0 s1 g=(6,{ s1 with av:=(s1.av+1)%65536,kk:=kk,ph:=0,dn:=true },zhD r s1 g):=by
 have e1:zay r s1 g=(.agg #[.int .i64 1,.int .i64 0,.int .i64 0],0,s1.goto 2,zdg r s1 g):=by rw [zce hb hp (by decide)];rfl
 obtain ⟨g2,hg2⟩: ∃g2,g2=putW (zdg r s1 g) (r.v+4+2*(s1.av%r.n)).toNat 2 s1.c.head:=⟨_,rfl⟩;have e2:zay r (s1.goto 2) (zdg r s1 g)=(.agg #[.int .i64 3,.int .i64 4,.int .i64 (s1.av%r.n)],0,(s1.goto 2).goto 3,g2):=by rw [zce (s:=s1.goto 2) (p:=2) hb rfl (by decide),hg2];rfl
 have e3:zay r ((s1.goto 2).goto 3) g2=(.agg #[.int .i64 4,.int .i64 0,.int .i64 0],0,((s1.goto 2).goto 3).goto 4,g2):=by rw [zce (s:=(s1.goto 2).goto 3) (p:=3) hb rfl (by decide)];rfl
 obtain ⟨s5,hs5⟩: ∃s5:SD,s5=({ ((s1.goto 2).goto 3).goto 4 with av:=(s1.av+1)%65536 }:SD).goto 5:=⟨_,rfl⟩;have e4:zay r (((s1.goto 2).goto 3).goto 4) g2=(.agg #[.int .i64 3,.int .i64 3,.int .i64 0],0,s5,zhD r s1 g):=by
  rw [zce (s:=((s1.goto 2).goto 3).goto 4) (p:=4) hb rfl (by decide),hs5];unfold zhD;rw [←hg2];rfl
 have b5:s5.br=false:=by rw [hs5];exact hb
 have p5:s5.ph=5:=by rw [hs5];rfl
 have e5:zay r s5 (zhD r s1 g)=(.agg #[.int .i64 4,.int .i64 0,.int .i64 0],0,s5.goto 6,zhD r s1 g):=by rw [zce b5 p5 (by decide)];rfl
 obtain ⟨x,kk,e6⟩: ∃x kk,zay r (s5.goto 6) (zhD r s1 g)=(x,0,{ s1 with av:=(s1.av+1)%65536,kk:=kk,ph:=0,dn:=true },zhD r s1 g):=by
  rw [zce (s:=s5.goto 6) (p:=6) b5 rfl (by decide)];obtain ⟨x,kk,e⟩:=zwB r (s5.goto 6) (zhD r s1 g);exact ⟨x,kk,by rw [e,hs5];rfl⟩
 refine ⟨kk,?_⟩;rw [show (20:Nat)=14+1+1+1+1+1+1 from rfl,zbk (by rw [hp];decide) e1,zbk (by show (2:Nat)≠0;decide) e2,zbk (by show (3:Nat)≠0;decide) e3,zbk (by show (4:Nat)≠0;decide) e4,zbk (by rw [p5];decide) e5,zbk (by show (6:Nat)≠0;decide) e6,zfk rfl];rfl
theorem Tryz.zuQ {r:Rg} {s:SD} {g:Nat→Int} {e:SO} (h:zbb s.L (zaf g (r.c+4+8*(s.sn%r.n)).toNat 8%4294967296)=some e):zcl r s g 16=(.agg #[.int .i64 2,.int .i64 8,.int .i64 (s.sn%r.n)],0,({ s with tok:=e.tk,wr:=zaf g (r.c+4+8*(s.sn%r.n)).toNat 8/4294967296,F:=e.ids++s.F,L:=zbQ s.L e.head,sn:=(s.sn+1)%65536 }:SD).stop,g):=by
 have q:zcl r s g 16=match zbb s.L (zaf g (r.c+4+8*(s.sn%r.n)).toNat 8%4294967296) with
  | none=>(.agg #[.int .i64 2,.int .i64 8,.int .i64 (s.sn%r.n)],4,s.brk,g)
  | some e=>(.agg #[.int .i64 2,.int .i64 8,.int .i64 (s.sn%r.n)],0,({ s with tok:=e.tk,wr:=zaf g (r.c+4+8*(s.sn%r.n)).toNat 8/4294967296,F:=e.ids++s.F,L:=zbQ s.L e.head,sn:=(s.sn+1)%65536 }:SD).stop,g):=rfl
 rw [q,h]
theorem Tryz.zou {r:Rg} {s:SD} {g:Nat→Int} {e:SO} (hp:s.ph=0) (hb:s.br=false) (hu:0<zaG r s g∧zaG r s g≤r.n) (hget:zbb s.L (zaf g (r.c+4+8*(s.sn%r.n)).toNat 8%4294967296)=some e):
  (za9 s).1=0∧zdL r 20 0 (za9 s).2 g=(3,{ s with op:=2,nn:=false,tok:=e.tk,wr:=zaf g (r.c+4+8*(s.sn%r.n)).toNat 8/4294967296,kk:=false,F:=e.ids++s.F,L:=zbQ s.L e.head,sn:=(s.sn+1)%65536,ph:=0,dn:=true },g):=by
 have e0:za9 s=(0,{ s with ph:=11,dn:=false,op:=2,nn:=false,tok:=0,wr:=0,kk:=false }):=by
  unfold za9;rw [if_neg (by rw [hb];decide),if_neg (by rw [hp];decide)]
 rw [e0];refine ⟨rfl,?_⟩;obtain ⟨s1,hs1⟩: ∃s1:SD,s1= { s with ph:=11,dn:=false,op:=2,nn:=false,tok:=0,wr:=0,kk:=false }:=⟨_,rfl⟩;have hu1:0<zaG r s1 g∧zaG r s1 g≤r.n:=by rw [hs1];exact hu
 have hb1:s1.br=false:=by rw [hs1];exact hb
 have hp1:s1.ph=11:=by rw [hs1]
 have e1:zay r s1 g=(.agg #[.int .i64 2,.int .i64 7,.int .i64 0],0,s1.goto 15,g):=by
  have e:zcl r s1 g 11=if r.n<zaG r s1 g then (.agg #[.int .i64 2,.int .i64 7,.int .i64 0],4,s1.brk,g) else (.agg #[.int .i64 2,.int .i64 7,.int .i64 0],0,if 0<zaG r s1 g then s1.goto 15 else if s1.ev then s1.goto 12 else ({ s1 with nn:=true }:SD).stop,g):=rfl
  rw [zce hb1 hp1 (by decide),e,if_neg (by omega),if_pos hu1.1]
 have e2:zay r (s1.goto 15) g=(.agg #[.int .i64 4,.int .i64 0,.int .i64 0],0,(s1.goto 15).goto 16,g):=by rw [zce (s:=s1.goto 15) (p:=15) hb1 rfl (by decide)];rfl
 have hg1:zbb ((s1.goto 15).goto 16).L (zaf g (r.c+4+8*(((s1.goto 15).goto 16).sn%r.n)).toNat 8%4294967296)=some e:=by
  show zbb s1.L (zaf g (r.c+4+8*(s1.sn%r.n)).toNat 8%4294967296)=some e;rw [hs1];exact hget
 have e3:zay r ((s1.goto 15).goto 16) g=(.agg #[.int .i64 2,.int .i64 8,.int .i64 (s.sn%r.n)],0,{ s with op:=2,nn:=false,tok:=e.tk,wr:=zaf g (r.c+4+8*(s.sn%r.n)).toNat 8/4294967296,kk:=false,F:=e.ids++s.F,L:=zbQ s.L e.head,sn:=(s.sn+1)%65536,ph:=0,dn:=true },g):=by
  rw [zce (s:=(s1.goto 15).goto 16) (p:=16) hb1 rfl (by decide),zuQ hg1,hs1];rfl
 show zdL r 20 0 { s with ph:=11,dn:=false,op:=2,nn:=false,tok:=0,wr:=0,kk:=false } g=_;rw [←hs1,show (20:Nat)=17+1+1+1 from rfl,zbk (by rw [hp1];decide) e1,zbk (by show (15:Nat)≠0;decide) e2,zbk (by show (16:Nat)≠0;decide) e3,zfk rfl];rfl
theorem Tryz.zuR {N:Nat} {s:SD} {t:Int} {l:List Sg} (h:(zbG N s t l).1≠0):(zbG N s t l).2=s:=by
 unfold zbG at h ⊢
 repeat' split
 all_goals first|rfl|skip
 rename_i h1 h2 h3 h4 h5 h6;rw [if_neg h1,if_neg h2,if_neg h3,if_neg h4,if_neg h5,if_neg h6] at h;exact absurd rfl h
theorem Tryz.zpM {N:Nat} {s:SD} {t:Int} {l:List Sg} (hs7:zbs N l≠7) (h:(zbG N s t l).1=7):s.F.length<s.need l:=by
 unfold zbG at h;split at h
 ·cases h
 ·split at h
  ·cases h
  ·split at h
   ·cases h
   ·split at h
    ·exact absurd h hs7
    ·split at h
     ·cases h
     ·split at h
      ·assumption
      ·cases h
theorem Tryz.zc6: ∀ {L:List SO},(∀e∈L,e.ids≠ [])→(L.map SO.head).Sublist (L.flatMap (·.ids))
 | [], _=>List.Sublist.refl _
 | e::L,h=>by
  have ih:=zc6 (L:=L) fun x hx=>h x (.tail _ hx);have h0:=h e (.head _);rw [List.map_cons,List.flatMap_cons];unfold SO.head at ih ⊢;cases hi:e.ids with
  | nil=>exact absurd hi h0
  | cons x q=>exact .cons_cons x (ih.trans (List.sublist_append_right q _))
theorem Tryz.SDB.heads {n:Nat} {s:SD} (h:SDB n s):(s.L.map SO.head).Nodup:=((List.nodup_append.1 h.nd).2.1).sublist (zc6 h.ne)
theorem Tryz.SDB.head_in {n:Nat} {s:SD} (h:SDB n s) {e:SO} (he:e∈s.L):0≤e.head∧e.head<n:=by
 have hs:=(zc6 h.ne).subset (List.mem_map.2 ⟨e,he,rfl⟩);exact h.lo _ (List.mem_append_right _ hs)
theorem Tryz.zgE: ∀ {L:List SO} {e:SO},(L.map SO.head).Nodup→e∈L→zbb L e.head=some e
 | x::L,e,hn,he=>by
  rw [List.map_cons,List.nodup_cons] at hn;unfold zbb;rcases List.mem_cons.1 he with rfl|he
  ·rw [List.find?_cons_of_pos (by simp)]
  ·have hne:x.head≠e.head:=fun q=>hn.1 (q▸List.mem_map_of_mem he);rw [List.find?_cons_of_neg (by simpa using hne)];exact zgE hn.2 he
theorem Tryz.zmV: ∀ {L:List SO} {k:Nat} (hk:k<L.length) {id:Int},(L[k]'(hk)).head=id→(∀(j:Nat) (hj:j<k),(L[j]'(Nat.lt_trans hj hk)).head≠id)→zbQ L id=L.take k++L.drop (k+1)
 | x::r,0,_,id,h,_=>by
  have h:x.head=id:=h;unfold zbQ;rw [List.eraseP_cons_of_pos (by simpa using h)];simp
 | x::r,k+1,hk,id,h,hall=>by
  have h0:x.head≠id:=hall 0 (by omega);have:=zmV (L:=r) (k:=k) (by simpa using hk) (id:=id) (by simpa using h) fun j hj=>by simpa using hall (j+1) (by omega)
  unfold zbQ at this ⊢;rw [List.eraseP_cons_of_neg (by simpa using h0),this];simp
theorem Tryz.zlm {r:Rg} {g:Nat→Int} {sn V id:Int} (hc:0≤r.c) (hn:1≤r.n) (hsn:0≤sn∧sn<65536) (hV:0≤V∧V<4294967296) (hid:0≤id∧id<4294967296) (s:SD) (hs:s.sn=sn):
  zaG r s (putW (putW g (r.c+4+8*(sn%r.n)).toNat 8 (id+4294967296*V)) (r.c+2).toNat 2 ((sn+1)%65536))=1∧
  zaf (putW (putW g (r.c+4+8*(sn%r.n)).toNat 8 (id+4294967296*V)) (r.c+2).toNat 2 ((sn+1)%65536)) (r.c+4+8*(sn%r.n)).toNat 8%4294967296=id∧
  zaf (putW (putW g (r.c+4+8*(sn%r.n)).toNat 8 (id+4294967296*V)) (r.c+2).toNat 2 ((sn+1)%65536)) (r.c+4+8*(sn%r.n)).toNat 8/4294967296=V:=by
 have hm0:0≤sn%r.n:=Int.emod_nonneg _ (by omega);have w2:zaf (putW (putW g (r.c+4+8*(sn%r.n)).toNat 8 (id+4294967296*V)) (r.c+2).toNat 2 ((sn+1)%65536)) (r.c+2).toNat 2=(sn+1)%65536:=by
  rw [zgg (by omega)];exact Int.emod_eq_of_lt (by omega) (by show (sn+1)%65536<65536;omega)
 have w8:zaf (putW (putW g (r.c+4+8*(sn%r.n)).toNat 8 (id+4294967296*V)) (r.c+2).toNat 2 ((sn+1)%65536)) (r.c+4+8*(sn%r.n)).toNat 8=id+4294967296*V:=by
  rw [zen (by omega),zgg (by omega)];exact Int.emod_eq_of_lt (by omega) (by show id+4294967296*V<18446744073709551616;omega)
 refine ⟨?_,?_,?_⟩
 ·unfold zaG;rw [w2,hs];omega
 ·rw [w8];omega
 ·rw [w8];omega
open Go.Maps Go.Sort Go.Shelf
def Tryz.IdV (A:Nat→Prop) (w:World) (v:Value) (ids:List Int):Prop:=
 ∃ (sa:Option Addr) (c:Nat),v= .slice sa ids.length c∧ids.length≤c∧(ids= []∨ ∃R o,sa=some ⟨R,o,none⟩∧ ¬A R∧w.rangeAt R o (zac ids))
theorem Tryz.IdV.kept {A:Nat→Prop} {w w':World} {v:Value} {ids:List Int} (h:IdV A w v ids) (hk: ∀k,k<w.heap.size→ ¬A k→w'.heap[k]? =w.heap[k]?):IdV A w' v ids:=by
 obtain ⟨sa,c,rfl,hcap,hr⟩:=h;refine ⟨sa,c,rfl,hcap,?_⟩;rcases hr with h0|⟨R,o,rfl,hn,hr⟩
 ·exact .inl h0
 ·by_cases h0:ids= []
  ·exact .inl h0
  ·refine .inr ⟨R,o,rfl,hn,zae hr (hk R ?_ hn)⟩;have h1:0<(zac ids).length:=by
    unfold zac;rw [List.length_map];exact List.length_pos_iff.2 h0
   exact World.block_lt_of_cell? w ⟨R,o+0,none⟩ (hr 0 _ (List.getElem?_eq_getElem h1))
def Tryz.OutV (A:Nat→Prop) (w:World) (v:Value) (e:SO):Prop:=
 ∃ (X:Nat) (iv:Value),v= .pointer (some ⟨X,0,none⟩)∧ ¬A X∧w.rangeAt X 0 [.int .i64 e.tk,iv]∧IdV A w iv e.ids
theorem Tryz.OutV.kept {A:Nat→Prop} {w w':World} {v:Value} {e:SO} (h:OutV A w v e) (hk: ∀k,k<w.heap.size→ ¬A k→w'.heap[k]? =w.heap[k]?):OutV A w' v e:=by
 obtain ⟨X,iv,rfl,hX,hr,hi⟩:=h;exact ⟨X,iv,rfl,hX,zae hr (hk X (World.block_lt_of_cell? w ⟨X,0+0,none⟩ (hr 0 _ rfl)) hX),hi.kept hk⟩
structure Tryz.OutW (A:Nat→Prop) (w:World) (M:Nat) (L:List SO):Prop where
 map: ∃arr clock,w.heap[M]? =some (.map arr clock)∧(zb6 arr∧Born arr clock)∧ ∀k:Int,(zbb L k=none→zaU arr k=none)∧ ∀e,zbb L k=some e→ ∃v,zaU arr k=some v∧OutV A w v e
 keys:(L.map SO.head).Nodup
theorem Tryz.zoo {L:List SO} {e:SO} (h:zbb L e.head=none) (k:Int):zbb (L++ [e]) k=if k=e.head then some e else zbb L k:=by
 unfold zbb at h ⊢;rw [List.find?_append];by_cases hk:k=e.head
 ·rw [if_pos hk,hk,h];simp
 ·rw [if_neg hk,List.find?_cons_of_neg (by simpa using fun q=>hk q.symm)];simp
theorem Tryz.zdc {L:List SO} {k:Int}:zbb L k=none↔k∉L.map SO.head:=by
 unfold zbb;rw [List.find?_eq_none];constructor
 ·intro h hm;obtain ⟨e,he,rfl⟩:=List.mem_map.1 hm;exact h e he (by simp)
 ·intro h e he hk;exact h (List.mem_map.2 ⟨e,he,by simpa using hk⟩)
theorem Tryz.zjH: ∀ {L:List SO} (_:(L.map SO.head).Nodup) (x k:Int),zbb (zbQ L x) k=if k=x then none else zbb L k
 | [], _,x,k=>by simp [zbb,zbQ]
 | e::L,hn,x,k=>by
  rw [List.map_cons,List.nodup_cons] at hn;have ih:=zjH (L:=L) hn.2 x k;by_cases hx:e.head=x
  ·have e1:zbQ (e::L) x=L:=by unfold zbQ;rw [List.eraseP_cons_of_pos (by simpa using hx)]
   rw [e1];by_cases hk:k=x
   ·rw [if_pos hk];exact zdc.2 (by rw [hk,←hx];exact hn.1)
   ·rw [if_neg hk];unfold zbb;have hne:e.head≠k:=fun q=>hk (q.symm.trans hx);rw [List.find?_cons_of_neg (by simpa using hne)]
  ·have e1:zbQ (e::L) x=e::zbQ L x:=by unfold zbQ;rw [List.eraseP_cons_of_neg (by simpa using hx)]
   rw [e1];unfold zbb at ih ⊢;by_cases hk:e.head=k
   ·rw [List.find?_cons_of_pos (by simpa using hk),List.find?_cons_of_pos (by simpa using hk),if_neg (fun q=>hx (hk.trans q))]
   ·rw [List.find?_cons_of_neg (by simpa using hk),List.find?_cons_of_neg (by simpa using hk)];exact ih
theorem Tryz.OutW.put {A:Nat→Prop} {w w':World} {M:Nat} {L:List SO} (h:OutW A w M L) (hk: ∀k,k<w.heap.size→ ¬A k→w'.heap[k]? =w.heap[k]?) {e:SO} {v:Value} (hx:zbb L e.head=none) (hv:OutV A w' v e)
  (hm: ∃arr clock arr0 clock0,w'.heap[M]? =some (.map arr clock)∧w.heap[M]? =some (.map arr0 clock0)∧(zb6 arr∧Born arr clock)∧ ∀k,zaU arr k=if k=e.head then some v else zaU arr0 k):OutW A w' M (L++ [e]):=by
 obtain ⟨arr,clock,arr0,clock0,h1,h2,h3,h4⟩:=hm;obtain ⟨arr1,clock1,g1,g2,g3⟩:=h.map;rw [g1] at h2;cases h2;refine ⟨⟨arr,clock,h1,h3,fun k=> ?_⟩,?_⟩
 ·rw [zoo hx,h4];by_cases hkx:k=e.head
  ·rw [if_pos hkx,if_pos hkx];exact ⟨fun h=>(by cases h),fun l' hl'=>(by cases hl';exact ⟨v,rfl,hv⟩)⟩
  ·rw [if_neg hkx,if_neg hkx];refine ⟨(g3 k).1,fun l' hl'=> ?_⟩;obtain ⟨v',g4,g5⟩:=(g3 k).2 l' hl';exact ⟨v',g4,g5.kept hk⟩
 ·rw [List.map_append,List.nodup_append];refine ⟨h.keys,by simp,fun a ha b hb hab=> ?_⟩;simp only [List.map_cons,List.map_nil,List.mem_singleton] at hb;subst hb hab;exact zdc.1 hx ha
theorem Tryz.OutW.del {A:Nat→Prop} {w w':World} {M:Nat} {L:List SO} (h:OutW A w M L) (hk: ∀k,k<w.heap.size→ ¬A k→w'.heap[k]? =w.heap[k]?) {x:Int}
  (hm: ∃arr clock arr0 clock0,w'.heap[M]? =some (.map arr clock)∧w.heap[M]? =some (.map arr0 clock0)∧(zb6 arr∧Born arr clock)∧ ∀k,zaU arr k=if k=x then none else zaU arr0 k):OutW A w' M (zbQ L x):=by
 obtain ⟨arr,clock,arr0,clock0,h1,h2,h3,h4⟩:=hm;obtain ⟨arr1,clock1,g1,g2,g3⟩:=h.map;rw [g1] at h2;cases h2;refine ⟨⟨arr,clock,h1,h3,fun k=> ?_⟩,((List.eraseP_sublist (p:=fun (e:SO)=>e.head==x) (l:=L)).map SO.head).nodup h.keys⟩;rw [zjH h.keys,h4];by_cases hkx:k=x
 ·rw [if_pos hkx,if_pos hkx];exact ⟨fun _=>rfl,fun l' hl'=>(by cases hl')⟩
 ·rw [if_neg hkx,if_neg hkx];refine ⟨(g3 k).1,fun l' hl'=> ?_⟩;obtain ⟨v',g4,g5⟩:=(g3 k).2 l' hl';exact ⟨v',g4,g5.kept hk⟩
theorem Tryz.OutW.mkeys {A:Nat→Prop} {w:World} {M:Nat} {L:List SO} (h:OutW A w M L) {arr:Array MapEntry} {clock:Nat} (hb:w.heap[M]? =some (.map arr clock)):
  MapKept.Stamped arr clock∧ ∃ks:List Int,arr.toList.map (·.key)=ks.map encZ∧ks.Perm (L.map SO.head):=by
 obtain ⟨arr',clock',h1,⟨h2,h3⟩,h4⟩:=h.map;rw [hb] at h1;cases h1;obtain ⟨ks,g1,g2⟩:=zkE h2.keys;have hnd:ks.Nodup:=by
  have:(ks.map encZ).Nodup:=by
   rw [←g1,List.Nodup,List.pairwise_map];exact h2.once
  exact (List.pairwise_map.1 this).imp fun h e=>h (congrArg encZ e)
 refine ⟨(MapKept.stamped_iff _ _).2 ⟨h3.1,h3.2,h2.once⟩,ks,g1,(List.perm_ext_iff_of_nodup hnd h.keys).2 fun x=> ?_⟩;rw [g2];constructor
 ·rintro ⟨e,he,hk⟩;have hv:=zbv h2 he hk;cases hg:zbb L x with
  | none=>rw [(h4 x).1 hg] at hv;cases hv
  | some l=>
   obtain ⟨q1,q2⟩:=zfi hg;exact List.mem_map.2 ⟨l,q1,q2⟩
 ·intro hx;cases hg:zbb L x with
  | none=>exact absurd hx (zdc.1 hg)
  | some l=>
   obtain ⟨v,hv,_⟩:=(h4 x).2 l hg;obtain ⟨e,he,hk,_⟩:=zeY hv;exact ⟨e,he,hk⟩
end Go.Proofs
namespace Go.Proofs
open Go.RowKit Go.Maps Go.Sort
structure Tryz.RMm (w:World) (P L Bs B N:Nat) (g:Nat→Int):Prop where
 p0: ∃c,w.cell? ⟨P,0,none⟩=some (.slice (some ⟨L,0,none⟩) 1 c)
 p1: ∃c,w.cell? ⟨P,1,none⟩=some (.slice (some ⟨Bs,0,none⟩) 1 c)
 l0:w.cell? ⟨L,0,none⟩=some (.int .u64 0)
 l1:w.cell? ⟨L,1,none⟩=some (.int .u64 N)
 b0:w.cell? ⟨Bs,0,none⟩=some (.slice (some ⟨B,0,none⟩) N N)
 full: ∀j,j<N→w.cell? ⟨B,j,none⟩=some (.int .u8 (g j))
 free: ∀j,j<N→w.frozen? ⟨B,j,none⟩=false
 byte: ∀j,0≤g j∧g j<256
 pb:P≠B
 lb:L≠B
 sb:Bs≠B
 bl:B<w.heap.size
section
variable {w w':World} {P L Bs B N:Nat} {g g':Nat→Int}
theorem Tryz.RMm.pl (h:RMm w P L Bs B N g):P<w.heap.size:=by obtain ⟨c,q⟩:=h.p1;exact World.block_lt_of_cell? w _ q
theorem Tryz.RMm.ll (h:RMm w P L Bs B N g):L<w.heap.size:=World.block_lt_of_cell? w _ h.l0
theorem Tryz.RMm.sl (h:RMm w P L Bs B N g):Bs<w.heap.size:=World.block_lt_of_cell? w _ h.b0
theorem Tryz.RMm.kept (h:RMm w P L Bs B N g) (hg: ∀k,k<w.heap.size→(k=P∨k=L∨k=Bs∨k=B)→w'.heap[k]? =w.heap[k]?) (hs:w.heap.size≤w'.heap.size):RMm w' P L Bs B N g:=by
 have eP:=hg P h.pl (Or.inl rfl);have eL:=hg L h.ll (Or.inr (Or.inl rfl));have eS:=hg Bs h.sl (Or.inr (Or.inr (Or.inl rfl)));have eB:=hg B h.bl (Or.inr (Or.inr (Or.inr rfl)));refine ⟨?_,?_,?_,?_,?_,fun j hj=> ?_,fun j hj=> ?_,h.byte,h.pb,h.lb,h.sb,Nat.lt_of_lt_of_le h.bl hs⟩
 ·obtain ⟨c,h0⟩:=h.p0;exact ⟨c,by rw [World.cell?_of_block (a:=⟨P,0,none⟩) eP];exact h0⟩
 ·obtain ⟨c,h0⟩:=h.p1;exact ⟨c,by rw [World.cell?_of_block (a:=⟨P,1,none⟩) eP];exact h0⟩
 ·rw [World.cell?_of_block (a:=⟨L,0,none⟩) eL];exact h.l0
 ·rw [World.cell?_of_block (a:=⟨L,1,none⟩) eL];exact h.l1
 ·rw [World.cell?_of_block (a:=⟨Bs,0,none⟩) eS];exact h.b0
 ·rw [World.cell?_of_block (a:=⟨B,j,none⟩) eB];exact h.full j hj
 ·rw [World.frozen?_of_block (a:=⟨B,j,none⟩) eB];exact h.free j hj
theorem Tryz.RMm.below (h:RMm w P L Bs B N g) (hb:Below w.heap.size w w'):RMm w' P L Bs B N g:=h.kept (fun k hk _=>hb.block k hk) hb.size
theorem Tryz.RMm.setB (h:RMm w P L Bs B N g) (j:Nat) (hj:j<N) (x:Int) (hx0:0≤x) (hx1:x<256):RMm (w.setCell ⟨B,j,none⟩ (.int .u8 x)) P L Bs B N (fun q=>if q=j then x else g q):=by
 have hk: ∀k,k≠B→(w.setCell ⟨B,j,none⟩ (.int .u8 x)).heap[k]? =w.heap[k]? :=fun k hk=>Below.heap_setCell w _ _ k hk;have eP:=hk P h.pb;have eL:=hk L h.lb;have eS:=hk Bs h.sb;refine ⟨?_,?_,?_,?_,?_,fun q hq=> ?_,fun q hq=> ?_,fun q=> ?_,h.pb,h.lb,h.sb,Nat.lt_of_lt_of_le h.bl (by simp)⟩
 ·obtain ⟨c,h0⟩:=h.p0;exact ⟨c,by rw [World.cell?_of_block (a:=⟨P,0,none⟩) eP];exact h0⟩
 ·obtain ⟨c,h0⟩:=h.p1;exact ⟨c,by rw [World.cell?_of_block (a:=⟨P,1,none⟩) eP];exact h0⟩
 ·rw [World.cell?_of_block (a:=⟨L,0,none⟩) eL];exact h.l0
 ·rw [World.cell?_of_block (a:=⟨L,1,none⟩) eL];exact h.l1
 ·rw [World.cell?_of_block (a:=⟨Bs,0,none⟩) eS];exact h.b0
 ·by_cases hqj:q=j
  ·subst hqj;rw [if_pos rfl];exact World.cell?_setCell_same' _ _ _ (by rw [h.full q hq];rfl)
  ·rw [if_neg hqj,World.cell?_setCell_other w ⟨B,j,none⟩ ⟨B,q,none⟩ _ (fun e=>hqj (congrArg Addr.off e).symm)];exact h.full q hq
 ·rw [World.frozen?_setCell];exact h.free q hq
 ·by_cases hqj:q=j
  ·rw [if_pos hqj];exact ⟨hx0,hx1⟩
  ·rw [if_neg hqj];exact h.byte q
theorem Tryz.RMm.range (h:RMm w P L Bs B N g) (a n:Nat) (hn:a+n≤N):w.rangeAt B a (row g a n):=by
 intro j v hv;simp only [row,List.getElem?_map] at hv;rcases Nat.lt_or_ge j n with hj|hj
 ·rw [List.getElem?_range hj] at hv;simp only [Option.map_some,Option.some.injEq] at hv;rw [←hv];exact h.full (a+j) (by omega)
 ·rw [List.getElem?_eq_none (by simp;omega)] at hv;cases hv
end
set_option maxRecDepth 100000 in
theorem Tryz.ziU (P L Bs B N a k:Nat) (g:Nat→Int) (w:World) (st:RMm w P L Bs B N g) (hN:N≤1048576) (hk:1≤k) (hin:a+k≤N):
  Calls prog 80 #[.pointer (some ⟨P,0,none⟩),.int .u64 a,.int .u64 k] w fun e w'=>e= .returned (.tuple #[.int .i64 0,.int .i64 a])∧Below w.heap.size w w':=by
 obtain ⟨lc,c0⟩:=st.p0;have c2:=st.l0;have c3:=st.l1;have ha:IntKind.wrap .u64 ((N:Int)-k)=N-k:=wrap_u64 _ (by omega) (by omega);have hwa:IntKind.wrap .u64 (a:Int)=a:=wrap_u64 _ (by omega) (by omega);have hwb:IntKind.wrap .i64 (a:Int)=a:=by unfold IntKind.wrap;simp [IntKind.signed,IntKind.bits];omega
 have hkn:(k:Int)≤N:=by omega
 have hak:(a:Int)≤N-k:=by omega
 have hk1:(1:Int)≤k:=by omega
 have ha0:(0:Int)≤a:=by omega
 have hb:=(Below.refl _ w).alloc (Nat.le_refl _) (.cells #[.int .u64 0,.int .u64 N] 39);go_enter func80,ntmps80;go_wp2_with fail;go_loopw [8] (fun i wr=>i= .int .i64 0∧wr=w) (fun _ _=>0)
 case atStart=>exact ⟨rfl,rfl⟩
 case round=>
  obtain ⟨rfl,rfl⟩:=hrel;go_wp2;go_quiet (fail);go_wp2;go_ret2;exact ⟨rfl,below_drewN hb _⟩
set_option maxRecDepth 100000 in
theorem Tryz.zj5 (P L Bs B N:Nat) (a k:Int) (g:Nat→Int) (w:World) (st:RMm w P L Bs B N g) (hN:N≤1048576) (ha0:0≤a) (ha1:a<18446744073709551616) (hk0:0≤k) (hk1:k<18446744073709551616) (hout: ¬(1≤k∧a+k≤N)):
  Calls prog 80 #[.pointer (some ⟨P,0,none⟩),.int .u64 a,.int .u64 k] w fun e w'=>e= .returned (.tuple #[.int .i64 (-1),.int .i64 0])∧Below w.heap.size w w':=by
 obtain ⟨lc,c0⟩:=st.p0;have c2:=st.l0;have c3:=st.l1;have hb:=(Below.refl _ w).alloc (Nat.le_refl _) (.cells #[.int .u64 0,.int .u64 N] 39);have hwa:IntKind.wrap .u64 a=a:=wrap_u64 _ (by omega) (by omega);go_enter func80,ntmps80;go_wp2_with fail;go_loopw [8] (fun i wr=>(i= .int .i64 0∧wr=w)∨(i= .int .i64 1∧wr=w.alloc (.cells #[.int .u64 0,.int .u64 N] 39))) (fun i _=>1-(RowKit.intOf i).toNat)
 case atStart=>exact .inl ⟨rfl,rfl⟩
 case round=>
  rcases hrel with ⟨rfl,rfl⟩|⟨rfl,rfl⟩
  ·by_cases h1:1≤k
   ·by_cases h2:k≤N
    ·have h3:IntKind.wrap .u64 ((N:Int)-k)=N-k:=wrap_u64 _ (by omega) (by omega);have h4: ¬a≤N-k:=by omega
     go_wp2;exact ⟨.inr (by simp),by decide⟩
    ·go_wp2;exact ⟨.inr (by simp),by decide⟩
   ·go_wp2;exact ⟨.inr (by simp),by decide⟩
  ·have st2:=st.below hb;obtain ⟨lc2,c02⟩:=st2.p0;go_wp2;go_ret2;exact ⟨rfl,hb⟩
end Go.Proofs
namespace Go.Proofs
open Go.RowKit Go.Maps Go.Sort
set_option maxRecDepth 100000 in
theorem Tryz.zj4 (P L Bs B N:Nat) (a n:Int) (g:Nat→Int) (w:World) (st:RMm w P L Bs B N g) (hN:N≤1048576) (ha0:0≤a) (ha1:a<18446744073709551616) (hn:0≤n) (hn1:n<18446744073709551616):
    Calls prog 55 #[.pointer (some ⟨P,0,none⟩),.int .u64 a,.int .u64 n] w fun e w'=>e= .returned (.bool (decide (1≤n∧a+n≤N)))∧Below w.heap.size w w':=by
  by_cases h:1≤n∧a+n≤N
  · obtain ⟨a',rfl⟩:=Int.eq_ofNat_of_zero_le ha0;obtain ⟨n',rfl⟩:=Int.eq_ofNat_of_zero_le hn;have hby:=ziU P L Bs B N a' n' g w st hN (by omega) (by omega);rw [decide_eq_true h];go_enter func55,ntmps55;go_wp2_with (first
      | (go_at_call 80;refine hby.mono ?_;rintro e w1 ⟨rfl,hb1⟩)
      | go_in)
    go_ret;exact ⟨rfl,hb1⟩
  · have hby:=zj5 P L Bs B N a n g w st hN ha0 ha1 hn hn1 h;rw [decide_eq_false h];go_enter func55,ntmps55;go_wp2_with (first
      | (go_at_call 80;refine hby.mono ?_;rintro e w1 ⟨rfl,hb1⟩)
      | go_in)
    go_ret;exact ⟨rfl,hb1⟩
set_option maxRecDepth 100000 in
theorem Tryz.zsD (P L Bs B N a n:Nat) (g:Nat→Int) (w:World) (st:RMm w P L Bs B N g) (hN:N≤1048576) (hn:1≤n) (hin:a+n≤N):
    Calls prog 170 #[.pointer (some ⟨P,0,none⟩),.int .u64 a,.int .i64 n] w fun e w'=> ∃v,e= .returned (.tuple #[v,.int .i64 0])∧w'.ownsRow w.heap.size 5 1 v n (row g a n)∧Below w.heap.size w w':=by
  obtain ⟨i0,hi0,hz0,hz1,hzb⟩:=info_parts zti;have hby:=ziU P L Bs B N a n g w st hN hn hin;have hwk:IntKind.wrap .u64 (n:Int)=n:=wrap_u64 _ (by omega) (by omega);have hkk:a+n-a=n:=by omega
  have hn1: ¬(n:Int)<0:=by omega
  have hn2: ¬(n:Int)=0:=by omega
  have b1:(0:Int)≤a:=by omega
  have b2:(a:Int)≤a+n:=by omega
  have b3:(a:Int)+n≤N:=by omega
  go_enter func170,ntmps170;go_wp2_with (first
    | (go_at_call 80;refine hby.mono ?_;rintro e w1 ⟨rfl,hb1⟩;have st1:=st.below hb1;have hmade:=World.ownsRow_made (base:=w1.heap.size) (e:=5) (size:=1) w1 #[] 0 (Nat.le_refl _) (by unfold maxLen;omega) rfl;have hr':=zae (w':=w1.alloc (.cells #[] 5)) (st1.range a n hin) (Below.heap_alloc w1 _ B st1.bl);have hb0:=(Below.refl w1.heap.size w1).alloc (Nat.le_refl _) (.cells #[] 5);obtain ⟨c1,p1⟩:=(st1.below hb0).p1;have p2:=(st1.below hb0).b0)
    | (at_builtin;go_loud (refine wpList_append_own _ rfl _ _ 85 rfl w1.heap.size 5 i0 (.int .u8 0) 1 1 underlying85 hi0 hz0 hz1 hzb rfl (by decide) _ _ _ rfl hmade ⟨B,a,none⟩ n (N-a) (row g a n) (by show Value.slice (some ⟨B,a,none⟩) (a+n-a) (N-a)=_;rw [hkk]) (by rw [zfl];simp) (fun j v hv=>by rw [Addr.add_mid];exact hr' j v hv) (row_one g a n) (by unfold maxLen;omega) (by omega) (by simp) ?_);intro v' w3 hown' hg3 hnil3;go_frame)
    | go_in)
  go_ret2;have hown2:w3.ownsRow w1.heap.size 5 1 v' n (row g a n):=by simpa using hown'
  have hb3:=hb0.grown hg3 (by simp) (fun j hj=>(hmade.lt j hj).1);refine ⟨_,rfl,⟨hown2.1,?_⟩,hb1.trans (hb3.mono hb1.size)⟩;rcases hown2.2 with h|⟨g0,cap,cur,h0,h2,h3⟩
  · exact Or.inl h
  · exact Or.inr ⟨g0,cap,cur,h0,Nat.le_trans hb1.size h2,h3⟩
set_option maxRecDepth 100000 in
theorem Tryz.zp4 (P L Bs B N:Nat) (a n:Int) (g:Nat→Int) (w:World) (st:RMm w P L Bs B N g) (hN:N≤1048576) (hn:1≤n) (hn2:n≤4294967296) (ha0:0≤a) (ha1:a<18446744073709551616) (hout: ¬a+n≤N):
    Calls prog 170 #[.pointer (some ⟨P,0,none⟩),.int .u64 a,.int .i64 n] w fun e w'=>e= .returned (.tuple #[.slice none 0 0,.int .i64 5])∧Below w.heap.size w w':=by
  have hby:=zj5 P L Bs B N a n g w st hN ha0 ha1 (by omega) (by omega) (by omega);have hwk:IntKind.wrap .u64 n=n:=wrap_u64 _ (by omega) (by omega);have hn1: ¬n<0:=by omega
  have hn3: ¬n=0:=by omega
  go_enter func170,ntmps170;go_wp2_with (first
    | (go_at_call 80;refine hby.mono ?_;rintro e w1 ⟨rfl,hb1⟩)
    | go_in)
  go_ret2;exact ⟨rfl,hb1⟩
theorem Tryz.RMm.setL {P L Bs B N:Nat}: ∀(xs:List Int) (a:Nat) (g:Nat→Int) (w:World),RMm w P L Bs B N g→a+xs.length≤N→(∀x∈xs,0≤x∧x<256)→RMm (w.setCells B a (xs.map (Value.int .u8))) P L Bs B N (putL g a xs)
 | [], _,_,_,h,_,_=>h
 | x::r,a,g,w,h,hl,hb=>by
  rw [List.map_cons,World.setCells,putL];rw [List.length_cons] at hl;have hx:=hb x (by simp);exact RMm.setL r (a+1) _ _ (h.setB a (by omega) x hx.1 hx.2) (by omega) (fun y hy=>hb y (by simp [hy]))
set_option maxRecDepth 100000 in
theorem Tryz.zpX (P L Bs B N a R o c:Nat) (xs:List Int) (g:Nat→Int) (w:World) (st:RMm w P L Bs B N g) (hN:N≤1048576) (hn:1≤xs.length) (hin:a+xs.length≤N) (hb: ∀x∈xs,0≤x∧x<256)
    (hr:w.rangeAt R o (xs.map (Value.int .u8))) (hR:R<w.heap.size):
    Calls prog 40 #[.pointer (some ⟨P,0,none⟩),.int .u64 a,.slice (some ⟨R,o,none⟩) xs.length c] w fun e w'=>e= .returned (.int .i64 0)∧RMm w' P L Bs B N (putL g a xs)∧Mv (· =B) w w':=by
  have hby:=ziU P L Bs B N a xs.length g w st hN (by omega) hin;have hwk:IntKind.wrap .u64 (xs.length:Int)=xs.length:=wrap_u64 _ (by omega) (by omega);have hcp:=fun w1 (h:Below w.heap.size w w1)=>run_copy_cells (P:=prog) w1 85 85 3 5 B a (N-a) (N-a) ⟨R,o,none⟩ xs.length c (xs.map (Value.int .u8)) underlying85 (by kernel_rfl) (by rw [List.length_map];exact (Nat.min_eq_left (by omega)).symm) (fun j v hv=>by rw [Addr.add_mid];exact (zae hr (h.block R hR)) j v hv)
    (fun j hj=>by rw [(st.below h).full (a+j) (by simp at hj;omega)];rfl) (fun j hj=>(st.below h).free (a+j) (by simp at hj;omega)) (fun v hv=>by obtain ⟨x,_,rfl⟩:=List.mem_map.1 hv;rfl)
  rw [List.length_map] at hcp;go_enter func40,ntmps40;have hn0: ¬(xs.length:Int)=0:=by omega
  have b1:(0:Int)≤a:=by omega
  have b2:(a:Int)≤N:=by omega
  go_wp2_with (first
    | (go_at_call 80;refine hby.mono ?_;rintro e w1 ⟨rfl,hb1⟩;have hcp1:=hcp _ hb1;obtain ⟨c1,p1⟩:=(st.below hb1).p1;have p2:=(st.below hb1).b0)
    | go_in)
  go_ret;exact ⟨rfl,(st.below hb1).setL xs a g _ hin hb,(Mv.of_below hb1).grown (zcH B _ _ _) (Or.inl rfl)⟩
open Go.Dw
theorem Tryz.Cl.kept {w w':World} {b:Nat} {l:List Value} (h:Cl w b l) (e:w'.heap[b]? =w.heap[b]?):Cl w' b l:=by
 refine ⟨?_,fun i v hv=>by rw [World.cell?_of_block (a:=⟨b,i,none⟩) e];exact h.cell i v hv,fun i=>by rw [World.frozen?_of_block (a:=⟨b,i,none⟩) e];exact h.free i⟩;have q:w'.heap[b]? =some (w.heap[b]'(h).lt):=by rw [e];exact Array.getElem?_eq_getElem h.lt
 exact (Array.getElem?_eq_some_iff.1 q).1
theorem Tryz.zmo (F:Int) (k:Nat) (hk:k≤2) (h0:0≤F) (h1:F<65536):bits .and .u16 F ((2^k:Nat):Int)=F/((2^k:Nat):Int)%2*((2^k:Nat):Int):=by
 obtain ⟨x,rfl⟩:=Int.eq_ofNat_of_zero_le h0;have hx:x<2^16:=by omega
 have hp:2^k<2^16:=Nat.pow_lt_pow_right (by decide) (by omega);unfold bits;simp only [BitVec.toNat_and];have ex:(BitVec.ofInt IntKind.u16.bits (x:Int)).toNat=x:=by
  rw [BitVec.ofInt_natCast,BitVec.toNat_ofNat];exact Nat.mod_eq_of_lt hx
 have ey:(BitVec.ofInt IntKind.u16.bits ((2^k:Nat):Int)).toNat=2^k:=by
  rw [BitVec.ofInt_natCast,BitVec.toNat_ofNat];exact Nat.mod_eq_of_lt hp
 have e0:x&&&2^k=x/2^k%2*2^k:=by
  have e1:x&&&2^k=if x.testBit k then 2^k else 0:=by
   apply Nat.eq_of_testBit_eq;intro i;rw [Nat.testBit_and,Nat.testBit_two_pow];by_cases hi:k=i
   ·subst hi;cases x.testBit k<;>simp [Nat.testBit_two_pow]
   ·cases x.testBit k<;>simp [Nat.testBit_two_pow,hi]
  rw [e1,Nat.testBit_eq_decide_div_mod_eq];have:x/2^k%2=0∨x/2^k%2=1:=by omega
  rcases this with h|h<;>simp [h]
 rw [ex,ey,e0];have hb:x/2^k%2*2^k≤2^k:=by
  have:x/2^k%2≤1:=by omega
  calc _≤1*2^k:=Nat.mul_le_mul_right _ this
   _=_:=Nat.one_mul _
 have hc:(x:Int)/((2^k:Nat):Int)%2*((2^k:Nat):Int)=((x/2^k%2*2^k:Nat):Int):=by rw [Int.natCast_mul,Int.natCast_emod,Int.natCast_ediv];rfl
 rw [hc];generalize x/2^k%2*2^k=y at hb ⊢;exact zjB (by omega) (by omega)
def Tryz.stE (e e1:Int):Int:=if e=0 then e1 else e
set_option maxRecDepth 100000 in
theorem Tryz.zeR (X:Nat) (a b:Value) (n e e1:Int) (w:World) (hX:Cl w X [a,b,.int .i64 n,.int .i64 e]):
  Calls prog 127 #[.pointer (some ⟨X,0,none⟩),.int .i64 e1] w fun en w'=>en= .returned (.tuple #[])∧Cl w' X [a,b,.int .i64 n,.int .i64 (stE e e1)]∧Dw.Mv (· =X) w w':=by
 have c3:=hX.cell 3 _ rfl;have f3:=hX.free 3;go_enter func127,ntmps127;by_cases he:e=0
 ·go_wp2;go_end0;refine ⟨rfl,?_,⟨rfl,rfl,rfl,by simp,fun k hk hne=>Below.heap_setCell w _ _ k hne⟩⟩;rw [show stE e e1=e1 from if_pos he];exact hX.set 3 (.int .i64 e1) (by simp)
 ·go_wp2;go_end0;refine ⟨rfl,?_,⟨rfl,rfl,rfl,Nat.le_refl _,fun _ _ _=>rfl⟩⟩;rw [show stE e e1=e from if_neg he];exact hX
set_option maxRecDepth 100000 in
theorem Tryz.zp3 (X b2:Nat) (p v:Value) (n e A Ln F:Int) (l:List Sg) (w:World) (hX:Cl w X [p,v,.int .i64 n,.int .i64 e]) (hv:OwnSeg w b2 v l) (hb2:b2≤w.heap.size) (hXb:X<b2) (hl:l.length≤100000) (hF:0≤F∧F<65536):
  Calls prog 130 #[.pointer (some ⟨X,0,none⟩),.int .u64 A,.int .u32 Ln,.int .u16 F] w fun en w'=>en= .returned (.tuple #[])∧ ∃v',Cl w' X [p,v',.int .i64 n,.int .i64 e]∧OwnSeg w' b2 v' (l++ [⟨A,Ln,F/2%2*2 !=0⟩])∧Dw.Mv (fun b=>b=X∨v.ownBlock=some b) w w'∧ ∀b,v'.ownBlock=some b→v.ownBlock=some b∨w.heap.size≤b:=by
 obtain ⟨i0,hi0,hz0,hz1,hzb⟩:=info_parts zl1;obtain ⟨sa,sc,rfl,_⟩:=hv.slice;have hbt:bits .and .u16 F 2=F/2%2*2:=by have:=zmo F 1 (by decide) hF.1 hF.2;simpa using this
 have c1:=hX.cell 1 _ rfl;have hb0:=(Below.refl w.heap.size w).alloc (Nat.le_refl _) (.cells #[.int .u64 A,.int .u32 Ln,.bool (F/2%2*2 !=0)] 136);have hrow:OwnSeg (w.alloc (.cells #[.int .u64 A,.int .u32 Ln,.bool (F/2%2*2 !=0)] 136)) b2 (.slice sa l.length sc) l:=hv.kept fun b e=>hb0.block b (hv.lt b e).2.1;have hlt:=hv.lt;have hXl:=hX.lt;go_enter func130,ntmps130;refine wp_region_lit ?_
 iterate 12 (refine wpList_step fun K hK=> ?_;go_simp;refine hK _ _ ?_;clear hK)
 refine wpList_append_own_at _ rfl _ _ 51 rfl b2 136 i0 (.agg #[.int .u64 0,.int .u32 0,.bool false]) 3 16 underlying51 hi0 hz0 hz1 hzb rfl (by decide) (.slice sa l.length sc) l.length (zam l) rfl hrow ⟨w.heap.size,0,none⟩ 1 1 [.int .u64 A,.int .u32 Ln,.bool (F/2%2*2 !=0)] rfl rfl (fun j u hu=>by rw [Addr.add_mid];exact (Cl.new w _ _).cell (0+j) u (by rw [Nat.zero_add];exact hu)) (fun u hu=>by simp only [List.mem_cons,List.not_mem_nil,or_false] at hu;rcases hu with rfl|rfl|rfl<;>rfl) (by unfold maxLen;omega) (by omega) (by simp;omega) ?_;intro v' w3 hown' hg3 hnil3 hat3;have hX3:=hX.kept ((hg3.block X (by simp;omega) (fun e=>by have:=(hlt X e.symm).1;omega)).trans (hb0.block X hXl));have d1:=hX3.cell 1 _ rfl;have g1:=hX3.free 1;have hlen:(zam l++ [.int .u64 A,.int .u32 Ln,.bool (F/2%2*2 !=0)])=zam (l++ [⟨A,Ln,F/2%2*2 !=0⟩]):=by simp [zam,Sg.cells]
 have hl1:l.length+1=(l++ [(⟨A,Ln,F/2%2*2 !=0⟩:Sg)]).length:=by simp
 rw [hlen,hl1] at hown';have own2:OwnSeg w3 b2 v' (l++ [⟨A,Ln,F/2%2*2 !=0⟩]):=hown';obtain ⟨sa',sc',rfl,_⟩:=own2.slice;rw [show (l++ [(⟨A,Ln,F/2%2*2 !=0⟩:Sg)]).length=l.length+1 from by simp] at own2 hat3;clear hown' hlen hl1 hrow c1 hnil3;refine wpList_step fun K hK=> ?_;go_simp;refine hK _ _ ?_;clear hK;refine wpList_step fun K hK=> ?_;go_simp;refine hK _ _ ?_;clear hK;refine wpList_step fun K hK=> ?_;go_simp;refine hK _ _ ?_;clear hK;refine wpList_nil ?_;go_end0;have hs3:=hg3.size;have hnv:(Value.slice sa' (l.length+1) sc').ownBlock≠some X:=fun e=>by
  rcases hat3 with h|h
  ·rw [h] at e;have:=(hlt X e).1;omega
  ·rw [h] at e;simp at e;omega
 refine ⟨rfl,_,hX3.set 1 _ (by simp),own2.kept fun b e=>Below.heap_setCell w3 ⟨X,1,none⟩ _ b (fun e2=>by have e2:b=X:=e2;rw [e2] at e;exact hnv e),⟨hg3.os,hg3.tape,hg3.output,by simp at hs3 ⊢;omega,fun b hb hn=> ?_⟩,fun b hb=> ?_⟩
 ·rw [Below.heap_setCell w3 ⟨X,1,none⟩ _ b (fun e2=>hn (.inl e2))];exact (hg3.block b (by simp;omega) (fun e2=>hn (.inr e2.symm))).trans (hb0.block b hb)
 ·rcases hat3 with h|h
  ·exact .inl (h▸hb)
  ·rw [h] at hb;simp at hb;exact .inr (by omega)
theorem Tryz.RMm.mvX {w w':World} {P L Bs B N X:Nat} {g:Nat→Int} (h:RMm w P L Bs B N g) (hm:Dw.Mv (· =X) w w') (hx:X≠P∧X≠L∧X≠Bs∧X≠B):RMm w' P L Bs B N g:=
 h.kept (fun k hk hq=>hm.block k hk fun e=>by
  have e:k=X:=e;obtain ⟨h1,h2,h3,h4⟩:=hx;rcases hq with q|q|q|q<;>(rw [e] at q;contradiction)) hm.size
def Tryz.entE (e x:Int):Int:=if x=0 then e else stE e x
set_option maxRecDepth 100000 in
theorem Tryz.zqc (X P L Bs B N:Nat) (v:Value) (n e A k:Int) (g:Nat→Int) (w:World) (hX:Cl w X [.pointer (some ⟨P,0,none⟩),v,.int .i64 n,.int .i64 e]) (st:RMm w P L Bs B N g) (hN:N≤1048576) (ha:0≤A∧A<18446744073709551616) (hk:0≤k∧k<4294967296):
    Calls prog 172 #[.pointer (some ⟨X,0,none⟩),.int .u64 A,.int .u32 k] w fun en w'=>en= .returned (.tuple #[.int .i64 (entN N A k).1,.bool (decide ((entN N A k).2=0))])∧
      Cl w' X [.pointer (some ⟨P,0,none⟩),v,.int .i64 n,.int .i64 (entE e (entN N A k).2)]∧Dw.Mv (· =X) w w':=by
  have c0:=hX.cell 0 _ rfl;have t1:k.tmod 16=k%16:=Int.tmod_eq_emod_of_nonneg hk.1;have t2:k.tdiv 16=k/16:=Int.tdiv_eq_ediv_of_nonneg hk.1;have hst:=fun e1 w1 (h1:Cl w1 X [.pointer (some ⟨P,0,none⟩),v,.int .i64 n,.int .i64 e])=>zeR X (.pointer (some ⟨P,0,none⟩)) v n e e1 w1 h1;have hhas:=zj4 P L Bs B N A k g w st hN ha.1 ha.2 hk.1 (by omega);have wk:IntKind.wrap .u64 k=k:=zai (by omega) (by omega);have wd:IntKind.wrap .i64 (k/16)=k/16:=zaS (by omega) (by omega);have wq:IntKind.wrap .u32 (k/16)=k/16:=ztJ (by omega) (by omega);have hbm: ∀ {a b:World},Below a.heap.size a b→Dw.Mv (· =X) a b:=fun h=>⟨h.os,h.tape,h.output,h.size,fun b hb _=>h.block b hb⟩;by_cases hbad:k=0∨ ¬k%16=0∨64<k/16
  · have he:entN N A k=(0,4):=by unfold entN;rw [if_pos hbad]
    rw [he,show entE e (0,(4:Int)).2=stE e 4 from rfl,show decide ((((0:Int),(4:Int)).2)=0)=false from rfl];go_enter func172,ntmps172;by_cases q1:k=0
    · subst q1;go_wp2_with (first
        | (go_at_call 127;refine (hst 4 _ hX).mono ?_;rintro en w1 ⟨rfl,h1,hm1⟩)
        | go_in)
      go_ret2;exact ⟨rfl,h1,hm1⟩
    · by_cases q2:k%16=0
      · have q3:64<k/16:=by
          rcases hbad with h|h|h
          · exact absurd h q1
          · exact absurd q2 h
          · exact h
        go_wp2_with (first
          | (go_at_call 127;refine (hst 4 _ hX).mono ?_;rintro en w1 ⟨rfl,h1,hm1⟩)
          | go_in)
        go_ret2;exact ⟨rfl,h1,hm1⟩
      · go_wp2_with (first
          | (go_at_call 127;refine (hst 4 _ hX).mono ?_;rintro en w1 ⟨rfl,h1,hm1⟩)
          | go_in)
        go_ret2;exact ⟨rfl,h1,hm1⟩
  · have q1: ¬k=0:=fun h=>hbad (.inl h);have q2:k%16=0:=by
      by_cases h:k%16=0
      · exact h
      · exact absurd (.inr (.inl h)) hbad
    have q3: ¬64<k/16:=fun h=>hbad (.inr (.inr h));by_cases hin:A+k≤N
    · have he:entN N A k=(k/16,0):=by unfold entN;rw [if_neg hbad,if_pos hin]
      rw [he,show entE e (k/16,(0:Int)).2=e from rfl,show decide (((k/16,(0:Int)).2)=0)=true from rfl];rw [decide_eq_true (show 1≤k∧A+k≤N from ⟨by omega,hin⟩)] at hhas;go_enter func172,ntmps172;go_wp2_with (first
        | (go_at_call 55;refine hhas.mono ?_;rintro en w1 ⟨rfl,hb1⟩)
        | go_in)
      go_ret2;exact ⟨rfl,hX.below hb1 hX.lt,hbm hb1⟩
    · have he:entN N A k=(0,5):=by unfold entN;rw [if_neg hbad,if_neg hin]
      rw [he,show entE e (0,(5:Int)).2=stE e 5 from rfl,show decide ((((0:Int),(5:Int)).2)=0)=false from rfl];rw [decide_eq_false (show¬(1≤k∧A+k≤N) from fun h=>hin h.2)] at hhas;go_enter func172,ntmps172;go_wp2_with (first
        | (go_at_call 55;refine hhas.mono ?_;rintro en w1 ⟨rfl,hb1⟩)
        | (go_at_call 127;refine (hst 5 _ (hX.below hb1 hX.lt)).mono ?_;rintro en w2 ⟨rfl,h2,hm2⟩)
        | go_in)
      go_ret2;exact ⟨rfl,h2,(hbm hb1).trans hm2⟩
structure Tryz.LwR where
 q:Option Nat
 v:Value
 sz:Nat
 n:Nat
 cs:List Value
section
variable {X:Nat→Prop} {bX:Nat} {ρ:Val} {w0:World} {K:Nat→Prop} {S P L Bs B M N:Nat} {r:Tryz.Rg} {b2:Nat} {sk:Nat→Tryz.SS} {gk:Nat→Nat→Int} {rows:Nat→List Tryz.LwR} {f:FuncId} {args:List AV} {res:AV} {k k':Nat}
end
end Go.Proofs
namespace Go.Proofs
open Go.Dw Go.RowKit Go.Maps Go.Sort
theorem Tryz.zq2:(prog.info? 3).map (fun i=>(i.zero,i.size,i.bytes))=some (some (.int .i64 0),1,8):=by kernel_rfl
section
variable {ρ:Val} {w0:World} {K:Nat→Prop} {X:Nat→Prop} {bX:Nat} {S P L Bs B M N:Nat} {r:Tryz.Rg} {b2:Nat} {sk:Nat→Tryz.SS} {gk:Nat→Nat→Int} {rows:Nat→List Tryz.LwR} {k k' q:Nat}
end
end Go.Proofs
namespace Go.Proofs
open Go.Dw Go.RowKit Go.Maps Go.Sort Go.Deep
structure Tryz.EqB (a b:Bool):Prop where
 eq:a=b
theorem Tryz.ztU {w wr:World} {R o:Nat} {l:List Sg} (hr:w.rangeAt R o (zam l)) (hb:Below w.heap.size w wr) {k:Nat} (hk:k<l.length):wr.cell? ⟨R,o+k*3,none⟩=some (.int .u64 l[k].at1)∧wr.cell? ⟨R,o+k*3+1,none⟩=some (.int .u32 l[k].len)∧wr.cell? ⟨R,o+k*3+2,none⟩=some (.bool l[k].wr):=by
 obtain ⟨d0,d1,d2⟩:=zdK l k hk;have hRl:R<w.heap.size:=World.block_lt_of_cell? w _ (hr _ _ d1);refine ⟨?_,?_,?_⟩
 ·rw [Nat.mul_comm k 3];exact (hb.cell (p:=⟨R,o+3*k,none⟩) hRl).trans (hr _ _ d0)
 ·rw [show o+k*3+1=o+(3*k+1) by omega];exact (hb.cell (p:=⟨R,o+(3*k+1),none⟩) hRl).trans (hr _ _ d1)
 ·rw [show o+k*3+2=o+(3*k+2) by omega];exact (hb.cell (p:=⟨R,o+(3*k+2),none⟩) hRl).trans (hr _ _ d2)
set_option maxRecDepth 100000 in
theorem Tryz.zpT {A B:Nat→Prop} {w:World} {v1 v2:Value} {l1 l2:List Sg} (h1:SegV A w v1 l1) (h2:SegV B w v2 l2) (hl:l1.length<4000000) (hl2:l2.length<4000000):
  Calls prog 42 #[v1,v2] w fun e w'=>e= .returned (.bool (decide (l1=l2)))∧Below w.heap.size w w':=by
 obtain ⟨sa,c,rfl,hok,hr⟩:=h1;obtain ⟨sb,d,rfl,hok2,hr2⟩:=h2;by_cases hlen:l1.length=l2.length
 ·obtain ⟨z,hz⟩: ∃z,EqB z (decide (l1=l2)):=⟨_,⟨rfl⟩⟩;rw [←hz.eq];obtain ⟨m,hm⟩: ∃m,m=l1.length:=⟨_,rfl⟩;rw [←hlen,←hm];have hm1:l1.length≤m∧m≤l1.length:=by omega
  have hm2:l2.length≤m∧m≤l2.length:=by omega
  clear hm hlen;go_enter func42,ntmps42;go_wp2_with fail;go_loopw [5] (fun i wr=>Below w.heap.size w wr∧ ∃k:Nat,k≤m∧i= .int .i64 k∧l1.take k=l2.take k) (fun i _=>m-(RowKit.intOf i).toNat)
  case atStart=>exact ⟨Below.refl _ _,0,Nat.zero_le _,rfl,rfl⟩
  case round=>
   obtain ⟨hb,k,hk,rfl,hall⟩:=hrel;by_cases hkm:k<m
   ·have hkm':(k:Int)<m:=by omega
    have k1:k<l1.length:=by omega
    have k2:k<l2.length:=by omega
    rcases hr with hr|⟨R,o,rfl,hRA,hr⟩
    ·subst hr;simp at k1
    rcases hr2 with hr2|⟨R2,o2,rfl,hRA2,hr2⟩
    ·subst hr2;simp at k2
    obtain ⟨f0,f1,f2⟩:=ztU hr hb k1;obtain ⟨g0,g1,g2⟩:=ztU hr2 hb k2;have ht:l1[k]=l2[k]→l1.take (k+1)=l2.take (k+1):=fun e=>by rw [List.take_succ_eq_append_getElem k1,List.take_succ_eq_append_getElem k2,hall,e]
    have hne:l1[k]≠l2[k]→ ¬l1=l2:=fun e q=>e (by subst q;rfl);clear hr hr2;generalize l1[k]=x1 at*;generalize l2[k]=x2 at*;obtain ⟨a1,n1,t1⟩:=x1;obtain ⟨a2,n2,t2⟩:=x2;by_cases he:a1=a2∧n1=n2∧t1=t2
    ·obtain ⟨rfl,rfl,rfl⟩:=he;have ht:=ht rfl;clear hne;go_wp2_with fail;go_quiet (fail);go_wp2;exact ⟨⟨below_drewN hb _,k+1,by omega,by push_cast;rfl,ht trivial⟩,by simp only [RowKit.intOf];omega⟩
    ·have hzf:=hz.eq;rw [decide_eq_false (hne fun q=>he (by cases q;exact ⟨rfl,rfl,rfl⟩))] at hzf;subst hzf;clear hz ht hne;have h3: ¬a1=a2∨ ¬n1=n2∨ ¬t1=t2:=by
      by_cases q1:a1=a2
      ·by_cases q2:n1=n2
       ·exact .inr (.inr fun q3=>he ⟨q1,q2,q3⟩)
       ·exact .inr (.inl q2)
      ·exact .inl q1
     clear he;rcases h3 with h|h|h
     all_goals
      have hbf:=beq_false_of_ne h;go_wp2_with fail;go_quiet (fail);go_wp2;go_ret;exact ⟨rfl,below_drewN hb _⟩
   ·have hkm': ¬(k:Int)<m:=by omega
    have:k=m:=by omega
    subst this;have:l1=l2:=by rw [List.take_of_length_le hm1.1,List.take_of_length_le hm2.1] at hall;exact hall
    have hzf:=hz.eq;rw [decide_eq_true this] at hzf;subst hzf;clear hz;go_wp2;go_ret;exact ⟨rfl,hb⟩
 ·have hn: ¬l1=l2:=fun q=>hlen (by rw [q]);rw [decide_eq_false hn];have hne: ¬(l1.length:Int)=l2.length:=by omega
  go_enter func42,ntmps42;go_wp2_with fail;go_ret;exact ⟨rfl,Below.refl _ _⟩
end Go.Proofs
namespace Go.Proofs
open Go.Dw Go.RowKit Go.Maps Go.Sort
section
variable {X:Nat→Prop} {bX:Nat} {ρ:Val} {w0:World} {K:Nat→Prop} {S P L Bs B M N:Nat} {r:Tryz.Rg} {b2:Nat} {sk:Nat→Tryz.SS} {gk:Nat→Nat→Int} {rows:Nat→List Tryz.LwR} {f:FuncId} {args:List AV} {res:AV} {k k':Nat}
end
end Go.Proofs
namespace Go.Proofs
open Go.Dw Go.RowKit Go.Maps Go.Sort Go.Deep
theorem Tryz.zaL {fn:Func} {p u:Tmp} {ty:TypeId} (h:fn.results= #[.cell p ty,.tmp u]) (tmps:Array Value) (w:World) (b:Nat) (cs:List Value) (d:TypeDesc)
  (hp:tmps.getD p undef= .pointer (some ⟨b,0,none⟩)) (hg:w.rangeAt b 0 cs) (hu:prog.underlying ty=some d) (hd:d.isRow=true) (hi:(prog.info? ty).map (·.size)=some cs.length):
  (results fn tmps).run prog w= .ok (.tuple #[.agg cs.toArray,tmps.getD u undef]) w:=by
 have hp':tmps[p]?.getD undef= .pointer (some ⟨b,0,none⟩):=by simpa using hp
 simp [results,h,hp',asAddr,run_loadVar_mid w b 0 ty cs d hg hu hd hi]
end Go.Proofs
namespace Go.Proofs
open Go.Dw Go.RowKit Go.Maps Go.Sort
section
variable {X:Nat→Prop} {bX:Nat} {ρ:Val} {w0:World} {K:Nat→Prop} {S P L Bs B M N:Nat} {r:Tryz.Rg} {b2:Nat} {sk:Nat→Tryz.SS} {gk:Nat→Nat→Int} {rows:Nat→List Tryz.LwR} {f:FuncId} {args:List AV} {res:AV} {k k':Nat}
end
end Go.Proofs
namespace Go.Proofs
open Go.Dw Go.RowKit Go.Maps Go.Sort
theorem Tryz.zfK {P0:Program} (w:World) (base:Nat) (t ty e t0:TypeId) (i:TypeInfo) (z:Value) (size bytes:Nat) (ht:P0.underlying t=some (.slice e)) (hi:P0.info? e=some i) (hz:i.zero=some z)
  (hsize:i.size=size) (hby:i.bytes=bytes) (hzs:z.cells.size=size) (hsz:0<size)
  (v:Value) (n:Nat) (xs:List Value) (hown:w.ownsRow base t0 size v n xs)
  (a:Addr) (m c:Nat) (news:List Value) (hl:news.length=m*size) (hnews: ∀j u,news[j]? =some u→w.cell? (a.add j)=some u) (h1: ∀u∈news,u.oneCell'=true)
  (h63:n+m≤maxLen) (hbytes:(n+m)*bytes≤140737488355328) (hbase:base≤w.heap.size):
  ∃ v' w' t',(Builtin.append_ #[t,t] ty #[v,.slice (some a) m c]).run P0 w= .ok v' w'∧w'.ownsRow base t' size v' (n+m) (xs++news)∧w.grownBy w' v.ownBlock∧(v'.ownBlock=v.ownBlock∨v'.ownBlock=some w.heap.size):=by
 have hsmall:n+m≤9223372036854775807:=by simp only [maxLen] at h63;omega
 have hlen:(xs++news).length=(n+m)*size:=by rw [List.length_append,hown.1,hl,Nat.add_mul]
 rcases hown.2 with ⟨rfl,rfl⟩|⟨g,cap,cur,rfl,hbg,hg,hnc,hcm,hcs,htake⟩
 ·obtain ⟨v',w',q1,q2,q3,_,q5⟩:=run_append_own_at (P:=P0) w base t ty e i z size bytes ht hi hz hsize hby hzs hsz (.slice none 0 0) 0 xs ⟨hown.1,.inl ⟨rfl,rfl⟩⟩ a m c news hl hnews h1 h63 hbytes hbase;exact ⟨v',w',e,q1,q2,q3,q5⟩
 ·subst hsize;subst hby;by_cases hroom:n+m≤cap
  ·have hfit:n*i.size+news.length≤cur.size:=by rw [hl,hcs,←Nat.add_mul];exact Nat.mul_le_mul_right _ hroom
   have hf:=run_firstCells_some (P:=P0) w i.size m a m c news hl hnews;have hst:=run_storeCells_at P0 g (n*i.size) t0 news 0 cur w hg (by simpa using hfit) h1;simp only [Nat.add_zero] at hst;have hr:(Builtin.append_ #[t,t] ty #[.slice (some ⟨g,0,none⟩) n cap,.slice (some a) m c]).run P0 w= .ok (.slice (some ⟨g,0,none⟩) (n+m) cap) (w.setRow g (cur.toList.take (n*i.size)++news++cur.toList.drop (n*i.size+news.length)).toArray):=by
    simp [Builtin.append_,run_underlying ht,sizeOf,typeInfo,hi,Builtin.lenOf,hroom,hf,Addr.add_lit,hst]
   refine ⟨_,_,t0,hr,⟨hlen,.inr ⟨g,cap,_,rfl,hbg,setRow_heap w g cur _ t0 _ hg,hroom,hcm,?_,?_⟩⟩,⟨rfl,rfl,rfl,by simp,fun k _ hk=>setRow_other w g k _ (fun e=>hk (by simp [Value.ownBlock,e]))⟩,Or.inl rfl⟩
   ·simp only [List.size_toArray,List.length_append,List.length_take,List.length_drop,Array.length_toList];omega
   ·rw [htake,←hlen];exact List.take_left
  ·have holds: ∀j u,xs[j]? =some u→w.cell? ((⟨g,0,none⟩:Addr).add j)=some u:=hown.cells (g:=g) rfl;have hr:=run_append_grow (P:=P0) w t ty e i z ht hi hz ⟨g,0,none⟩ n cap xs hown.1 holds a m c news hl hnews (by omega) (by omega) (growslice_fits (by omega) hbytes);have hge:=grownCap_ge w (n+m) cap e;have hcm2:grownCap w (n+m) cap e≤maxLen:=grownCap_le_maxLen w (n+m) cap e h63;refine ⟨_,_,e,hr,⟨hlen,.inr ⟨w.heap.size,_,_,rfl,hbase,heap_alloc_new w.drew _,hge,hcm2,?_,?_⟩⟩,⟨rfl,rfl,rfl,by simp,fun k hk _=>heap_alloc_old w.drew _ (h:=hk)⟩,Or.inr rfl⟩
   ·simp only [Array.size_append,List.size_toArray,size_zeroCells,hzs,hown.1,hl,←Nat.add_mul];congr 1;omega
   ·simp only [Array.toList_append,List.append_assoc];rw [←List.append_assoc,←hlen];exact List.take_left
section
variable {X:Nat→Prop} {bX:Nat} {ρ:Val} {w0:World} {K:Nat→Prop} {S P L Bs B M N:Nat} {r:Tryz.Rg} {b2:Nat} {sk:Nat→Tryz.SS} {gk:Nat→Nat→Int} {rows:Nat→List Tryz.LwR} {k k' q:Nat}
end
end Go.Proofs
namespace Go.Proofs
open Go.Dw Go.RowKit Go.Maps Go.Sort Go.Deep Go.ChangeShapes Go.WideShapes
section
variable {H:Type} {enc:TypeId×Value→H} {W:World} {sp:Nat→Bool} {held:Bool} {fuel:Nat}
theorem Tryz.zqO {α:Type} {p:Nat→α→Prop}: ∀n,(∀i,i<n→ ∃x,p i x)→ ∃l:List α,l.length=n∧ ∀(i:Nat) (hi:i<l.length),p i l[i]
 | 0,_=>⟨[],rfl,fun i hi=>absurd hi (Nat.not_lt_zero i)⟩
 | n+1,h=>by
  obtain ⟨l,hl,hp⟩:=zqO n fun i hi=>h i (by omega);obtain ⟨x,hx⟩:=h n (by omega);refine ⟨l++ [x],by simp [hl],fun i hi=> ?_⟩;by_cases hlt:i<l.length
  ·rw [List.getElem_append_left hlt];exact hp i hlt
  ·have e:i=n:=by simp at hi;omega
   subst e;simp only [List.getElem_append_right (by omega:l.length≤i),hl,Nat.sub_self,List.getElem_singleton];exact hx
theorem Tryz.addr_add (b o n:Nat):(⟨b,o,none⟩:Addr).add n=⟨b,o+n,none⟩:=by
 unfold Addr.add;split
 ·rename_i h;rw [h];rfl
 ·rfl
theorem Tryz.zgD {α:Type} {l:List α} {i:Nat} (h:i<l.length):l[i]? =some l[i]:=List.getElem?_eq_getElem h
set_option maxRecDepth 100000 in
theorem Tryz.zsh {cs:List Value} {x:DataW H×List MemPlace} (h:DataW.trod enc prog W 0 sp held fuel 136 cs=some x): ∃s:Sg,cs=s.cells∧s.ok:=by
 obtain ⟨xs,n,rfl,rfl,hl,hx,hf⟩:=DataW.trod_struct underlying136 h;have hl:cs.length=3:=hl.trans (by kernel_rfl);have hx:xs.length=3:=hx
 match cs,hl with
 | [c0,c1,c2],_=>
  have f0:DataW.trod enc prog W 0 sp held n 29 [c0]=xs[0]? :=by
   have:=(show DataW.trod enc prog W 0 sp held n 29 (([c0,c1,c2].drop 0).take (prog.cellsOf 29))=xs[0]? from hf 0 _ rfl);rw [show prog.cellsOf 29=1 from by kernel_rfl] at this;exact this
  have f1:DataW.trod enc prog W 0 sp held n 52 [c1]=xs[1]? :=by
   have:=(show DataW.trod enc prog W 0 sp held n 52 (([c0,c1,c2].drop 1).take (prog.cellsOf 52))=xs[1]? from hf 1 _ rfl);rw [show prog.cellsOf 52=1 from by kernel_rfl] at this;exact this
  have f2:DataW.trod enc prog W 0 sp held n 4 [c2]=xs[2]? :=by
   have:=(show DataW.trod enc prog W 0 sp held n 4 (([c0,c1,c2].drop 2).take (prog.cellsOf 4))=xs[2]? from hf 2 _ rfl);rw [show prog.cellsOf 4=1 from by kernel_rfl] at this;exact this
  rw [zgD (by omega)] at f0 f1 f2;obtain ⟨n0,e0,_,w0⟩:=DataW.trod_int underlying29 f0;obtain ⟨n1,e1,_,w1⟩:=DataW.trod_int underlying52 f1;obtain ⟨b,e2,_⟩:=DataW.trod_bool underlying4 f2;simp only [List.cons.injEq,and_true] at e0 e1 e2;subst e0 e1 e2;have b0:=bounds_u64 w0;have b1:=bounds_u32 w1;exact ⟨⟨n0,n1,b⟩,rfl,by show 0≤n0;omega,by show n0<_;omega,by show 0≤n1;omega,by show n1<_;omega⟩
theorem Tryz.zhU {R:Nat}: ∀ {l:List Sg} {o:Nat},(∀(i:Nat) (hi:i<l.length),W.rangeAt R (o+3*i) l[i].cells)→W.rangeAt R o (zam l)
 | [], o,_=>fun j v hv=>by simp [zam] at hv
 | x::r,o,h=>fun j v hv=>by
  have h0:=h 0 (by simp);have hr:=zhU (R:=R) (l:=r) (o:=o+3) fun i hi=>by
   have:=h (i+1) (by simpa using hi);rw [show o+3*(i+1)=o+3+3*i by omega] at this;simpa using this
  have hv:(x.cells++zam r)[j]? =some v:=hv;by_cases hj:j<3
  ·rw [List.getElem?_append_left (by simpa [Sg.cells] using hj)] at hv;exact h0 j v hv
  ·rw [List.getElem?_append_right (by simp [Sg.cells];omega)] at hv;have:=hr (j-3) v hv;rw [show o+3+(j-3)=o+j by omega] at this;exact this
set_option maxRecDepth 100000 in
theorem Tryz.zpQ {v:Value} {x:DataW H×List MemPlace} (h:DataW.trod enc prog W 0 sp held fuel 51 [v]=some x) (hw: ∀n∈x.1.weights prog 51,n≤reachBytes):
  ∃ l,SegV (fun _=>False) W v l∧l.length<4000000000000000:=by
 rcases DataW.trod_slice underlying51 h with ⟨e,_⟩|⟨a,len,cap,elems,rest,n,rfl,e,rfl,_,hlc,hcap,hel,hc,_⟩
 ·simp only [List.cons.injEq,and_true] at e;subst e;exact ⟨[],SegV.none,by decide⟩
 ·simp only [List.cons.injEq,and_true] at e;subst e;have hb:prog.bytesOf 136=16:=by kernel_rfl
  have hsz:=hw ((elems.length+rest.length)*16) (by
   unfold DataW.weights;rw [underlying51];simp [hb])
  unfold reachBytes at hsz;obtain ⟨l,hll,hl⟩:=zqO (p:=fun i (s:Sg)=>W.cells? 0 (a.add (i*3)) 3=some s.cells∧s.ok) len fun i hi=>by
   have:=hc i hi;rw [zgD (by omega)] at this;obtain ⟨cs,h1,h2⟩:=Option.bind_eq_some_iff.1 this;obtain ⟨s,rfl,hs⟩:=zsh h2;exact ⟨s,h1,hs⟩
  subst hll;refine ⟨l,⟨some a,cap,rfl,fun s hs=> ?_,?_⟩,by omega⟩
  ·obtain ⟨i,hi,rfl⟩:=List.mem_iff_getElem.1 hs;exact (hl i hi).2
  ·by_cases h0:l= []
   ·exact .inl h0
   ·right;obtain ⟨ab,ao,aq⟩:=a;have hp:0<l.length:=List.length_pos_iff.2 h0;have hs:aq=none:=cell_spot ((World.cells?_some (hl 0 hp).1).2.2 0 (by decide));subst hs;refine ⟨ab,ao,rfl,fun h=>h,zhU fun i hi j y hy=> ?_⟩;have hj:j<3:=by
     have:=List.getElem?_eq_some_iff.1 hy;simpa [Sg.cells] using this.1
    have:=(World.cells?_some (hl i hi).1).2.2 j hj;rw [hy,addr_add,addr_add] at this;rw [show ao+3*i+j=ao+i*3+j by omega];exact this
end
end Go.Proofs
namespace Go.Proofs
open Go.Dw Go.RowKit Go.Maps Go.Sort Go.Deep Go.ChangeShapes Go.WideShapes
section
variable {H:Type} {enc:TypeId×Value→H} {W:World} {sp:Nat→Bool} {held:Bool} {fuel:Nat}
end
end Go.Proofs
namespace Go.Proofs
open Go.Dw Go.RowKit Go.Maps Go.Sort Go.Deep Go.ChangeShapes Go.WideShapes
section
variable {H:Type} {enc:TypeId×Value→H} {W:World} {sp:Nat→Bool} {held:Bool} {fuel:Nat}
end
end Go.Proofs
namespace Go.Proofs
open Go.Dw Go.RowKit Go.Maps Go.Sort
section
variable {W0:World} {H4 X11 S P L Bs B M:Nat} {r:Tryz.Rg} {av ov:Value} {ls:List (List Tryz.Sg)} {s:Tryz.SS} {g:Nat→Int} {hs:List Int} {bs:List (List Tryz.Sg)} {next:Int} {vh:Value} {i:Nat} {a:Act} {w:World}
end
end Go.Proofs
namespace Go.Proofs
open Go.Dw Go.RowKit Go.Maps Go.Sort Go.Deep
theorem Tryz.zeK {P0:Program} {w:World} {ops:Array Oper} {o:Oper} {a:Act} {K:Act→World→Prop} {Q:Exit→Act→World→Prop} {E:Prop} (hgd:o.guard=none) (s x:Operand) (t:TypeId)
  (ho:o.op= .call { callee:= .builtin .append,args:= #[s,x],argTypes:= #[t,t] })
  (base:Nat) (e t0:TypeId) (i:TypeInfo) (z:Value) (size bytes:Nat) (ht:P0.underlying t=some (.slice e)) (hi:P0.info? e=some i) (hz:i.zero=some z)
  (hsize:i.size=size) (hby:i.bytes=bytes) (hzs:z.cells.size=size) (hsz:0<size)
  (v:Value) (n:Nat) (xs:List Value) (hs:a.eval s=v) (hown:w.ownsRow base t0 size v n xs)
  (sa:Option Addr) (ad:Addr) (hsa:sa=some ad) (m c:Nat) (news:List Value) (hx:a.eval x= .slice sa m c) (hl:news.length=m*size) (hnews: ∀j u,news[j]? =some u→w.cell? (ad.add j)=some u) (h1: ∀u∈news,u.oneCell'=true)
  (h63:n+m≤maxLen) (hbytes:(n+m)*bytes≤140737488355328) (hbase:base≤w.heap.size)
  (h: ∀v' w' t',w'.ownsRow base t' size v' (n+m) (xs++news)→w.grownBy w' v.ownBlock→(v'.ownBlock=v.ownBlock∨v'.ownBlock=some w.heap.size)→K (a.put o.dst v') w'):
  if Region.wanted o (yielded ops a.tmps)=true then Oper.wp P0 o a w K Q else E:=by
 subst hsa;have hw:Region.wanted o (yielded ops a.tmps)=true:=by simp [Region.wanted,hgd]
 rw [if_pos hw];obtain ⟨v',w',t',hr,h2,h3,h4⟩:=zfK (P0:=P0) w base t o.type e t0 i z size bytes ht hi hz hsize hby hzs hsz v n xs hown ad m c news hl hnews h1 h63 hbytes hbase;unfold Oper.wp execOp;simp only [ho,resolve,invoke,builtin,Sem.run_bind,Sem.run_pure,Result.andThen_ok,List.map_toArray,List.map_cons,List.map_nil,hs,hx,hr];exact h v' w' t' h2 h3 h4
theorem Tryz.zfT: ∀(l:List Sg) (i:Nat) (hi:i<l.length),(zam l)[i*3]? =some (.int .u64 l[i].at1)∧(zam l)[i*3+1]? =some (.int .u32 l[i].len)
 | x::r,0,_=>⟨rfl,rfl⟩
 | x::r,i+1,hi=>by
  have h:=zfT r i (by simp at hi;omega);rw [zde,show (i+1)*3=i*3+1+1+1 by omega];simpa using h
set_option maxRecDepth 100000 in
theorem Tryz.zve {A:Nat→Prop} {w:World} {P L Bs B N:Nat} {g:Nat→Int} {v:Value} {l:List Sg} (st:RMm w P L Bs B N g) (hN:N≤1048576) (h:SegV A w v l) (hl:l.length≤100000):
    Calls prog 71 #[.pointer (some ⟨P,0,none⟩),v] w fun e w'=>e= .returned (.int .i64 (zbs N l))∧Below w.heap.size w w':=by
  have hck:=zm4 h;obtain ⟨sa,c,rfl,hok,hr⟩:=h;go_enter func71,ntmps71;go_wp2_with (first
    | (go_at_call 106;refine hck.mono ?_;rintro en w1 ⟨rfl,hb1⟩)
    | go_in)
  go_loopw [5,6] (fun e i w2=>Below w.heap.size w w2∧ ∃(k:Nat) (x:Int),k≤l.length∧i= .int .i64 k∧e= .int .i64 x∧((¬x=0∧x=zbs N l)∨(x=0∧zaO l=0∧ ∀(j:Nat) (hj:j<l.length),j<k→1≤l[j].len∧l[j].at1+l[j].len≤N))) (fun e i _=>if RowKit.intOf e=0 then l.length+1-(RowKit.intOf i).toNat else 0)
  case atStart=>
    refine ⟨hb1,0,zaO l,Nat.zero_le _,rfl,rfl,?_⟩;by_cases he:zaO l=0
    · exact .inr ⟨he,he,fun j _ hj=>absurd hj (by omega)⟩
    · exact .inl ⟨he,by unfold zbs;rw [if_neg he]⟩
  case round=>
    obtain ⟨hb2,k,x,hk,rfl,rfl,hx⟩:=hrel;rcases hx with ⟨hx0,hx⟩|⟨rfl,he0,hall⟩
    · have hx':(fun _:Unit=>x)=fun _=>zbs N l:=by rw [hx]
      clear hx;by_cases hkl:(k:Int)<l.length
      · go_wp2;go_ret;exact ⟨by rw [←congrFun hx' ()];rfl,hb2⟩
      · go_wp2;go_ret;exact ⟨by rw [←congrFun hx' ()];rfl,hb2⟩
    · by_cases hkl:k<l.length
      · have hkl':(k:Int)<l.length:=by omega
        rcases hr with hr|⟨R,o,rfl,hRA,hr⟩
        · subst hr;simp at hkl
        obtain ⟨d0,d1⟩:=zfT l k hkl;have e0:=hr _ _ d0;have e1:=hr _ _ d1;have hx1:=hok l[k] (List.getElem_mem hkl);have hRl:R<w.heap.size:=World.block_lt_of_cell? w _ e0;have f0:=(hb2.cell (p:=⟨R,o+k*3,none⟩) hRl).trans e0;have f1:wr.cell? ⟨R,o+k*3+1,none⟩=some (.int .u32 l[k].len):=(hb2.cell (p:=⟨R,o+(k*3+1),none⟩) hRl).trans e1;have hRl2:R<wr.heap.size:=World.block_lt_of_cell? wr _ f0;have hlc:(l.length:Int)≤l.length:=Int.le_refl _;obtain ⟨q1,q2,q3,q4⟩:=hx1;have wl:IntKind.wrap .u64 l[k].len=l[k].len:=zai q3 (by omega);have st2:=st.below hb2;have hhas:=fun w4 (h4:RMm w4 P L Bs B N g)=>zj4 P L Bs B N l[k].at1 l[k].len g w4 h4 hN q1 q2 q3 (by omega);generalize hat:l[k].at1=a1 at*;generalize hln:l[k].len=n1 at*;by_cases hin:1≤n1∧a1+n1≤N
        · rw [decide_eq_true hin] at hhas;go_wp2_with fail;go_region_held3 (fun w'=>w'.cell? ⟨R,o+k*3,none⟩=some (.int .u64 a1)∧w'.cell? ⟨R,o+k*3+1,none⟩=some (.int .u32 n1)) (go_keep)
            ((first|(go_at_call 55;refine (hhas wr.drew (st2.kept (w':=wr.drew) (fun _ _ _=>rfl) (Nat.le_refl _))).mono ?_;rintro en w3 ⟨rfl,hb3⟩;have f2:=(hb3.cell (p:=⟨R,o+k*3,none⟩) hRl2).trans f0;have f3:=(hb3.cell (p:=⟨R,o+k*3+1,none⟩) hRl2).trans f1)))
          all_goals go_wp2_with fail
          all_goals
            refine ⟨⟨hb2.drew.trans (hb3.mono hb2.size),k+1,by omega,by push_cast;rfl,fun j hj hlt=> ?_⟩,by simp only [RowKit.intOf];omega⟩;by_cases hjk:j=k
            · subst hjk;rw [hat,hln];exact hin
            · exact hall j hj (by omega)
        · rw [decide_eq_false hin] at hhas;go_wp2_with fail;go_region_held3 (fun w'=>w'.cell? ⟨R,o+k*3,none⟩=some (.int .u64 a1)∧w'.cell? ⟨R,o+k*3+1,none⟩=some (.int .u32 n1)) (go_keep)
            ((first|(go_at_call 55;refine (hhas wr.drew (st2.kept (w':=wr.drew) (fun _ _ _=>rfl) (Nat.le_refl _))).mono ?_;rintro en w3 ⟨rfl,hb3⟩;have f2:=(hb3.cell (p:=⟨R,o+k*3,none⟩) hRl2).trans f0;have f3:=(hb3.cell (p:=⟨R,o+k*3+1,none⟩) hRl2).trans f1)))
          all_goals go_wp2_with fail
          all_goals
            refine ⟨⟨hb2.drew.trans (hb3.mono hb2.size),k+1,by omega,by push_cast;rfl,?_⟩,by simp only [RowKit.intOf];omega⟩;unfold zbs;rw [if_pos he0,if_neg fun h=>hin ?_];have:=zcU.1 h l[k] (List.getElem_mem hkl)
            rwa [hat,hln] at this
      · have hkl': ¬(k:Int)<l.length:=by omega
        go_wp2;go_ret;refine ⟨?_,hb2⟩;have hz:zbs N l=0:=by
          unfold zbs;rw [if_pos he0,if_pos (zcU.2 fun x hx=>by
            obtain ⟨j,hj,rfl⟩:=List.getElem_of_mem hx;exact hall j hj (by omega))]
        rw [hz];rfl
end Go.Proofs
namespace Go.Proofs
open Go.Dw Go.RowKit
structure Tryz.PTk where
 ct:Int
 sg:List Sg
structure Tryz.PS where
 ev:Bool
 tb:Bool
 nx:Int
 nw:Bool
 us:Int
 uw:Bool
 tk:List (Int×PTk)
 ou:Int
 ph:Nat
 op:Int
 nn:Bool
 hd:Int
 sg:List Sg
 wr:Int
 it:Bool
 dn:Bool
 br:Bool
section
variable {A:Nat→Prop} {w w':World} {S P L Bs B M N:Nat} {r:Tryz.Rg} {s s':Tryz.PS} {g g':Nat→Int}
end
section
variable {ρ:Val} {w0:World} {K:Nat→Prop} {P L Bs B N:Nat} {g:Nat→Int} {gs:List (Nat→Int)}
end
end Go.Proofs
namespace Go.Proofs
open Go.Dw Go.RowKit Go.Maps Go.Sort Go.Deep
section
variable {A:Nat→Prop} {w w':World} {S P L Bs B N b2:Nat} {r:Tryz.Rg} {s s':Tryz.PS} {g g':Nat→Int} {lv:Value}
end
end Go.Proofs
namespace Go.Proofs
open Go.Dw Go.RowKit Go.Maps Go.Sort Go.Deep
theorem Tryz.zaH {K:Nat→Prop} {a w:World} (h:Dw.Mv K a w) (b o:Nat) (v:Value) (hb:K b):Dw.Mv K a (w.setCell ⟨b,o,none⟩ v):=by
 have q:=(Mv.setCell (S:=K) (a:=a) (w:=w) ⟨h.os,h.tape,h.output,h.size,h.block⟩ b o v (.inl hb));exact ⟨q.os,q.tape,q.output,q.size,q.block⟩
theorem Tryz.OwnR.cap {t:TypeId} {sz n:Nat} {w:World} {b2:Nat} {sa:Option Addr} {c:Nat} {cs:List Value} (h:OwnR t sz w b2 (.slice sa n c) n cs) (hn:0<n):n≤c:=by
 obtain ⟨h1,h2⟩:=h;rcases h2 with ⟨h2,h3⟩|⟨G,cap,cur,e,h3,h4,h5,_⟩
 ·omega
 ·cases e;exact h5
theorem Tryz.zlC {w w':World} {G o:Nat} {cs:List Value} {row:Option Nat} (h:w.rangeAt G o cs) (hg:w.grownBy w' row) (hl:G<w.heap.size) (hn:some G≠row):w'.rangeAt G o cs:=zae h (hg.block G hl hn)
theorem Tryz.zo3 {w:World} {G:Nat} {cs:List Value} (h:w.rangeAt G 0 cs) (k:Nat): ∀j u,(cs.take k)[j]? =some u→w.cell? ((⟨G,0,none⟩:Addr).add j)=some u:=fun j u hu=>by
 rw [Dw.addr_add];rw [List.getElem?_take] at hu;split at hu
 ·have:=h j u hu
  rwa [Nat.zero_add] at this ⊢
 ·cases hu
theorem Tryz.zaA {K:Nat→Prop} {a w:World} (h:Dw.Mv K a w) (b o:Nat) (v:Value) (hb:K b∨a.heap.size≤b):Dw.Mv K a (w.setCell ⟨b,o,none⟩ v):=by
 have q:=(Mv.setCell (S:=K) (a:=a) (w:=w) ⟨h.os,h.tape,h.output,h.size,h.block⟩ b o v hb);exact ⟨q.os,q.tape,q.output,q.size,q.block⟩
theorem Tryz.zaa {K:Nat→Prop} {a w:World} (h:Below a.heap.size a w):Dw.Mv K a w:=⟨h.os,h.tape,h.output,h.size,fun b hb _=>h.block b hb⟩
section
variable {A:Nat→Prop} {w w':World} {S P L Bs B N b2:Nat} {r:Tryz.Rg} {s s':Tryz.PS} {g g':Nat→Int} {lv:Value}
end
end Go.Proofs
namespace Go.Proofs
open Go.Dw Go.RowKit Go.Maps Go.Sort Go.Deep
section
variable {A A' K:Nat→Prop} {w w':World} {S P L Bs B N b2:Nat} {r:Tryz.Rg} {s s':Tryz.PS} {g g':Nat→Int} {lv:Value}
theorem Tryz.SegV.setK {A A':Nat→Prop} {w w':World} {v:Value} {l:List Sg} (h:SegV A w v l) (hA: ∀b,b<w.heap.size→A' b→A b) (hk: ∀b,b<w.heap.size→ ¬A b→w'.heap[b]? =w.heap[b]?):SegV A' w' v l:=by
 obtain ⟨sa,c,rfl,hl,hr⟩:=h;refine ⟨sa,c,rfl,hl,?_⟩;rcases hr with h0|⟨R,o,rfl,hn,hr⟩
 ·exact .inl h0
 ·by_cases h0:l= []
  ·exact .inl h0
  ·have hR:=zgK hr h0;exact .inr ⟨R,o,rfl,fun q=>hn (hA R hR q),zae hr (hk R hR hn)⟩
end
end Go.Proofs
namespace Go.Proofs
open Go.Dw Go.RowKit Go.Maps Go.Sort Go.Deep
structure Tryz.SgOk (r:Rg):Prop where
 ok:RgOk r
 n16:r.n≤16
 d:r.d=4096
 v:r.v=4096+16*r.n
 c:r.v+6+2*r.n≤r.c∧r.c+6+8*r.n≤20000
def Tryz.SD.row (s:SD) (r:Rg) (P M:Nat) (stv nowv sgv fv:Value):List Value:=
 [.pointer (some ⟨P,0,none⟩),.bool false,.int .i64 r.n,.int .u64 r.d,.int .u64 r.v,.int .u64 r.c,.bool s.ev,.bool s.tb,.bool false,.int .u64 20000,.int .i64 r.n,fv,.map (some M),.int .u16 s.av,.int .u16 s.sn,
  stv,nowv,sgv,.int .i64 s.op,.bool s.nn,.int .i64 s.tok,.int .u32 s.wr,.bool s.kk,.bool s.dn,.bool s.br]
def Tryz.zbN (ph:Nat):List Nat:=
 match ph with
 | 1=> [66,67,68,69,68,70]
 | 2=> [67,68,69,68,70]
 | 3=> [68,69,68,70]
 | 4=> [69,68,70]
 | 5=> [68,70]
 | 6=> [70]
 | 11=> [75]
 | 12=> [111,68,112]
 | 13=> [68,112]
 | 14=> [112]
 | 15=> [68,110]
 | 16=> [110]
 | _=> []
def Tryz.ztW (S fn:Nat):Value:= .func (.func fn) #[.pointer (some ⟨S,0,none⟩)] #[]
def Tryz.SStepV (A:Nat→Prop) (w:World) (S:Nat) (v:Value) (l:List Nat):Prop:= ∃sa c,v= .slice sa l.length c∧l.length≤c∧(l= []∨ ∃R o,sa=some ⟨R,o,none⟩∧ ¬A R∧w.rangeAt R o (l.map (ztW S)))
structure Tryz.SDWf (fns:List Nat) (nw:Prop) (A:Nat→Prop) (w:World) (S P L Bs B M N:Nat) (r:Rg) (s:SD) (g:Nat→Int):Prop where
 obj: ∃stv nowv sgv fv,Cl w S (s.row r P M stv nowv sgv fv)∧SStepV A w S stv fns∧nowv.oneCell'=true∧(nw→OutV A w nowv s.c)∧SegV A w sgv s.sg∧IdV A w fv s.F
 out:OutW A w M s.L
 mem:GM w P L Bs B N g
 ne:S≠M
 aS:A S
 aM:A M
 aB:A B
 lt: ∀b,A b→b<w.heap.size
 rg:SgOk r
 hN:N≤1048576
 fit:40000≤N
 sd:S≠P∧S≠L∧S≠Bs∧S≠B
 md:M≠P∧M≠L∧M≠Bs∧M≠B
structure Tryz.SDW (A:Nat→Prop) (w:World) (S P L Bs B M N:Nat) (r:Rg) (s:SD) (g:Nat→Int):Prop where
 f:SDWf (zbN s.ph) (1≤s.ph∧s.ph≤6) A w S P L Bs B M N r s g
 pb:SDB r.n.toNat s
section
variable {fns fns':List Nat} {nw nw':Prop} {A A':Nat→Prop} {w w':World} {S P L Bs B M N:Nat} {r:Tryz.Rg} {s s':Tryz.SD} {g g':Nat→Int}
theorem Tryz.zaz {R o:Nat} {cs:List Value} (h:w.rangeAt R o cs) (h0:cs≠ []):R<w.heap.size:=by
 match cs,h0 with
 | c::_,_=>exact World.block_lt_of_cell? w _ (h 0 c rfl)
theorem Tryz.SStepV.setK {v:Value} {l:List Nat} (h:SStepV A w S v l) (hA: ∀b,b<w.heap.size→A' b→A b) (hk: ∀b,b<w.heap.size→ ¬A b→w'.heap[b]? =w.heap[b]?):SStepV A' w' S v l:=by
 obtain ⟨sa,c,e,h0,h⟩:=h;refine ⟨sa,c,e,h0,?_⟩;rcases h with h|⟨R,o,e1,h1,h2⟩
 ·exact .inl h
 ·by_cases hl:l= []
  ·exact .inl hl
  ·have hR:=zaz h2 (by simpa using hl);exact .inr ⟨R,o,e1,fun q=>h1 (hA R hR q),zae h2 (hk R hR h1)⟩
theorem Tryz.IdV.setK {v:Value} {ids:List Int} (h:IdV A w v ids) (hA: ∀b,b<w.heap.size→A' b→A b) (hk: ∀b,b<w.heap.size→ ¬A b→w'.heap[b]? =w.heap[b]?):IdV A' w' v ids:=by
 obtain ⟨sa,c,e,hcap,h⟩:=h;refine ⟨sa,c,e,hcap,?_⟩;rcases h with h|⟨R,o,e1,h1,h2⟩
 ·exact .inl h
 ·by_cases hl:ids= []
  ·exact .inl hl
  ·have hR:=zaz h2 (by unfold zac;simpa using hl);exact .inr ⟨R,o,e1,fun q=>h1 (hA R hR q),zae h2 (hk R hR h1)⟩
theorem Tryz.OutV.setK {v:Value} {e:SO} (h:OutV A w v e) (hA: ∀b,b<w.heap.size→A' b→A b) (hk: ∀b,b<w.heap.size→ ¬A b→w'.heap[b]? =w.heap[b]?):OutV A' w' v e:=by
 obtain ⟨X,iv,e1,h1,h2,h3⟩:=h;have hX:=zaz h2 (by simp);exact ⟨X,iv,e1,fun q=>h1 (hA X hX q),zae h2 (hk X hX h1),h3.setK hA hk⟩
theorem Tryz.OutW.setK {l:List SO} (h:OutW A w M l) (hM:w'.heap[M]? =w.heap[M]?) (hA: ∀b,b<w.heap.size→A' b→A b) (hk: ∀b,b<w.heap.size→ ¬A b→w'.heap[b]? =w.heap[b]?):OutW A' w' M l:=by
 obtain ⟨arr,clock,h1,h2,h3⟩:=h.map;refine ⟨⟨arr,clock,hM.trans h1,h2,fun k=>⟨(h3 k).1,fun e he=> ?_⟩⟩,h.keys⟩;obtain ⟨v,h4,h5⟩:=(h3 k).2 e he;exact ⟨v,h4,h5.setK hA hk⟩
theorem Tryz.SDWf.keepA (h:SDWf fns nw A w S P L Bs B M N r s g) (hA: ∀b,b<w.heap.size→A' b→A b) (aS:A' S) (aM:A' M) (aB:A' B) (hl: ∀b,A' b→b<w'.heap.size) (hk: ∀b,b<w.heap.size→(¬A b∨b=S∨b=M∨b=P∨b=L∨b=Bs∨b=B)→w'.heap[b]? =w.heap[b]?) (hs:w.heap.size≤w'.heap.size):SDWf fns nw A' w' S P L Bs B M N r s g:=by
 obtain ⟨stv,nowv,sgv,fv,h1,h2,h3,h4,h5,h6⟩:=h.obj;have hkk: ∀b,b<w.heap.size→ ¬A b→w'.heap[b]? =w.heap[b]? :=fun b hb hn=>hk b hb (.inl hn);exact ⟨⟨stv,nowv,sgv,fv,h1.kept (hk S h1.lt (.inr (.inl rfl))),h2.setK hA hkk,h3,fun q=>(h4 q).setK hA hkk,h5.setK hA hkk,h6.setK hA hkk⟩,h.out.setK (hk M (h.lt M h.aM) (.inr (.inr (.inl rfl)))) hA hkk,
  h.mem.kept (fun k hk' hq=>hk k hk' (by rcases hq with q|q|q|q<;>simp [q])) hs,h.ne,aS,aM,aB,hl,h.rg,h.hN,h.fit,h.sd,h.md⟩
theorem Tryz.SDWf.below (h:SDWf fns nw A w S P L Bs B M N r s g) (hb:Below w.heap.size w w'):SDWf fns nw A w' S P L Bs B M N r s g:=
 h.keepA (fun b _ q=>q) h.aS h.aM h.aB (fun b q=>Nat.lt_of_lt_of_le (h.lt b q) hb.size) (fun b hb' _=>hb.block b hb') hb.size
theorem Tryz.SDW.below (h:SDW A w S P L Bs B M N r s g) (hb:Below w.heap.size w w'):SDW A w' S P L Bs B M N r s g:=⟨h.f.below hb,h.pb⟩
def Tryz.sdK (S M B b:Nat):Prop:=b=S∨b=M∨b=B
theorem Tryz.SDWf.setSB (h:SDWf fns nw A w S P L Bs B M N r s g) (hm:Dw.Mv (fun b=>b=S∨b=B) w w') (hg:GM w' P L Bs B N g') (ho: ∃stv nowv sgv fv,Cl w' S (s'.row r P M stv nowv sgv fv)∧SStepV A w' S stv fns'∧nowv.oneCell'=true∧(nw'→OutV A w' nowv s'.c)∧SegV A w' sgv s'.sg∧IdV A w' fv s'.F) (hL:s'.L=s.L):SDWf fns' nw' A w' S P L Bs B M N r s' g':=by
 have hb: ∀b,b<w.heap.size→b≠S→b≠B→w'.heap[b]? =w.heap[b]? :=fun b hb h1 h2=>hm.block b hb fun e=>e.elim h1 h2;exact ⟨ho,hL▸h.out.setK (hb M (h.lt M h.aM) h.ne.symm h.md.2.2.2) (fun b _ q=>q) (fun b hb' hn=>hb b hb' (fun e=>hn (e▸h.aS)) fun e=>hn (e▸h.aB)),hg,h.ne,h.aS,h.aM,h.aB,fun b q=>Nat.lt_of_lt_of_le (h.lt b q) hm.size,h.rg,h.hN,h.fit,h.sd,h.md⟩
theorem Tryz.SDWf.gmS (h:SDWf fns nw A w S P L Bs B M N r s g) (hm:Dw.Mv (· =S) w w'):GM w' P L Bs B N g:=
 h.mem.kept (fun k hk' hq=>hm.block k hk' (by have:=h.sd;show¬k=S;rcases hq with q|q|q|q<;>(rw [q];simp [this.1.symm,this.2.1.symm,this.2.2.1.symm,this.2.2.2.symm]))) hm.size
theorem Tryz.SDWf.ptr (h:SDWf fns nw A w S P L Bs B M N r s g) (hk: ∀b,b<w.heap.size→ ¬A b→w'.heap[b]? =w.heap[b]?): ∃stv nowv sgv fv,Cl w S (s.row r P M stv nowv sgv fv)∧SStepV A w' S stv fns∧nowv.oneCell'=true∧(nw→OutV A w' nowv s.c)∧SegV A w' sgv s.sg∧IdV A w' fv s.F:=by
 obtain ⟨stv,nowv,sgv,fv,h1,h2,h3,h4,h5,h6⟩:=h.obj;exact ⟨stv,nowv,sgv,fv,h1,h2.setK (fun _ _ q=>q) hk,h3,fun q=>(h4 q).setK (fun _ _ q=>q) hk,h5.setK (fun _ _ q=>q) hk,h6.setK (fun _ _ q=>q) hk⟩
end
end Go.Proofs
namespace Go.Proofs
open Go.Dw Go.RowKit Go.Maps Go.Sort Go.Deep
theorem Tryz.zs6 (M:Nat) (w:World):(binOp .neq 121 (.map (some M)) (.map none)).run prog w= .ok (.bool true) w:=by
 rw [run_neq_map_nil w 121 3 123 (some M) underlying121];rfl
theorem Tryz.zov {ph:Nat} (h:ph≤6∨(11≤ph∧ph≤16)):(zbN ph).length=0↔ph=0:=by
 have:ph=0∨ph=1∨ph=2∨ph=3∨ph=4∨ph=5∨ph=6∨ph=11∨ph=12∨ph=13∨ph=14∨ph=15∨ph=16:=by omega
 rcases this with rfl|rfl|rfl|rfl|rfl|rfl|rfl|rfl|rfl|rfl|rfl|rfl|rfl<;>simp [zbN]
section
variable {A:Nat→Prop} {w:World} {S P L Bs B M N:Nat} {r:Tryz.Rg} {s:Tryz.SD} {g:Nat→Int}
set_option maxRecDepth 100000 in
theorem Tryz.zg6 {fns:List Nat} {nw:Prop} (h:SDWf fns nw A w S P L Bs B M N r s g):Calls prog 83 #[.pointer (some ⟨S,0,none⟩)] w fun e w'=>e= .returned (.bool true)∧w'=w:=by
 obtain ⟨stv,nowv,sgv,fv,h1,_⟩:=h.obj;have c12:=h1.cell 12 _ rfl;have hq:=zs6 M;go_enter func83,ntmps83;go_wp2_with fail;go_ret;exact ⟨rfl,rfl⟩
set_option maxRecDepth 100000 in
theorem Tryz.zeC (h:SDW A w S P L Bs B M N r s g):Calls prog 32 #[.pointer (some ⟨S,0,none⟩)] w fun e w'=>e= .returned (.bool (decide (s.ph≠0)))∧w'=w:=by
  have hm:=zg6 h.f;have hz:=zov h.pb.ph;obtain ⟨stv,nowv,sgv,fv,h1,⟨sa,c,rfl,_⟩,_⟩:=h.f.obj;have c15:=h1.cell 15 _ rfl;have hd:decide (s.ph≠0)=decide (0<(zbN s.ph).length):=decide_eq_decide.2 (by omega);rw [hd];generalize (zbN s.ph).length=n at c15;clear hd hz;go_enter func32,ntmps32;go_wp2_with (first
    | (go_at_call 83;refine hm.mono ?_;rintro e w' ⟨rfl,hw⟩;have hw:=hw.symm;subst hw)
    | go_in)
  go_ret;exact ⟨rfl,rfl⟩
set_option maxRecDepth 100000 in
theorem Tryz.zkQ (h:SDW A w S P L Bs B M N r s g):Calls prog 33 #[.pointer (some ⟨S,0,none⟩)] w fun e w'=>e= .returned (.int .i64 (if s.br then 4 else 0))∧w'=w:=by
  have hm:=zg6 h.f;obtain ⟨stv,nowv,sgv,fv,h1,_⟩:=h.f.obj;have c24:=h1.cell 24 _ rfl;cases hb:s.br
  all_goals
    rw [hb] at c24;go_enter func33,ntmps33;go_wp2_with (first
      | (go_at_call 83;refine hm.mono ?_;rintro e w' ⟨rfl,hw⟩;have hw:=hw.symm;subst hw)
      | go_in)
    go_ret;exact ⟨rfl,rfl⟩
def Tryz.SD.rdy (s:SD):Int:=if s.br then 4 else if s.ph≠0 then 8 else 0
set_option maxRecDepth 100000 in
theorem Tryz.ziV (h:SDW A w S P L Bs B M N r s g):Calls prog 58 #[.pointer (some ⟨S,0,none⟩)] w fun e w'=>e= .returned (.int .i64 s.rdy)∧w'=w:=by
  have he:=zkQ h;have hz:=zeC h;unfold SD.rdy;cases hb:s.br<;>rw [hb] at he
  · by_cases hp:s.ph=0
    all_goals
      first|rw [decide_eq_false (by simpa using hp)] at hz|rw [decide_eq_true hp] at hz
      go_enter func58,ntmps58;go_wp2_with (first
        | (go_at_call 33;refine he.mono ?_;rintro e w' ⟨rfl,hw⟩;have hw:=hw.symm;subst hw)
        | (go_at_call 32;refine hz.mono ?_;rintro e w' ⟨rfl,hw⟩;have hw:=hw.symm;subst hw)
        | go_in)
      go_ret
      first|exact ⟨by simp [hp],rfl⟩|exact ⟨rfl,rfl⟩
  · go_enter func58,ntmps58;go_wp2_with (first
      | (go_at_call 33;refine he.mono ?_;rintro e w' ⟨rfl,hw⟩;have hw:=hw.symm;subst hw)
      | go_in)
    go_ret;exact ⟨rfl,rfl⟩
set_option maxRecDepth 100000 in
theorem Tryz.ziO (h:SDW A w S P L Bs B M N r s g):Calls prog 30 #[.pointer (some ⟨S,0,none⟩)] w fun e w'=>e= .returned (.int .i64 s.F.length)∧w'=w:=by
  have hm:=zg6 h.f;obtain ⟨stv,nowv,sgv,fv,h1,_,_,_,_,⟨sa,c,rfl,_⟩⟩:=h.f.obj;have c11:=h1.cell 11 _ rfl;go_enter func30,ntmps30;go_wp2_with (first
    | (go_at_call 83;refine hm.mono ?_;rintro e w' ⟨rfl,hw⟩;have hw:=hw.symm;subst hw)
    | go_in)
  go_ret;exact ⟨rfl,rfl⟩
set_option maxRecDepth 100000 in
theorem Tryz.zdf (S:Nat) (w:World):Calls prog 68 #[.pointer (some ⟨S,0,none⟩)] w fun e w'=>e= .returned (.tuple #[.agg #[.int .i64 4,.int .i64 0,.int .i64 0],.bool true])∧Below w.heap.size w w':=by
 have hbx:=(Below.refl w.heap.size w).alloc (Nat.le_refl _) (Obj.cells #[.int .i64 4,.int .i64 0,.int .i64 0] 56);have k2:=Cl.new w #[.int .i64 4,.int .i64 0,.int .i64 0] 56;go_enter func68,ntmps68;go_wp2_with fail;refine bodyPost_ret (zaL rfl _ _ w.heap.size [.int .i64 4,.int .i64 0,.int .i64 0] _ rfl (fun j y hy=>by rw [Nat.zero_add];exact k2.cell j y hy) underlying56 rfl (by kernel_rfl)) rfl ?_;exact ⟨rfl,hbx⟩
end
end Go.Proofs
namespace Go.Proofs
open Go.Dw Go.RowKit
section
variable {ρ:Val} {P L Bs B N:Nat} {n d v c i ct id nx e:Int} {tb wr nwr:Bool} {sv:Value} {g:Nat→Int} {b2 W0:Nat} {l l3:List Tryz.Sg} {a q1 q2 q3:Nat} {w0:World} {K:Nat→Prop}
end
end Go.Proofs
namespace Go.Proofs
open Go.Dw Go.RowKit Go.Maps Go.Sort
theorem Tryz.zor (a:Option Addr) (n c:Nat) (w:World):(binOp .eql 51 (.slice a n c) (.slice none 0 0)).run prog w= .ok (.bool a.isNone) w:=by
 simp only [binOp];simp [run_equal_slice_nil w 51 136 _ _ _ underlying51]
set_option maxRecDepth 100000 in
theorem Tryz.zoF {A:Nat→Prop} {w:World} {v:Value} {l:List Sg} (h:SegV A w v l) (hl:l.length≤1000000):
    Calls prog 64 #[v] w fun e w'=> ∃u,e= .returned u∧OwnSeg w' w.heap.size u l∧Below w.heap.size w w':=by
  obtain ⟨sa,c,rfl,hok,hr⟩:=h;have hq:=zor;obtain ⟨i0,hi0,hz0,hz1,hzb⟩:=info_parts zl1;have hseg1:=zfS l;cases sa with
  | none=>
    have h0:l= []:=by
      rcases hr with h|⟨R,o,h,_⟩
      · exact h
      · cases h
    subst h0;go_enter func64,ntmps64;go_wp2;go_ret;exact ⟨_,rfl,OwnSeg.nil _ _,Below.refl _ _⟩
  | some ad=>
    have hmade:=World.ownsRow_made (base:=w.heap.size) (e:=136) (size:=3) w #[] 0 (Nat.le_refl _) (by unfold maxLen;omega) rfl;have hb0:=(Below.refl w.heap.size w).alloc (Nat.le_refl _) (.cells #[] 136);have hnews: ∀j u,(zam l)[j]? =some u→(w.alloc (.cells #[] 136)).cell? (ad.add j)=some u:=fun j u hj=>by
      rcases hr with h|⟨R,o,h,_,hr⟩
      · subst h;cases hj
      · cases h;have hlt:R<w.heap.size:=World.block_lt_of_cell? w _ (hr j u hj);rw [Dw.addr_add];exact (World.cell?_of_block (a:=⟨R,o+j,none⟩) (Below.heap_alloc w _ R hlt)).trans (hr j u hj)
    have hlen:=zbH l;go_enter func64,ntmps64;go_wp2_with (first
      | (at_builtin;go_loud (refine wpList_append_own _ rfl _ _ 51 rfl w.heap.size 136 i0 _ 3 16 (by kernel_rfl) hi0 hz0 hz1 hzb rfl (by decide) _ _ _ rfl hmade ad l.length c (zam l) rfl (by omega) hnews hseg1 (by unfold maxLen;omega) (by omega) (by simp) ?_);intro v' w3 hown' hg3 _;go_frame)
      | go_in)
    go_ret;have hown2:OwnSeg w3 w.heap.size v' l:=by unfold OwnSeg;simpa using hown'
    refine ⟨_,rfl,hown2,hb0.grown hg3 (by simp) (fun j hj=> ?_)⟩;exact (hmade.lt j hj).1
section
variable {A:Nat→Prop} {w:World} {S P L Bs B M N:Nat} {r:Tryz.Rg} {s:Tryz.PS} {g:Nat→Int}
end
end Go.Proofs
namespace Go.Proofs
open Go.Dw Go.RowKit Go.Maps Go.Sort
def Tryz.ppOk (n:Int) (l:List Sg):Prop:=zwU l=0∧(l.length:Int)≤n
instance (n:Int) (l:List Tryz.Sg):Decidable (Tryz.ppOk n l):=by unfold Tryz.ppOk;infer_instance
end Go.Proofs
namespace Go.Proofs
open Go.Dw Go.RowKit
structure Tryz.DO where
 id:Int
 tk:Int
 ct:Int
def Tryz.DO.cells (e:DO):List Value:= [.int .i64 e.id,.int .i64 e.tk,.int .i64 e.ct]
structure Tryz.DS where
 ev:Bool
 tb:Bool
 nx:Int
 nw:Bool
 sx:Int
 sw:Bool
 own:Int
 L:List DO
 ph:Nat
 op:Int
 nn:Bool
 tok:Int
 wr:Int
 kk:Bool
 dn:Bool
 br:Bool
 c:DO
 sg:List Sg
 pu:List Pt
open Go.Maps Go.Sort
theorem Tryz.zmX {N:Nat} {l:List Sg} (h:zbs N l=0):l.length≤64∧zaO l=0:=by
 unfold zbs at h;by_cases he:zaO l=0
 ·refine ⟨?_,he⟩;unfold zaO at he;split at he
  ·cases he
  ·omega
 ·simp [he] at h
open Go.Deep
section
variable {fns fns':List Nat} {nw nw':Prop} {A A':Nat→Prop} {w w':World} {S P L Bs B I N:Nat} {r:Tryz.Rg} {s s':Tryz.DS} {g g':Nat→Int}
end
end Go.Proofs
namespace Go.Proofs
open Go.Dw Go.RowKit Go.Maps Go.Sort Go.Deep
section
variable {A:Nat→Prop} {w:World} {S P L Bs B I N:Nat} {r:Tryz.Rg} {s:Tryz.DS} {g:Nat→Int}
end
end Go.Proofs
namespace Go.Proofs
open Go.Dw Go.RowKit Go.Maps Go.Sort Go.Deep
theorem Tryz.zhV {fn:Func} {p:Tmp} {ty:TypeId} (h:fn.results= #[.cell p ty]) (tmps:Array Value) (w:World) (b:Nat) (cs:List Value) (d:TypeDesc)
  (hp:tmps.getD p undef= .pointer (some ⟨b,0,none⟩)) (hg:w.rangeAt b 0 cs) (hu:prog.underlying ty=some d) (hd:d.isRow=true) (hi:(prog.info? ty).map (·.size)=some cs.length):
  (results fn tmps).run prog w= .ok (.agg cs.toArray) w:=by
 have hp':tmps[p]?.getD undef= .pointer (some ⟨b,0,none⟩):=by simpa using hp
 simp [results,h,hp',asAddr,run_loadVar_mid w b 0 ty cs d hg hu hd hi]
theorem Tryz.zbu {w w':World} (h:Dw.Mv (fun _=>False) w w'):Below w.heap.size w w':=⟨h.os,h.tape,h.output,h.size,fun b hb=>h.block b hb id⟩
theorem Tryz.ztX {fn:Func} {t p:Tmp} {ty:TypeId} (h:fn.results= #[.tmp t,.cell p ty]) (tmps:Array Value) (w:World) (b:Nat) (cs:List Value) (d:TypeDesc)
  (hp:tmps.getD p undef= .pointer (some ⟨b,0,none⟩)) (hg:w.rangeAt b 0 cs) (hu:prog.underlying ty=some d) (hd:d.isRow=true) (hi:(prog.info? ty).map (·.size)=some cs.length):
  (results fn tmps).run prog w= .ok (.tuple #[tmps.getD t undef,.agg cs.toArray]) w:=by
 have hp':tmps[p]?.getD undef= .pointer (some ⟨b,0,none⟩):=by simpa using hp
 simp [results,h,hp',asAddr,run_loadVar_mid w b 0 ty cs d hg hu hd hi]
section
variable {fns:List Nat} {nw:Prop} {A:Nat→Prop} {w:World} {S P L Bs B I N:Nat} {r:Tryz.Rg} {s:Tryz.DS} {g:Nat→Int}
end
end Go.Proofs
namespace Go.Proofs
open Go.Dw Go.RowKit Go.Maps Go.Sort Go.Deep
section
variable {fns fns':List Nat} {nw nw':Prop} {A A':Nat→Prop} {w w':World} {S P L Bs B I N:Nat} {r:Tryz.Rg} {s s':Tryz.DS} {g g':Nat→Int}
theorem Tryz.zg1 {K:Nat→Prop} {a b:World} (h:Mv K a b):Dw.Mv K a b:=⟨h.os,h.tape,h.output,h.size,h.block⟩
end
end Go.Proofs
namespace Go.Proofs
open Go.Dw Go.RowKit Go.Maps Go.Sort Go.Deep
section
variable {fns fns':List Nat} {nw nw':Prop} {A A':Nat→Prop} {w w':World} {S P L Bs B I N:Nat} {r:Tryz.Rg} {s s':Tryz.DS} {g g':Nat→Int}
end
end Go.Proofs
namespace Go.Proofs
open Go.Dw Go.RowKit Go.Maps Go.Sort Go.Deep
section
variable {fns fns':List Nat} {nw nw':Prop} {A A':Nat→Prop} {w w':World} {S P L Bs B I N:Nat} {r:Tryz.Rg} {s s':Tryz.DS} {g g':Nat→Int}
end
end Go.Proofs
namespace Go.Proofs
open Go.Dw Go.RowKit Go.Maps Go.Sort Go.Deep
structure Tryz.HidP (p:Prop):Prop where
 out:p
section
variable {fns fns':List Nat} {nw nw':Prop} {A A':Nat→Prop} {w w':World} {S P L Bs B I N:Nat} {r:Tryz.Rg} {s s':Tryz.DS} {g g':Nat→Int}
end
end Go.Proofs
namespace Go.Proofs
open Go.Dw Go.RowKit Go.Maps Go.Sort Go.Deep
section
variable {fns fns':List Nat} {nw nw':Prop} {A A':Nat→Prop} {w w':World} {S P L Bs B I N:Nat} {r:Tryz.Rg} {s s':Tryz.DS} {g g':Nat→Int}
end
end Go.Proofs
namespace Go.Proofs
open Go.Dw Go.RowKit Go.Maps Go.Sort Go.Deep
section
variable {fns fns':List Nat} {nw nw':Prop} {A A':Nat→Prop} {w w':World} {S P L Bs B I N:Nat} {r:Tryz.Rg} {s s':Tryz.DS} {g g':Nat→Int}
end
end Go.Proofs
namespace Go.Proofs
open Go.Dw Go.RowKit Go.Maps Go.Sort Go.Deep
theorem Tryz.zvy {α:Type} (l:List α) (b:List α) (x:α) (k:Nat) (h:k+b.length<l.length):(l.take k++b++l.drop (k+b.length)).set (k+b.length) x=l.take k++(b++ [x])++l.drop (k+b.length+1):=by
 have hk:(l.take k++b).length=k+b.length:=by rw [List.length_append,List.length_take];omega
 rw [List.set_append,if_neg (by omega),hk,Nat.sub_self,List.drop_eq_getElem_cons h,List.set_cons_zero];simp
set_option maxRecDepth 100000 in
theorem Tryz.zoC {w:World} {X:Nat} {l:List Value} (h:Cl w X l) (hl:l.length=16) {at0 n:Nat} (v:Int) (hn:at0+n≤16) (hn8:n≤8):
  Calls prog 149 #[.pointer (some ⟨X,0,none⟩),.int .i64 at0,.int .i64 n,.int .u64 v] w fun e w'=>e= .returned (.tuple #[])∧Cl w' X (l.take at0++zaq (bytesOf v n)++l.drop (at0+n))∧Dw.Mv (· =X) w w':=by
 go_enter func149,ntmps149;go_wp2;go_loopw [10] (fun c wr=> ∃i:Nat,i≤n∧c= .int .i64 i∧Cl wr X (l.take at0++zaq (bytesOf v i)++l.drop (at0+i))∧Dw.Mv (· =X) w wr) (fun c _=>n-(RowKit.intOf c).toNat)
 case atStart=>exact ⟨0,Nat.zero_le _,rfl,by simpa [bytesOf,zaq] using h,Dw.Mv.refl _ _⟩
 case round=>
  obtain ⟨i,hi,rfl,st',mv⟩:=hrel;by_cases hik:i<n
  ·have hlen:(zaq (bytesOf v i)).length=i:=by rw [zaq,List.length_map,zbB]
   have hll:(l.take at0++zaq (bytesOf v i)++l.drop (at0+i)).length=16:=by
    simp only [List.length_append,List.length_take,List.length_drop,hlen];omega
   have hc:=st'.cell (at0+i) _ (List.getElem?_eq_getElem (by omega));have hf:=st'.free (at0+i);have hw8:=wrap_u8 (v/2^(8*i));have hset:=st'.set (at0+i) (.int .u8 (v/2^(8*i)%256)) (by omega);have e1:zaq (bytesOf v (i+1))=zaq (bytesOf v i)++ [.int .u8 (v/2^(8*i)%256)]:=by rw [zk2,zaq,zaq,List.map_append];rfl
   have e2:=zvy l (zaq (bytesOf v i)) (.int .u8 (v/2^(8*i)%256)) at0 (by omega);rw [hlen] at e2;rw [e2,←e1] at hset;obtain ⟨cv,hcv⟩: ∃cv,wr.cell? ⟨X,at0+i,none⟩=some cv:=⟨_,hc⟩;clear hc e1 e2 hlen hll;go_wp2;have hm2:=(zaH (K:=(· =X)) mv X (at0+i) (.int .u8 (v/2^(8*i)%256)) rfl).trans (zaa (K:=(· =X)) (Below.refl _ _).drew);have e8:IntKind.wrap .i64 (8*(i:Int))=8*(i:Int):=zaS (by omega) (by omega);have eA:IntKind.wrap .i64 ((at0:Int)+(i:Int))=(at0:Int)+(i:Int):=zaS (by omega) (by omega);have y0:0≤8*(i:Int):=by omega
   have y1:8*(i:Int)≤64:=by omega
   have e9:(8*(i:Int)).toNat=8*i:=by omega
   have y2:0≤(at0:Int)+(i:Int)∧(at0:Int)+(i:Int)<16:=by omega
   have e7:((at0:Int)+(i:Int)).toNat=at0+i:=by omega
   go_region_law fail
   all_goals
    go_wp2;exact ⟨⟨i+1,by omega,by push_cast;rfl,hset.kept rfl,hm2⟩,by simp only [RowKit.intOf];omega⟩
  ·have hik':i=n:=by omega
   subst hik';go_wp2;go_end0;exact ⟨rfl,st',mv⟩
theorem Tryz.zeV {w:World} {X:Nat} {pre rest:List Value} (h:Cl w X (pre++rest)) (hl:pre.length+rest.length=16) {at0 n:Nat} (ha:at0=pre.length) (v:Int) (hn:at0+n≤16) (hn8:n≤8):
  Calls prog 149 #[.pointer (some ⟨X,0,none⟩),.int .i64 at0,.int .i64 n,.int .u64 v] w fun e w'=>e= .returned (.tuple #[])∧Cl w' X ((pre++zaq (bytesOf v n))++rest.drop n)∧Dw.Mv (· =X) w w':=by
 subst ha;refine (zoC h (by rw [List.length_append];exact hl) v hn hn8).mono ?_;rintro e w' ⟨h1,h2,h3⟩;refine ⟨h1,?_,h3⟩;rw [List.take_left,List.drop_append,List.drop_of_length_le (by omega),Nat.add_sub_cancel_left,List.nil_append] at h2;exact h2
theorem Tryz.zbE (v:Int) (n:Nat):(zaq (bytesOf v n)).length=n:=by rw [zaq,List.length_map,zbB]
set_option maxRecDepth 100000 in
theorem Tryz.zhP {w:World} {X:Nat} {b:Bool} (h:w.cell? ⟨X,0,none⟩=some (.bool b)):Calls prog 175 #[.pointer (some ⟨X,0,none⟩)] w fun e w'=>e= .returned (.int .i64 (if b then 2 else 0))∧Below w.heap.size w w':=by
 cases b
 all_goals
  go_enter func175,ntmps175;go_wp2_with fail;go_ret;exact ⟨rfl,Below.refl _ _⟩
theorem Tryz.zpd {w:World} {X:Nat} (h:w.cell? ⟨X,0,none⟩=some (.bool true)):Calls prog 175 #[.pointer (some ⟨X,0,none⟩)] w fun e w'=>e= .returned (.int .i64 2)∧Below w.heap.size w w':=zhP h
theorem Tryz.zlh {w:World} {X:Nat} (h:w.cell? ⟨X,0,none⟩=some (.bool false)):Calls prog 175 #[.pointer (some ⟨X,0,none⟩)] w fun e w'=>e= .returned (.int .i64 0)∧Below w.heap.size w w':=zhP h
set_option maxRecDepth 100000 in
theorem Tryz.zdD (w:World) (b:Bool):Calls prog 141 #[.bool b] w fun e w'=>e= .returned (.func (.func 175) #[] #[.pointer (some ⟨w.heap.size,0,none⟩)])∧w'=w.alloc (Obj.cells #[.bool b] 4):=by
 go_enter func141,ntmps141;go_wp2_with fail;go_ret;exact ⟨rfl,rfl⟩
set_option maxRecDepth 100000 in
theorem Tryz.zfI (w:World) (v:Value) (hv:v.oneCell'=true):Calls prog 140 #[v] w fun e w'=>e= .returned (.func (.func 174) #[] #[.pointer (some ⟨w.heap.size,0,none⟩)])∧w'=w.alloc (Obj.cells #[v] 51):=by
 go_enter func140,ntmps140;go_wp2_with fail;go_ret;exact ⟨rfl,rfl⟩
def Tryz.za7 (l:List Sg):Int:=if zaO l≠0 then zaO l else if l.length=0 then 2 else 0
set_option maxRecDepth 100000 in
theorem Tryz.zeD {A:Nat→Prop} {w:World} {X:Nat} {v:Value} {l:List Sg} (h:Cl w X [v]) (hv:SegV A w v l):Calls prog 174 #[.pointer (some ⟨X,0,none⟩)] w fun e w'=>e= .returned (.int .i64 (za7 l))∧Below w.heap.size w w':=by
  have hck:=zdJ hv;obtain ⟨sa,c,rfl,hok,hr⟩:=hv;clear hok hr;have h0:=h.cell 0 _ rfl;unfold za7;generalize zaO l=e at hck;by_cases he:e=0
  · subst he;rw [if_neg (by simp)];by_cases hl:l.length=0
    · rw [if_pos hl];have hb:((l.length:Int)==0)=true:=by simpa using hl
      clear hl;go_enter func174,ntmps174;go_wp2_with (first
        | (go_at_call 95;refine hck.mono ?_;rintro en w1 ⟨rfl,hb1⟩;have k1:=h.below hb1 h.lt;have h1:=k1.cell 0 _ rfl)
        | (go_at_call 141;refine (zdD _ true).mono ?_;rintro en w2 ⟨rfl,hw2⟩;have hw2:=hw2.symm;subst hw2)
        | (go_at_call 175;refine (zpd ((Cl.new w1 #[.bool true] 4).cell 0 _ rfl)).mono ?_;rintro en w3 ⟨rfl,hb3⟩)
        | go_in)
      go_ret;exact ⟨rfl,((hb1.alloc hb1.size _).trans (hb3.mono (by have:=hb1.size;simp;omega)))⟩
    · rw [if_neg hl];have hb:((l.length:Int)==0)=false:=by simpa using hl
      clear hl;go_enter func174,ntmps174;go_wp2_with (first
        | (go_at_call 95;refine hck.mono ?_;rintro en w1 ⟨rfl,hb1⟩;have k1:=h.below hb1 h.lt;have h1:=k1.cell 0 _ rfl)
        | (go_at_call 141;refine (zdD _ false).mono ?_;rintro en w2 ⟨rfl,hw2⟩;have hw2:=hw2.symm;subst hw2)
        | (go_at_call 175;refine (zlh ((Cl.new w1 #[.bool false] 4).cell 0 _ rfl)).mono ?_;rintro en w3 ⟨rfl,hb3⟩)
        | go_in)
      go_ret;exact ⟨rfl,((hb1.alloc hb1.size _).trans (hb3.mono (by have:=hb1.size;simp;omega)))⟩
  · rw [if_pos he];go_enter func174,ntmps174;go_wp2_with (first
      | (go_at_call 95;refine hck.mono ?_;rintro en w1 ⟨rfl,hb1⟩)
      | go_in)
    go_ret;exact ⟨rfl,hb1⟩
structure Tryz.FnE where
 buf:Bool
 X:Nat
def Tryz.FnE.fn (e:FnE):Nat:=if e.buf then 174 else 175
def Tryz.FnE.val (e:FnE):Value:= .func (.func e.fn) #[] #[.pointer (some ⟨e.X,0,none⟩)]
def Tryz.zca:List Int→Int
 | [] => 0
 | x::r=>if x=0 then zca r else x
theorem Tryz.zdU: ∀(rs:List Int) (k:Nat),(∀j,j<k→rs.getD j 0=0)→zca rs=zca (rs.drop k)
 | [], k,_=>by simp
 | x::r,0,_=>rfl
 | x::r,k+1,h=>by
  have h0:=h 0 (by omega);simp only [List.getD_cons_zero] at h0;rw [zca,if_pos h0,List.drop_succ_cons];exact zdU r k fun j hj=>by have:=h (j+1) (by omega);simpa using this
set_option maxRecDepth 100000 in
theorem Tryz.ze8 {w:World} {R o c:Nat} (es:List FnE) (rs:List Int) (hlen:rs.length=es.length) (hrow:w.rangeAt R o (es.map FnE.val)) (hl6:es.length≤64) (hR:R<w.heap.size)
    (hcall: ∀k (hk:k<es.length),∀w',Below w.heap.size w w'→Calls prog (es[k]'(hk)).fn #[.pointer (some ⟨(es[k]'(hk)).X,0,none⟩)] w' fun e w''=>e= .returned (.int .i64 (rs.getD k 0))∧Below w'.heap.size w' w''):
    Calls prog 139 #[.slice (some ⟨R,o,none⟩) es.length c] w fun e w'=>e= .returned (.int .i64 (zca rs))∧Below w.heap.size w w':=by
  replace hcall:HidP (∀k (hk:k<es.length),∀w',Below w.heap.size w w'→Calls prog (es[k]'(hk)).fn #[.pointer (some ⟨(es[k]'(hk)).X,0,none⟩)] w' fun e w''=>e= .returned (.int .i64 (rs.getD k 0))∧Below w'.heap.size w' w''):=⟨hcall⟩;replace hlen:HidP (rs.length=es.length):=⟨hlen⟩;go_enter func139,ntmps139;go_wp2;go_loopw [8] (fun c wr=> ∃i:Nat,i≤es.length∧c= .int .i64 i∧HidP (∀j,j<i→rs.getD j 0=0)∧Below w.heap.size w wr) (fun c _=>es.length-(RowKit.intOf c).toNat)
  case atStart=>exact ⟨0,Nat.zero_le _,rfl,⟨fun j hj=>absurd hj (Nat.not_lt_zero j)⟩,Below.refl _ _⟩
  case round=>
    obtain ⟨i,hi,rfl,hz,hb⟩:=hrel;by_cases hik:i<es.length
    · have hcl:=hcall.out i hik wr hb;have hc:wr.cell? ⟨R,o+i,none⟩=some (es[i]'(hik)).val:=by
        have:=zae hrow (hb.block R hR) i _ (by rw [List.getElem?_map,List.getElem?_eq_getElem hik];rfl);exact this
      have hrk:i<rs.length:=by rw [hlen.out];exact hik
      have hsplit:HidP (zca rs=zca (rs.getD i 0::rs.drop (i+1))):=⟨by
        rw [zdU rs i hz.out,List.drop_eq_getElem_cons hrk,List.getD_eq_getElem?_getD,List.getElem?_eq_getElem hrk];rfl⟩
      have hz1:HidP (rs.getD i 0=0→ ∀j,j<i+1→rs.getD j 0=0):=⟨fun h0 j hj=>by
        by_cases e:j=i
        · exact e▸h0
        · exact hz.out j (by omega)⟩
      unfold FnE.val FnE.fn at hc;unfold FnE.fn at hcl;clear hrow hrk;generalize es[i]'(hik)=e at hc hcl;generalize hrv:rs.getD i 0=rv at hcl;replace hrv:HidP (rs.getD i 0=rv):=⟨hrv⟩;obtain ⟨b,X⟩:=e;cases b
      all_goals
        simp only [if_true,if_false,Bool.false_eq_true] at hc hcl;by_cases h0:rv=0
        · subst h0;go_wp2_with (first
            | (go_at_call 175;refine hcl.mono ?_;rintro en w1 ⟨rfl,hb1⟩)
            | (go_at_call 174;refine hcl.mono ?_;rintro en w1 ⟨rfl,hb1⟩)
            | go_in)
          exact ⟨⟨i+1,by omega,by push_cast;rfl,⟨hz1.out hrv.out⟩,hb.trans (hb1.mono hb.size)⟩,by simp only [RowKit.intOf];omega⟩
        · go_wp2_with (first
            | (go_at_call 175;refine hcl.mono ?_;rintro en w1 ⟨rfl,hb1⟩)
            | (go_at_call 174;refine hcl.mono ?_;rintro en w1 ⟨rfl,hb1⟩)
            | go_in)
          go_ret;refine ⟨?_,hb.trans (hb1.mono hb.size)⟩;rw [hsplit.out,hrv.out,zca,if_neg h0];rfl
    · have hik':i=es.length:=by omega
      have hf:HidP (zca rs=0):=⟨by rw [zdU rs i hz.out,List.drop_of_length_le (by rw [hlen.out];omega)];rfl⟩;subst hik';go_wp2;go_ret;exact ⟨by rw [hf.out];rfl,hb⟩
section
variable {fns fns':List Nat} {nw nw':Prop} {A A':Nat→Prop} {w w':World} {S P L Bs B I N:Nat} {r:Tryz.Rg} {s s':Tryz.DS} {g g':Nat→Int}
end
end Go.Proofs
namespace Go.Proofs
open Go.Dw Go.RowKit Go.Maps Go.Sort Go.Deep
section
variable {fns fns':List Nat} {nw nw':Prop} {A A':Nat→Prop} {w w':World} {S P L Bs B I N:Nat} {r:Tryz.Rg} {s s':Tryz.DS} {g g':Nat→Int}
end
end Go.Proofs
end
