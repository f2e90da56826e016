/-
  Proved: laws on the way to 'SserveTakesProof' (texts WkG DwTurn WkH0 WkH WkI0 WkI WkJ WkK WkL WkM WkN WkO WkP WkQ WkR WkS0 WkS1 WkS WkT DwOrc Orc); no condition.
-/
import Derived.Test.YtpogddachhjgaaaGreatM3
import Derived.Shelf.SlIterI.Nil
import Derived.Shelf.SlIterI.Sorted
import Derived.Lib.SlKeysI
import Derived.Test.YtpogddachhjgaaaGreatProg
import Derived.Shelf.SortM.Plain
import Derived.Shelf.SortM.SortNone
import Derived.KernelRfl
set_option linter.unusedSimpArgs false
set_option linter.unusedVariables false
noncomputable section
namespace Go.Proofs
open Go.Dw Go.RowKit
def Tryz.SegF (F:Nat→Prop) (w:World) (sa:Option Addr) (l:List Sg):Prop:=l= []∨ ∃R o,sa=some ⟨R,o,none⟩∧F R∧w.rangeAt R o (zaP l)
theorem Tryz.SegF.kept {F:Nat→Prop} {w w':World} {sa:Option Addr} {l:List Sg} (h:SegF F w sa l) (hb: ∀b,F b→w'.heap[b]? =w.heap[b]?):SegF F w' sa l:=by
 rcases h with h|⟨R,o,e,hF,hr⟩
 ·exact .inl h
 ·exact .inr ⟨R,o,e,hF,zaJ hr (hb R hF)⟩
theorem Tryz.SegF.v {F:Nat→Prop} {w:World} {sa:Option Addr} {l:List Sg} (h:SegF F w sa l) (hok: ∀x∈l,x.ok) (c:Nat):SegV (fun _=>False) w (.slice sa l.length c) l:=by
 rcases h with h|⟨R,o,e,hF,hr⟩
 ·exact ⟨sa,c,rfl,hok,.inl h⟩
 ·exact ⟨sa,c,rfl,hok,.inr ⟨R,o,e,fun h=>h,hr⟩⟩
def Tryz.segG (sa:Option Addr) (l:List Sg):Gho where
 fact k _ F w:=SegF F w sa l
 loc:=fun k _ _ F w w' h _ hb hs=>h.kept hb
def Tryz.zli (P L Bs B N:Nat) (g:Nat→Int) (sa:Option Addr) (l:List Sg):Gho where
 fact k _ F w:=(F P∧F L∧F Bs∧F B∧GM w P L Bs B N g)∧SegF F w sa l
 loc:=fun k _ _ F w w' h _ hb hs=>by
  obtain ⟨⟨h1,h2,h3,h4,h6⟩,h7⟩:=h
  exact ⟨⟨h1,h2,h3,h4,h6.kept (fun b _ hb'=>by rcases hb' with rfl|rfl|rfl|rfl<;>exact hb _ (by assumption)) hs⟩,h7.kept hb⟩
theorem Tryz.zes (k:Nat) (h:k<4611686018427387904):IntKind.wrap .i64 ((k:Int)+1)=((k+1:Nat):Int):=by rw [zdt (by omega) (by omega)];omega
def Tryz.zaD (wr:Bool):List Sg→Int
 | [] => 0
 | x::r=>if x.wr=wr then x.len+zaD wr r else zaD wr r
def Tryz.zbS (l:List Sg):Int×Int:=if zaZ l=0 then (zaD false l,zaD true l) else (0,0)
theorem Tryz.zck (b:Bool): ∀(l:List Sg),(∀x∈l,x.ok)→0≤zaD b l∧zaD b l≤l.length*4294967296
 | [], _=>by simp [zaD]
 | x::r,h=>by
  obtain ⟨h1,h2⟩:=zck b r fun y hy=>h y (List.mem_cons_of_mem _ hy)
  obtain ⟨_,_,h3,h4⟩:=h x (List.mem_cons_self ..)
  unfold zaD
  have e:(((x::r).length:Nat):Int)=r.length+1:=by simp
  rw [e]
  split<;>omega
theorem Tryz.zjM (b:Bool) (l:List Sg) (k:Nat) (h:k<l.length):zaD b (l.take (k+1))=zaD b (l.take k)+(if l[k].wr=b then l[k].len else 0):=by
 induction l generalizing k with
 | nil=>simp at h
 | cons x r ih=>
  cases k with
  | zero=>simp only [List.take_succ_cons,List.take_zero,zaD,List.getElem_cons_zero];split<;>simp
  | succ k=>
   have:=ih k (by simpa using h)
   simp only [List.take_succ_cons,zaD,List.getElem_cons_succ]
   rw [this]
   split<;>omega
theorem Tryz.zhp {l:List Sg} (h:zaZ l=0):l.length≤64:=by
 unfold zaZ at h
 split at h
 ·omega
 ·omega
def Tryz.zbp (n k x5 x6 e:Int) (x:Sg) (b2:Bool) (p sl:Value):Val:=vof [n,k,0,x.at1,x.len,x5,x6,e] [x.wr,false,b2] [p,sl]
set_option maxRecDepth 10000 in
theorem Tryz.zDu {ρ:Val} {w0:World} {K:Nat→Prop} {sa:Option Addr} {c:Nat} {l:List Sg} (hl:l.length≤64) (hok: ∀x∈l,x.ok) (hv1:ρ.v 1= .slice sa l.length c) (hn:(lnv 0).den ρ=l.length) (h5:(u64v 5).den ρ=zaD false l) (h6:(u64v 6).den ρ=zaD true l):
  zlv prog ρ w0 K (segG sa l) zeG:=by
 refine zd4 rfl (fun d hd=>by unfold zeG at hd;simp at hd;rw [hd];rfl) fun cc hc j a w F hsz hdf hsl _ hf _ _=> ?_
 have hf:SegF F w sa l:=hf
 have g2:=R_val rfl (hsl (2,.int .u64 (.lit 0)) (by simp [zeG])).2
 have g3:=R_val rfl (hsl (3,.int .u64 (.lit 0)) (by simp [zeG])).2
 have g9:=R_val rfl (hsl (9,sl1 []) (by simp [zeG])).2
 have g10:=R_val rfl (hsl (10,.int .i64 (lnv 0)) (by simp [zeG])).2
 have g11:=R_val rfl (hsl (11,.int .i64 (.lit 0)) (by simp [zeG])).2
 simp only [AV.val,sl1,hv1,hn,zaf] at g2 g3 g9 g10 g11
 have hcc:cc=zaI prog [0,0,1,0,1,1,60]:=by
  have:=zd5 (P:=prog) (p:= [0,1,0,1,1,60]) (by kernel_rfl)
  have hc:zaI prog [0,1,0,1,1,60]= .loop cc:=hc
  rw [hc] at this
  injection this
 subst hcc
 have hsz:a.tmps.size=30:=hsz
 refine zbl (fun (k:Nat) a' w'=>k≤l.length∧a'.tmps.size=30∧a'.defers= []∧a'.tmps.getD 2 undef= .int .u64 (zaD false (l.take k))∧a'.tmps.getD 3 undef= .int .u64 (zaD true (l.take k))∧a'.tmps.getD 9 undef= .slice sa l.length c∧a'.tmps.getD 10 undef= .int .i64 l.length∧a'.tmps.getD 11 undef= .int .i64 k∧Below w.heap.size w w')
  (fun k=>l.length-k) (fun k a1 w1 hI=> ?_) 0 a w ⟨Nat.zero_le _,hsz,hdf,by rw [g2];rfl,by rw [g3];rfl,g9,g10,by rw [g11];rfl,Below.refl _ _⟩
 obtain ⟨hk,q0,qd,q2,q3,q9,q10,q11,hb⟩:=hI
 have hb5:=zck false (l.take k) fun x hx=>hok x (List.mem_of_mem_take hx)
 have hb6:=zck true (l.take k) fun x hx=>hok x (List.mem_of_mem_take hx)
 have htk:(l.take k).length≤64:=by simp;omega
 by_cases hkl:k<l.length
 ·rcases hf with h0|⟨R,o,rfl,hFR,hr⟩
  ·rw [h0] at hkl;simp at hkl
  have hR:=zci hr (by intro h0;rw [h0] at hkl;simp at hkl)
  have hx:=zbZ (zaJ hr (hb.block R hR)) k hkl
  have hxo:=hok l[k] (List.getElem_mem hkl)
  have t5:=zjM false l k hkl
  have t6:=zjM true l k hkl
  generalize hX:l[k]=X at hx hxo t5 t6
  have d0:(lnv 0).den (zbp l.length k (zaD false (l.take k)) (zaD true (l.take k)) 0 X false undef (.slice (some ⟨R,o,none⟩) l.length c))=l.length:=zaR (by show (0:Int)≤l.length;omega) (by show ((l.length:Nat):Int)<_;omega)
  have d1:(lnv 1).den (zbp l.length k (zaD false (l.take k)) (zaD true (l.take k)) 0 X false undef (.slice (some ⟨R,o,none⟩) l.length c))=k:=zaR (by show (0:Int)≤k;omega) (by show (k:Int)<_;omega)
  have d3:(u64v 3).den (zbp l.length k (zaD false (l.take k)) (zaD true (l.take k)) 0 X false undef (.slice (some ⟨R,o,none⟩) l.length c))=X.at1:=zaH hxo.1 hxo.2.1
  have d4:(u32v 4).den (zbp l.length k (zaD false (l.take k)) (zaD true (l.take k)) 0 X false undef (.slice (some ⟨R,o,none⟩) l.length c))=X.len:=zbL hxo.2.2.1 hxo.2.2.2
  have d5:(u64v 5).den (zbp l.length k (zaD false (l.take k)) (zaD true (l.take k)) 0 X false undef (.slice (some ⟨R,o,none⟩) l.length c))=zaD false (l.take k):=zaH hb5.1 (by show zaD false (l.take k)<_;omega)
  have d6:(u64v 6).den (zbp l.length k (zaD false (l.take k)) (zaD true (l.take k)) 0 X false undef (.slice (some ⟨R,o,none⟩) l.length c))=zaD true (l.take k):=zaH hb6.1 (by show zaD true (l.take k)<_;omega)
  have dx:(zbp l.length k (zaD false (l.take k)) (zaD true (l.take k)) 0 X false undef (.slice (some ⟨R,o,none⟩) l.length c)).b 0=X.wr:=rfl
  have dv:(zbp l.length k (zaD false (l.take k)) (zaD true (l.take k)) 0 X false undef (.slice (some ⟨R,o,none⟩) l.length c)).v 1= .slice (some ⟨R,o,none⟩) l.length c:=rfl
  have hsx: ∀j:J,j 1=some ⟨R,o+3*k,0,none⟩→Dw.R (zbp l.length k (zaD false (l.take k)) (zaD true (l.take k)) 0 X false undef (.slice (some ⟨R,o,none⟩) l.length c)) j (sl1 [(lnv 1,1)]) (.slice (some ⟨R,o,none⟩) l.length c):=fun j h=>⟨rfl,_,_,_,rfl,d0.symm,⟨R,o,_,k,rfl,h,rfl,d1,hkl,rfl⟩,trivial⟩
  generalize zbp l.length k (zaD false (l.take k)) (zaD true (l.take k)) 0 X false undef (.slice (some ⟨R,o,none⟩) l.length c)=ρ' at*
  refine wp_mono (zax (ρ:=ρ') (K:=fun _=>False) (g:=Gho.none) (bl:= [(R,o+3*k)]) mixed zDs zHL (fun b h=>h.elim)
   ⟨zaQ hx (by unfold Sg.cells;simp) (zab (zac d3) (zab (zac d4) (zab (zaO dx) RL.nil))) (fun h=>h),trivial⟩
   ⟨fun h=>(by cases h),trivial⟩ zaB trivial trivial trivial q0 qd ?_ (zaa.2 ⟨by rw [zaX,d0,d1];simp only [decide_eq_true_eq];omega,zad.2 trivial⟩)) fun ex a2 w2 hh=> ?_
  ·intro t ht
   simp only [zfa,List.mem_cons,List.not_mem_nil,or_false] at ht
   rcases ht with rfl|rfl|rfl|rfl|rfl
   ·rw [q2];exact zac d5
   ·rw [q3];exact zac d6
   ·rw [q9];exact hsx _ rfl
   ·rw [q10];exact zac d0
   ·rw [q11];exact zac d1
  ·obtain ⟨q,hq,hto,lf,hlf,rfl,hsz2,j2,hdf2,he⟩:=hh
   have hb2:=zam he (fun _ h=>h)
   have hws:IntKind.wrap .u64 (zaD false (l.take k)+X.len)=zaD false (l.take k)+X.len:=zaL (by have:=hxo.2.2.1;omega) (by have:=hxo.2.2.2;omega)
   have hws':IntKind.wrap .u64 (zaD true (l.take k)+X.len)=zaD true (l.take k)+X.len:=zaL (by have:=hxo.2.2.1;omega) (by have:=hxo.2.2.2;omega)
   have hwk:=zes k (by omega)
   unfold zzf at hq
   simp only [List.mem_cons,List.not_mem_nil,or_false] at hq
   rcases hq with rfl|rfl
   all_goals
    simp only [zaa,zad,zaM,dx,and_true] at hto
    cases hlf
    have hsl2:=zaE he.ret
    simp only [AV.valL,AV.val,d0,d1,d4,d5,d6,dv,den_add,zaf,hws,hws',hwk,List.map_cons,List.map_nil,List.cons.injEq,and_true] at hsl2
    obtain ⟨p2,p3,p9,p10,p11⟩:=hsl2
    refine ⟨k+1,by omega,by omega,hsz2,hdf2,?_,?_,p9,p10,p11,hb.trans (hb2.mono hb.size)⟩
   ·rw [p2,t5,hto];simp
   ·rw [p3,t6,hto];simp
   ·rw [p2,t5,hto];simp
   ·rw [p3,t6,hto];simp
 ·have hkk:k=l.length:=by omega
  subst hkk
  rw [List.take_length] at q2 q3 hb5 hb6 htk
  have d0:(lnv 0).den (zbp l.length l.length (zaD false l) (zaD true l) 0 ⟨0,0,false⟩ false undef (.slice sa l.length c))=l.length:=zaR (by show (0:Int)≤l.length;omega) (by show ((l.length:Nat):Int)<_;omega)
  have d1:(lnv 1).den (zbp l.length l.length (zaD false l) (zaD true l) 0 ⟨0,0,false⟩ false undef (.slice sa l.length c))=l.length:=zaR (by show (0:Int)≤l.length;omega) (by show ((l.length:Nat):Int)<_;omega)
  have d5:(u64v 5).den (zbp l.length l.length (zaD false l) (zaD true l) 0 ⟨0,0,false⟩ false undef (.slice sa l.length c))=zaD false l:=zaH hb5.1 (by show zaD false l<_;omega)
  have d6:(u64v 6).den (zbp l.length l.length (zaD false l) (zaD true l) 0 ⟨0,0,false⟩ false undef (.slice sa l.length c))=zaD true l:=zaH hb6.1 (by show zaD true l<_;omega)
  have hsx:Dw.R (zbp l.length l.length (zaD false l) (zaD true l) 0 ⟨0,0,false⟩ false undef (.slice sa l.length c)) (jOf []) (sl1 []) (.slice sa l.length c):=⟨rfl,_,_,_,rfl,d0.symm,trivial⟩
  generalize zbp l.length l.length (zaD false l) (zaD true l) 0 ⟨0,0,false⟩ false undef (.slice sa l.length c)=ρ' at*
  refine wp_mono (zax (ρ:=ρ') (K:=fun _=>False) (g:=Gho.none) (bl:= []) mixed zzd zDr (fun b h=>h.elim) trivial trivial zaB trivial trivial trivial q0 qd ?_ (zaa.2 ⟨by rw [zaX,d0,d1];simp,zad.2 trivial⟩)) fun ex a2 w2 hh=> ?_
  ·intro t ht
   simp only [zdN,List.mem_cons,List.not_mem_nil,or_false] at ht
   rcases ht with rfl|rfl|rfl|rfl|rfl
   ·rw [q2];exact zac d5
   ·rw [q3];exact zac d6
   ·rw [q9];exact hsx
   ·rw [q10];exact zac d0
   ·rw [q11];exact zac d1
  ·obtain ⟨q,hq,hto,lf,hlf,rfl,hsz2,j2,hdf2,he⟩:=hh
   have hb2:=zam he (fun _ h=>h)
   unfold zuy at hq
   simp only [List.mem_cons,List.not_mem_nil,or_false] at hq
   subst hq
   cases hlf
   have hsl2:=zaE he.ret
   simp only [AV.valL,AV.val,d5,d6,List.map_cons,List.map_nil,List.cons.injEq,and_true] at hsl2
   obtain ⟨p2,p3⟩:=hsl2
   refine ⟨⟨.lit true,.exit 0,[(2,.int .u64 (u64v 5)),(3,.int .u64 (u64v 6))],0⟩,rfl,rfl,hsz2,hdf2,(fun t ht=>by cases ht),fun s hs=> ?_,hb.trans (hb2.mono hb.size)⟩
   simp only [List.mem_cons,List.not_mem_nil,or_false] at hs
   rcases hs with rfl|rfl
   ·rw [p2];exact zac h5
   ·rw [p3];exact zac h6
theorem Tryz.zb7 {A:Nat→Prop} {w:World} {sa:Option Addr} {c:Nat} {l:List Sg} (h:SegV A w (.slice sa l.length c) l):(segG sa l).G 0 (jOf []) w:=by
 obtain ⟨sa',c',e,hok,hr⟩:=h
 injection e with e1 _ e3
 subst e1
 refine ⟨fun b=>b<w.heap.size,fun b hb=>⟨hb,fun hm=> ?_⟩,?_⟩
 ·obtain ⟨k,L,h1,_⟩:=hm
  cases k<;>cases h1
 ·by_cases h0:l= []
  ·exact .inl h0
  ·rcases hr with h|⟨R,o,e,_,hr⟩
   ·exact .inl h
   ·exact .inr ⟨R,o,e,zci hr h0,hr⟩
theorem Tryz.zil {ρ:Val} {j:J} {sa:Option Addr} {c:Nat} {l:List Sg} (hv:ρ.v 1= .slice sa l.length c) (d0:(lnv 0).den ρ=l.length):Dw.R ρ j (sl1 []) (.slice sa l.length c):=⟨hv.symm,sa,_,c,rfl,d0.symm,trivial⟩
theorem Tryz.zsc {ρ:Val} {w0:World} {K:Nat→Prop} {g:Gho} {sa:Option Addr} {c:Nat} {l:List Sg} (hv:ρ.v 1= .slice sa l.length c) (d0:(lnv 0).den ρ=l.length) (h7:ρ.i 7=zaZ l) (hf: ∀w F q,g.fact 0 q F w→SegV (fun _=>False) w (.slice sa l.length c) l):
  za3 prog ρ w0 K g ckE:=
 zas (Dw.enters_of (by kernel_rfl)) (by decide) [.slice sa l.length c] (.int .i64 (zaZ l)) (fun j=>zab (zil hv d0) RL.nil) (fun j=>zac h7) fun w F q h=>zpV (hf w F q h)
theorem Tryz.zpU {A:Nat→Prop} {w:World} {v:Value} {l:List Sg} (h:SegV A w v l) (hln:l.length<4611686018427387904):
  Calls prog 60 #[v] w fun e w'=>e= .returned (.tuple #[.int .u64 (zbS l).1,.int .u64 (zbS l).2])∧Below w.heap.size w w':=by
 have h0:=h
 obtain ⟨sa,c,rfl,hok,hr⟩:=h
 have hG:=zb7 h0
 have hF:=fun w F q (hf:(segG sa l).fact 0 q F w)=>SegF.v hf hok c
 have d0:(lnv 0).den (zbp l.length 0 (zaD false l) (zaD true l) (zaZ l) ⟨0,0,false⟩ false undef (.slice sa l.length c))=l.length:=zaR (by show (0:Int)≤l.length;omega) (by show ((l.length:Nat):Int)<_;omega)
 have h7:(zbp l.length 0 (zaD false l) (zaD true l) (zaZ l) ⟨0,0,false⟩ false undef (.slice sa l.length c)).i 7=zaZ l:=rfl
 have hv:(zbp l.length 0 (zaD false l) (zaD true l) (zaZ l) ⟨0,0,false⟩ false undef (.slice sa l.length c)).v 1= .slice sa l.length c:=rfl
 unfold zbS
 by_cases hE:zaZ l=0
 ·have hl:=zhp hE
  have hb5:=zck false l hok
  have hb6:=zck true l hok
  have d5:(u64v 5).den (zbp l.length 0 (zaD false l) (zaD true l) (zaZ l) ⟨0,0,false⟩ false undef (.slice sa l.length c))=zaD false l:=zaH hb5.1 (by show zaD false l<_;omega)
  have d6:(u64v 6).den (zbp l.length 0 (zaD false l) (zaD true l) (zaZ l) ⟨0,0,false⟩ false undef (.slice sa l.length c))=zaD true l:=zaH hb6.1 (by show zaD true l<_;omega)
  generalize zbp l.length 0 (zaD false l) (zaD true l) (zaZ l) ⟨0,0,false⟩ false undef (.slice sa l.length c)=ρ at*
  rw [if_pos hE]
  refine Calls.mono (zdA (ρ:=ρ) (K:=fun _=>False) (g:=segG sa l) (bl:= []) (vals:= [.slice sa l.length c]) mixed zHM zKt (fun b h=>h.elim) trivial trivial hG ⟨zsc hv d0 h7 hF,trivial⟩ ⟨zDu hl hok hv d0 d5 d6,trivial⟩ trivial (zab (zil hv d0) RL.nil) (zad.2 trivial)) fun e w' hh=> ?_
  obtain ⟨p,hpm,hto,lf,hlf,j,he⟩:=hh
  have hb:=zam he (fun _ h=>h)
  unfold zGf at hpm
  simp only [List.mem_cons,List.not_mem_nil,or_false] at hpm
  rcases hpm with rfl|rfl
  all_goals
   simp only [zaa,zad,zbs,zay,zaf,h7,hE,and_true] at hto
   cases hlf
  ·exact absurd hto (by decide)
  ·exact ⟨he.ret.trans (by simp only [AV.val,AV.valL,d5,d6]),hb⟩
 ·generalize zbp l.length 0 (zaD false l) (zaD true l) (zaZ l) ⟨0,0,false⟩ false undef (.slice sa l.length c)=ρ at*
  rw [if_neg hE]
  refine Calls.mono (zav (ρ:=ρ) (K:=fun _=>False) (g:=segG sa l) (bl:= []) (vals:= [.slice sa l.length c]) mixed zDv zHP (fun b h=>h.elim) trivial trivial hG ⟨zsc hv d0 h7 hF,trivial⟩ (zab (zil hv d0) RL.nil) (zaa.2 ⟨by rw [zbs,zay,h7,zaf];simpa using hE,zad.2 trivial⟩)) fun e w' hh=> ?_
  obtain ⟨_,j,he⟩:=zbd hh
  exact ⟨he.ret,zam he (fun _ h=>h)⟩
def Tryz.zcc (N:Nat):List Sg→Bool
 | [] => true
 | x::r=>decide (1≤x.len∧x.at1+x.len≤N)&&zcc N r
def Tryz.zgx (N:Nat) (l:List Sg):Int:=if zaZ l=0 then (if zcc N l=true then 0 else 5) else zaZ l
set_option maxRecDepth 10000 in
theorem Tryz.zDJ {ρ:Val} {w0:World} {K:Nat→Prop} {P L Bs B N:Nat} {g:Nat→Int} {sa:Option Addr} {c:Nat} {l:List Sg} (hN:N≤1048576) (h1:1≤N) (hl:l.length≤64) (hok: ∀x∈l,x.ok) (hRm: ∀R o,sa=some ⟨R,o,none⟩→R≠P∧R≠L∧R≠Bs∧R≠B) (hv0:ρ.v 0= .pointer (some ⟨P,0,none⟩)) (hv1:ρ.v 1= .slice sa l.length c) (hn:(lnv 0).den ρ=l.length) (hb2:ρ.b 2=zcc N l):
  zlv prog ρ w0 K (zli P L Bs B N g sa l) zdP:=by
 refine zd4 rfl (fun d hd=>by unfold zdP at hd;simp at hd;rcases hd with rfl|rfl<;>rfl) fun cc hc j a w F hsz hdf hsl _ hf _ _=> ?_
 obtain ⟨⟨_,_,_,_,hm⟩,hf⟩:=hf
 have g0:=R_val rfl (hsl (0,.cst 0 none) (by simp [zdP])).2
 have g9:=R_val rfl (hsl (23,sl1 []) (by simp [zdP])).2
 have g10:=R_val rfl (hsl (24,.int .i64 (lnv 0)) (by simp [zdP])).2
 have g11:=R_val rfl (hsl (25,.int .i64 (.lit 0)) (by simp [zdP])).2
 simp only [AV.val,sl1,hv0,hv1,hn,zaf] at g0 g9 g10 g11
 have hcc:cc=zaI prog [0,0,1,0,1,1,1,163]:=by
  have:=zd5 (P:=prog) (p:= [0,1,0,1,1,1,163]) (by kernel_rfl)
  have hc:zaI prog [0,1,0,1,1,1,163]= .loop cc:=hc
  rw [hc] at this
  injection this
 subst hcc
 have hsz:a.tmps.size=38:=hsz
 refine zbl (fun (k:Nat) a' w'=>k≤l.length∧a'.tmps.size=38∧a'.defers= []∧a'.tmps.getD 0 undef= .pointer (some ⟨P,0,none⟩)∧zcc N l=zcc N (l.drop k)∧a'.tmps.getD 23 undef= .slice sa l.length c∧a'.tmps.getD 24 undef= .int .i64 l.length∧a'.tmps.getD 25 undef= .int .i64 k∧Below w.heap.size w w')
  (fun k=>l.length-k) (fun k a1 w1 hI=> ?_) 0 a w ⟨Nat.zero_le _,hsz,hdf,g0,rfl,g9,g10,by rw [g11];rfl,Below.refl _ _⟩
 obtain ⟨hk,q0,qd,q1,qs,q9,q10,q11,hb⟩:=hI
 have hm1:=hm.below hb
 by_cases hkl:k<l.length
 ·rcases hf with h0|⟨R,o,rfl,hFR,hr⟩
  ·rw [h0] at hkl;simp at hkl
  have hR:=zci hr (by intro h0;rw [h0] at hkl;simp at hkl)
  have hx:=zbZ (zaJ hr (hb.block R hR)) k hkl
  have hxo:=hok l[k] (List.getElem_mem hkl)
  rw [List.drop_eq_getElem_cons hkl,zcc] at qs
  generalize hX:l[k]=X at hx hxo qs
  generalize hy:decide (1≤X.len∧X.at1+X.len≤N)=y at qs
  have d0:(lnv 0).den (zbp l.length k 0 0 0 X y (.pointer (some ⟨P,0,none⟩)) (.slice (some ⟨R,o,none⟩) l.length c))=l.length:=zaR (by show (0:Int)≤l.length;omega) (by show ((l.length:Nat):Int)<_;omega)
  have d1:(lnv 1).den (zbp l.length k 0 0 0 X y (.pointer (some ⟨P,0,none⟩)) (.slice (some ⟨R,o,none⟩) l.length c))=k:=zaR (by show (0:Int)≤k;omega) (by show (k:Int)<_;omega)
  have d3:(u64v 3).den (zbp l.length k 0 0 0 X y (.pointer (some ⟨P,0,none⟩)) (.slice (some ⟨R,o,none⟩) l.length c))=X.at1:=zaH hxo.1 hxo.2.1
  have d4:(u32v 4).den (zbp l.length k 0 0 0 X y (.pointer (some ⟨P,0,none⟩)) (.slice (some ⟨R,o,none⟩) l.length c))=X.len:=zbL hxo.2.2.1 hxo.2.2.2
  have dx:(zbp l.length k 0 0 0 X y (.pointer (some ⟨P,0,none⟩)) (.slice (some ⟨R,o,none⟩) l.length c)).b 0=X.wr:=rfl
  have dy:(zbp l.length k 0 0 0 X y (.pointer (some ⟨P,0,none⟩)) (.slice (some ⟨R,o,none⟩) l.length c)).b 2=y:=rfl
  have dv:(zbp l.length k 0 0 0 X y (.pointer (some ⟨P,0,none⟩)) (.slice (some ⟨R,o,none⟩) l.length c)).v 1= .slice (some ⟨R,o,none⟩) l.length c:=rfl
  have dp:(zbp l.length k 0 0 0 X y (.pointer (some ⟨P,0,none⟩)) (.slice (some ⟨R,o,none⟩) l.length c)).v 0= .pointer (some ⟨P,0,none⟩):=rfl
  have hsx: ∀j:J,j 1=some ⟨R,o+3*k,0,none⟩→Dw.R (zbp l.length k 0 0 0 X y (.pointer (some ⟨P,0,none⟩)) (.slice (some ⟨R,o,none⟩) l.length c)) j (sl1 [(lnv 1,1)]) (.slice (some ⟨R,o,none⟩) l.length c):=fun j h=>⟨rfl,_,_,_,rfl,d0.symm,⟨R,o,_,k,rfl,h,rfl,d1,hkl,rfl⟩,trivial⟩
  generalize zbp l.length k 0 0 0 X y (.pointer (some ⟨P,0,none⟩)) (.slice (some ⟨R,o,none⟩) l.length c)=ρ' at*
  have hMn: ∀b,b=P∨b=L∨b=Bs∨b=B→ ¬Mine (jOf [(R,o+3*k)]) b:=fun b hb hmn=>by
   obtain ⟨r1,r2,r3,r4⟩:=hRm R o rfl
   obtain ⟨i,L',e1,_,e3⟩:=hmn
   match i,e1 with
   | 0,e1=>cases e1
   | 1,e1=>
    cases e1
    have e3:R=b:=e3
    rw [e3] at r1 r2 r3 r4
    rcases hb with h|h|h|h<;>contradiction
   | i+2,e1=>cases e1
  refine wp_mono (zax (ρ:=ρ') (K:=fun _=>False) (g:=memG P L Bs B N [g]) (bl:= [(R,o+3*k)]) mixed zDH zHW (fun b h=>h.elim)
   ⟨zaQ hx (by unfold Sg.cells;simp) (zab (zac d3) (zab (zac d4) (zab (zaO dx) RL.nil))) (fun h=>h),trivial⟩
   ⟨fun h=>(by cases h),trivial⟩ (zbx hm1 hMn) ⟨?_,trivial⟩ trivial trivial q0 qd ?_ (zaa.2 ⟨by rw [zaX,d0,d1];simp only [decide_eq_true_eq];omega,zad.2 trivial⟩)) fun ex a2 w2 hh=> ?_
  ·refine zas (Dw.enters_of (by kernel_rfl)) (by decide) [.pointer (some ⟨P,0,none⟩),.int .u64 X.at1,.int .u64 X.len] (.bool y) (fun j=>zab (za5 dp rfl) (zab (zac d3) (zab (zac d4) RL.nil))) (fun j=>zaO dy) fun w F q hf=> ?_
   obtain ⟨_,_,_,_,g',e,hm'⟩:=hf
   cases e
   rw [←hy]
   exact zBT P L Bs B N X.at1 X.len g w hm' hN h1 hxo.1 hxo.2.1 hxo.2.2.1
  ·intro t ht
   simp only [zfc,List.mem_cons,List.not_mem_nil,or_false] at ht
   rcases ht with rfl|rfl|rfl|rfl
   ·rw [q1];exact za5 dp rfl
   ·rw [q9];exact hsx _ rfl
   ·rw [q10];exact zac d0
   ·rw [q11];exact zac d1
  ·obtain ⟨q,hq,hto,lf,hlf,rfl,hsz2,j2,hdf2,he⟩:=hh
   have hb3:=zam he (fun _ h=>h)
   have hwk:=zes k (by omega)
   unfold zzM at hq
   simp only [List.mem_cons,List.not_mem_nil,or_false] at hq
   rcases hq with rfl|rfl
   all_goals
    simp only [zaa,zad,zaM,dy,and_true] at hto
    subst hto
    cases hlf
    have hsl2:=zaE he.ret
    simp only [AV.valL,AV.val,d0,d1,d4,dv,dp,den_add,zaf,hwk,List.map_cons,List.map_nil,List.cons.injEq,and_true] at hsl2
   ·refine ⟨⟨.lit true,.ret,[(4,.int .i64 (.lit 5))],0⟩,?_,rfl,hsz2,hdf2,(fun t ht=>by cases ht),fun s hs=> ?_,hb.trans (hb3.mono hb.size)⟩
    ·unfold zdP
     rw [zbw,if_neg (by rw [zaM,hb2,qs];simp)]
     rfl
    ·simp only [List.mem_cons,List.not_mem_nil,or_false] at hs
     subst hs
     rw [hsl2];exact zac rfl
   ·obtain ⟨p1,p9,p10,p11⟩:=hsl2
    exact ⟨k+1,by omega,by omega,hsz2,hdf2,p1,by rw [qs];simp,p9,p10,p11,hb.trans (hb3.mono hb.size)⟩
 ·have hkk:k=l.length:=by omega
  subst hkk
  rw [List.drop_length,zcc] at qs
  have d0:(lnv 0).den (zbp l.length l.length 0 0 0 ⟨0,0,false⟩ false (.pointer (some ⟨P,0,none⟩)) (.slice sa l.length c))=l.length:=zaR (by show (0:Int)≤l.length;omega) (by show ((l.length:Nat):Int)<_;omega)
  have d1:(lnv 1).den (zbp l.length l.length 0 0 0 ⟨0,0,false⟩ false (.pointer (some ⟨P,0,none⟩)) (.slice sa l.length c))=l.length:=zaR (by show (0:Int)≤l.length;omega) (by show ((l.length:Nat):Int)<_;omega)
  have dp:(zbp l.length l.length 0 0 0 ⟨0,0,false⟩ false (.pointer (some ⟨P,0,none⟩)) (.slice sa l.length c)).v 0= .pointer (some ⟨P,0,none⟩):=rfl
  have hsx:Dw.R (zbp l.length l.length 0 0 0 ⟨0,0,false⟩ false (.pointer (some ⟨P,0,none⟩)) (.slice sa l.length c)) (jOf []) (sl1 []) (.slice sa l.length c):=⟨rfl,_,_,_,rfl,d0.symm,trivial⟩
  generalize zbp l.length l.length 0 0 0 ⟨0,0,false⟩ false (.pointer (some ⟨P,0,none⟩)) (.slice sa l.length c)=ρ' at*
  refine wp_mono (zax (ρ:=ρ') (K:=fun _=>False) (g:=Gho.none) (bl:= []) mixed zzK zDG (fun b h=>h.elim) trivial trivial zaB trivial trivial trivial q0 qd ?_ (zaa.2 ⟨by rw [zaX,d0,d1];simp,zad.2 trivial⟩)) fun ex a2 w2 hh=> ?_
  ·intro t ht
   simp only [zdO,List.mem_cons,List.not_mem_nil,or_false] at ht
   rcases ht with rfl|rfl|rfl|rfl
   ·rw [q1];exact za5 dp rfl
   ·rw [q9];exact hsx
   ·rw [q10];exact zac d0
   ·rw [q11];exact zac d1
  ·obtain ⟨q,hq,hto,lf,hlf,rfl,hsz2,j2,hdf2,he⟩:=hh
   have hb3:=zam he (fun _ h=>h)
   unfold zuS at hq
   simp only [List.mem_cons,List.not_mem_nil,or_false] at hq
   subst hq
   cases hlf
   refine ⟨⟨.var 2,.exit 0,[],0⟩,?_,rfl,hsz2,hdf2,(fun t ht=>by cases ht),fun s hs=>(by cases hs),hb.trans (hb3.mono hb.size)⟩
   unfold zdP
   rw [zbw,if_pos (by rw [zaM,hb2,qs])]
theorem Tryz.zs4 {ρ:Val} {w0:World} {K:Nat→Prop} {gh:Gho} {P L Bs B N:Nat} {g:Nat→Int} (hp:ρ.v 0= .pointer (some ⟨P,0,none⟩)) (hf: ∀w F q,gh.fact 0 q F w→GM w P L Bs B N g):za3 prog ρ w0 K gh rd0E:=
 zas (Dw.enters_of (by kernel_rfl)) (by decide) [.pointer (some ⟨P,0,none⟩),.int .u64 0,.int .i64 0] (.tuple #[.slice none 0 0,.int .i64 0]) (fun j=>zab (za5 hp rfl) (zab (zac rfl) (zab (zac rfl) RL.nil))) (fun j=>zcz (zab rfl (zab (zac rfl) RL.nil))) fun w F q h=>
  Calls.mono (zql P L Bs B N 0 g w (hf w F q h)) fun e w' hh=>⟨hh.1,hh.2▸Below.refl _ _⟩
theorem Tryz.zzU {A:Nat→Prop} {w:World} {P L Bs B N:Nat} {g:Nat→Int} {sa:Option Addr} {c:Nat} {l:List Sg} (hm:GM w P L Bs B N g) (hN:N≤1048576) (h1:1≤N) (h:SegV A w (.slice sa l.length c) l) (hln:l.length<4611686018427387904)
  (hRm: ∀R o,sa=some ⟨R,o,none⟩→R≠P∧R≠L∧R≠Bs∧R≠B):
  Calls prog 163 #[.pointer (some ⟨P,0,none⟩),.slice sa l.length c] w fun e w'=>e= .returned (.int .i64 (zgx N l))∧Below w.heap.size w w':=by
 have h0:=h
 obtain ⟨sa',c',e',hok,hr⟩:=h
 obtain ⟨F0,hF0,hF1⟩:=zb7 h0
 have hG:(zli P L Bs B N g sa l).G 0 (jOf []) w:=by
  refine ⟨fun b=>F0 b∨b=P∨b=L∨b=Bs∨b=B,fun b hb=>⟨?_,?_⟩,⟨.inr (.inl rfl),.inr (.inr (.inl rfl)),.inr (.inr (.inr (.inl rfl))),.inr (.inr (.inr (.inr rfl))),hm⟩,?_⟩
  ·rcases hb with hb|rfl|rfl|rfl|rfl
   ·exact (hF0 b hb).1
   ·exact hm.pl
   ·exact hm.ll
   ·exact hm.sl
   ·exact hm.bl
  ·rintro ⟨k,L',h1,_⟩
   cases k<;>cases h1
  ·have hF1:SegF F0 w sa l:=hF1
   rcases hF1 with h|⟨R,o,e,hF,hr⟩
   ·exact .inl h
   ·exact .inr ⟨R,o,e,.inl hF,hr⟩
 have hF:=fun w F q (hf:(zli P L Bs B N g sa l).fact 0 q F w)=>SegF.v hf.2 hok c
 have hM:=fun w F q (hf:(zli P L Bs B N g sa l).fact 0 q F w)=>hf.1.2.2.2.2
 have d0:(lnv 0).den (zbp l.length 0 0 0 (zaZ l) ⟨0,0,false⟩ (zcc N l) (.pointer (some ⟨P,0,none⟩)) (.slice sa l.length c))=l.length:=zaR (by show (0:Int)≤l.length;omega) (by show ((l.length:Nat):Int)<_;omega)
 have h7:(zbp l.length 0 0 0 (zaZ l) ⟨0,0,false⟩ (zcc N l) (.pointer (some ⟨P,0,none⟩)) (.slice sa l.length c)).i 7=zaZ l:=rfl
 have hb2:(zbp l.length 0 0 0 (zaZ l) ⟨0,0,false⟩ (zcc N l) (.pointer (some ⟨P,0,none⟩)) (.slice sa l.length c)).b 2=zcc N l:=rfl
 have hv0:(zbp l.length 0 0 0 (zaZ l) ⟨0,0,false⟩ (zcc N l) (.pointer (some ⟨P,0,none⟩)) (.slice sa l.length c)).v 0= .pointer (some ⟨P,0,none⟩):=rfl
 have hv:(zbp l.length 0 0 0 (zaZ l) ⟨0,0,false⟩ (zcc N l) (.pointer (some ⟨P,0,none⟩)) (.slice sa l.length c)).v 1= .slice sa l.length c:=rfl
 unfold zgx
 generalize zbp l.length 0 0 0 (zaZ l) ⟨0,0,false⟩ (zcc N l) (.pointer (some ⟨P,0,none⟩)) (.slice sa l.length c)=ρ at*
 by_cases hE:zaZ l=0
 ·have hl:=zhp hE
  rw [if_pos hE]
  refine Calls.mono (zdA (ρ:=ρ) (K:=fun _=>False) (g:=zli P L Bs B N g sa l) (bl:= []) (vals:= [.pointer (some ⟨P,0,none⟩),.slice sa l.length c]) mixed zHX zKy (fun b h=>h.elim) trivial trivial hG ⟨zsc hv d0 h7 hF,zs4 hv0 hM,trivial⟩ ⟨zDJ hN h1 hl hok hRm hv0 hv d0 hb2,trivial⟩ trivial (zab (za5 hv0 rfl) (zab (zil hv d0) RL.nil)) (zad.2 trivial)) fun e w' hh=> ?_
  obtain ⟨p,hpm,hto,lf,hlf,j,he⟩:=hh
  have hb:=zam he (fun _ h=>h)
  unfold zGm at hpm
  simp only [List.mem_cons,List.not_mem_nil,or_false] at hpm
  rcases hpm with rfl|rfl|rfl
  all_goals
   simp only [zaa,zad,zbs,zaM,zay,zaf,h7,hb2,hE,and_true] at hto
   cases hlf
  ·exact absurd hto (by decide)
  ·rw [if_pos hto.2];exact ⟨he.ret,hb⟩
  ·rw [if_neg (by rw [hto.2];decide)];exact ⟨he.ret,hb⟩
 ·rw [if_neg hE]
  refine Calls.mono (zav (ρ:=ρ) (K:=fun _=>False) (g:=zli P L Bs B N g sa l) (bl:= []) (vals:= [.pointer (some ⟨P,0,none⟩),.slice sa l.length c]) mixed zDK zH0 (fun b h=>h.elim) trivial trivial hG ⟨zsc hv d0 h7 hF,zs4 hv0 hM,trivial⟩ (zab (za5 hv0 rfl) (zab (zil hv d0) RL.nil)) (zaa.2 ⟨by rw [zbs,zay,h7,zaf];simpa using hE,zad.2 trivial⟩)) fun e w' hh=> ?_
  obtain ⟨_,j,he⟩:=zbd hh
  exact ⟨he.ret.trans (by simp only [AV.val,zay,h7]),zam he (fun _ h=>h)⟩
end Go.Proofs
namespace Go.Dw
open Go.RowKit
structure EntW where
 e:Ent
 rows:List (Nat×List AV×List AV)
def isVar (H:Heap) (n:Nat) (row row':List AV):Bool:=
 match H.m.get n with
 | some (.cells v 0 g none false true)=>(match Nat.beq g n,Nat.beq v.n row.length,Nat.beq row'.length row.length with
  | true,true,true=>AV.beqL (v.list 0 v.n) row
  | _,_,_=>false)
 | _=>false
def zow (H:Heap):List (Nat×List AV×List AV)→Bool
 | [] => true
 | r::l=>match isVar H r.1 r.2.1 r.2.2 with|true=>zow H l|false=>false
def zdR (H:Heap):List (Nat×List AV×List AV)→Heap
 | [] => H
 | r::l=>zdR (H.upd r.1 (.cells (Vec.ofList r.2.2) 0 r.1 none false true)) l
def zdS:List (Nat×List AV×List AV)→List Nat
 | [] => []
 | r::l=>r.1::zdS l
def ziD:List (Nat×List AV×List AV)→List (Nat×List AV)
 | [] => []
 | r::l=>(r.1,r.2.1)::ziD l
def subN:List Nat→List Nat→Bool
 | [], _=>true
 | a::l,m=>match m.any (Nat.beq a) with|true=>subN l m|false=>false
def EntW.fits (e:EntW) (f:FuncId) (args:List AV) (H:Heap):Bool:=
 match e.e.fits f args H,zow H e.rows,zcl H (ziD e.rows),subN (zdS e.rows) (AV.namesL args) with
 | true,true,true,true=>zgL (zdS e.rows)
 | _,_,_,_=>false
theorem zh6: ∀ {l:List (Nat×List AV×List AV)} {r},r∈l→(r.1,r.2.1)∈ziD l
 | [], r,h=>by cases h
 | x::l,r,h=>by
  unfold ziD
  rcases List.mem_cons.1 h with rfl|h
  ·exact List.mem_cons_self ..
  ·exact List.mem_cons_of_mem _ (zh6 h)
theorem znF: ∀ {l m:List Nat},subN l m=true→ ∀a∈l,a∈m
 | [], _,_,a,h=>by cases h
 | x::l,m,hs,a,h=>by
  unfold subN at hs
  split at hs
  case h_2=>cases hs
  rename_i h1
  rcases List.mem_cons.1 h with rfl|h
  ·obtain ⟨y,h2,h3⟩:=List.any_eq_true.1 h1
   rw [zaw h3];exact h2
  ·exact znF hs a h
def ziY:List EntW→FuncId→List AV→Heap→Option (List (AV×Heap))
 | [], _,_,_=>none
 | e::l,f,args,H=>match e.fits f args H with
  | true=>some [(e.e.res,zdR (e.e.heap H) e.rows)]
  | false=>ziY l f args H
def ze1 (l:List Ent) (m:List EntW):FuncId→List AV→Heap→Option (List (AV×Heap)):=fun f args H=>
 match zau l f args H with
 | some r=>some r
 | none=>ziY m f args H
def zlt (j:J) (rows:List (Nat×List AV×List AV)) (b:Nat):Prop:= ∃r∈rows,∃L,j r.1=some L∧b=L.blk
def zLi (P:Program) (ρ:Val) (w0:World) (K:Nat→Prop) (g:Gho) (e:EntW):Prop:=
 Enters P e.e.f∧ ∀(j:J) (w:World) (vals:List Value) (F:Nat→Prop) (n:Nat),RL ρ j e.e.args vals→(∀k,n≤k→j k=none)→(e.e.nopq≠0→n=e.e.base)→(∀b,F b→b<w.heap.size)→w0.heap.size≤w.heap.size→
  (∀ r∈e.rows,∃L vs,j r.1=some L∧L.off=0∧(w0.heap.size≤L.blk∨K L.blk)∧ ¬F L.blk∧RL ρ j r.2.1 vs∧Own w L.blk vs)→
  (∀ r∈e.rows,∀r'∈e.rows,r.1≠r'.1→ ∀L L',j r.1=some L→j r'.1=some L'→L.blk≠L'.blk)→g.fact e.e.gs (opqs j) F w→
   Calls P e.e.f vals.toArray w fun en w'=> ∃u qs F',en= .returned u∧qs.length=e.e.nopq∧R ρ (jq j n qs) e.e.res u∧g.fact e.e.gs' (opqs (jq j n qs)) F' w'∧(∀b,F' b→b<w'.heap.size∧(F b∨w.heap.size≤b))∧
    (∀ r∈e.rows,∀L,j r.1=some L→ ∃vs,RL ρ (jq j n qs) r.2.2 vs∧Own w' L.blk vs)∧Mv (fun b=>(F b∧(w0.heap.size≤b∨K b))∨zlt j e.rows b) w w'
def zt0 (P:Program) (ρ:Val) (w0:World) (K:Nat→Prop) (g:Gho):List EntW→Prop
 | [] => True
 | e::l=>zLi P ρ w0 K g e∧zt0 P ρ w0 K g l
def zgi:List (Nat×List AV×List AV)→Bool
 | [] => true
 | r::l=>match AV.smallL r.2.1,AV.smallL r.2.2 with|true,true=>zgi l|_,_=>false
def zcj:List EntW→Bool
 | [] => true
 | e::l=>match AV.smallL e.e.args,e.e.res.small,zgi e.rows with|true,true,true=>zcj l|_,_,_=>false
theorem zdK: ∀ {l:List (Nat×List AV×List AV)},zgi l=true→ ∀r∈l,AV.smallL r.2.1=true∧AV.smallL r.2.2=true
 | [], _,r,h=>by cases h
 | x::l,hl,r,h=>by
  unfold zgi at hl
  split at hl
  ·rename_i h1 h2
   rcases List.mem_cons.1 h with rfl|h
   ·exact ⟨h1,h2⟩
   ·exact zdK hl r h
  ·cases hl
theorem zE4 {H:Heap} {n:Nat} {row row':List AV} (h:isVar H n row row'=true): ∃v,H.m.get n=some (.cells v 0 n none false true)∧v.n=row.length∧row'.length=row.length∧v.list 0 v.n=row:=by
 unfold isVar at h
 split at h
 case h_2=>cases h
 rename_i v g hm
 split at h
 case h_2=>cases h
 rename_i h1 h2 h3
 have h1:=zaw h1
 subst h1
 exact ⟨v,hm,zaw h2,zaw h3,AV.beqL_eq h⟩
theorem zk6 {H:Heap}: ∀ {l:List (Nat×List AV×List AV)},zow H l=true→ ∀r∈l,isVar H r.1 r.2.1 r.2.2=true
 | [], _,r,h=>by cases h
 | x::l,hl,r,h=>by
  unfold zow at hl
  split at hl
  ·rename_i h1
   rcases List.mem_cons.1 h with rfl|h
   ·exact h1
   ·exact zk6 hl r h
  ·cases hl
theorem ztb {n:Nat} {l:List Nat} (h:zgL (n::l)=true):n∉l∧zgL l=true:=by
 unfold zgL at h
 split at h
 ·cases h
 ·rename_i hh
  refine ⟨fun hm=> ?_,h⟩
  have:l.any (Nat.beq n)=true:=List.any_eq_true.2 ⟨n,hm,by simp⟩
  rw [this] at hh
  cases hh
theorem zfZ: ∀ {l:List (Nat×List AV×List AV)} {r},r∈l→r.1∈zdS l
 | [], r,h=>by cases h
 | x::l,r,h=>by
  unfold zdS
  rcases List.mem_cons.1 h with rfl|h
  ·exact List.mem_cons_self ..
  ·exact List.mem_cons_of_mem _ (zfZ h)
theorem Inv.turns {ρ:Val} {x:Cx} {j:J} {w':World}: ∀(rows:List (Nat×List AV×List AV)) {H:Heap} {wm:World},Inv ρ x j H wm→zgL (zdS rows)=true→
  (∀ r∈rows,∃v L vs,H.m.get r.1=some (.cells v 0 r.1 none false true)∧v.n=r.2.2.length∧j r.1=some L∧L.off=0∧RL ρ j r.2.2 vs∧Own w' L.blk vs)→
  (∀ r∈rows,∀r'∈rows,r.1≠r'.1→ ∀L L',j r.1=some L→j r'.1=some L'→L.blk≠L'.blk)→
  (∃ hp:Array Go.Obj,wm= { w' with heap:=hp })→wm.heap.size=w'.heap.size→(∀b,¬zlt j rows b→wm.heap[b]? =w'.heap[b]?)→
  Inv ρ x j (zdR H rows) w'
 | [], H,wm,hi,_,_,_,⟨hp,hw⟩,hsz,hout=>by
  have:hp=w'.heap:=by
   apply Array.ext_getElem?
   intro i
   have:=hout i (by rintro ⟨r,h,_⟩;cases h)
   rw [hw] at this
   exact this
  subst this
  rw [hw] at hi
  exact hi
 | r::rows,H,wm,hi,hnd,hr,hne,⟨hp,hw⟩,hsz,hout=>by
  obtain ⟨hn1,hn2⟩:=ztb hnd
  obtain ⟨v,L,vs,h1,h2,h3,h4,h5,arr,e,h6,h7⟩:=hr r (List.mem_cons_self ..)
  have hlt:L.blk<wm.heap.size:=hi.blk _ _ h3 (hi.qrow h3 h1)
  have hb:=(hi.obj _ _ h3)
  let w1:World:= { w' with heap:=wm.heap.setIfInBounds L.blk (.cells arr e (0,0)) }
  have hset:w1.heap[L.blk]? =some (.cells arr e (0,0)):=by
   show (wm.heap.setIfInBounds L.blk _)[L.blk]? =_
   rw [Array.getElem?_setIfInBounds_self_of_lt hlt]
  have hoth: ∀k,k≠L.blk→w1.heap[k]? =wm.heap[k]? :=fun k hk=>by
   show (wm.heap.setIfInBounds L.blk _)[k]? =_
   rw [Array.getElem?_setIfInBounds_ne (fun h=>hk h.symm)]
  have hlen:=RL.length h5
  have hcell: ∀i a,r.2.2[i]? =some a→ ∃x,arr[L.off+i]? =some x∧R ρ j a x:=fun i a hi'=>by
   obtain ⟨x,q1,q2⟩:=h5.get i a hi'
   exact ⟨x,by rw [h4,Nat.zero_add];exact h7 i x q1,q2⟩
  have hn:L.off+v.n≤arr.size:=by
   rcases Nat.eq_zero_or_pos v.n with h0|h0
   ·omega
   ·obtain ⟨x,q1,_⟩:=hcell (v.n-1) _ (List.getElem?_eq_getElem (by omega))
    have:=(Array.getElem?_eq_some_iff.1 q1).1
    omega
  have hi1:=hi.turned h3 h1 h2.symm hset hoth (by show (wm.heap.setIfInBounds L.blk _).size=_;simp) (by rw [hw]) (by rw [hw]) (by rw [hw]) hn hcell
  unfold zdR
  rw [Heap.upd_eq]
  refine Inv.turns rows hi1 hn2 (fun r' hr'=> ?_) (fun r1 h1' r2 h2'=>hne r1 (List.mem_cons_of_mem _ h1') r2 (List.mem_cons_of_mem _ h2')) ⟨_,rfl⟩ (by show (wm.heap.setIfInBounds L.blk _).size=_;simp [hsz]) (fun b hb=> ?_)
  ·obtain ⟨v',L',vs',g1,g2⟩:=hr r' (List.mem_cons_of_mem _ hr')
   have hne':r'.1≠r.1:=fun h=>hn1 (h▸zfZ hr')
   exact ⟨v',L',vs',by show (H.m.set r.1 _).get r'.1=_;rw [T.get_set_ne _ _ hne'];exact g1,g2⟩
  ·by_cases hbl:b=L.blk
   ·subst hbl;rw [hset,h6]
   ·rw [hoth b hbl]
    refine hout b ?_
    rintro ⟨r',hr',L',g1,g2⟩
    rcases List.mem_cons.1 hr' with rfl|hr'
    ·rw [h3] at g1;cases g1;exact hbl g2
    ·exact hb ⟨r',hr',L',g1,g2⟩
theorem zhX: ∀(rows:List (Nat×List AV×List AV)) (H:Heap),(zdR H rows).nx=H.nx∧(zdR H rows).gw=H.gw∧ ∀k,k∉zdS rows→(zdR H rows).m.get k=H.m.get k
 | [], H=>⟨rfl,rfl,fun _ _=>rfl⟩
 | r::rows,H=>by
  unfold zdR
  rw [Heap.upd_eq]
  obtain ⟨h1,h2,h3⟩:=zhX rows ⟨H.m.set r.1 (.cells (Vec.ofList r.2.2) 0 r.1 none false true),H.nx,H.gw⟩
  refine ⟨h1,h2,fun k hk=> ?_⟩
  unfold zdS at hk
  rw [h3 k (fun h=>hk (List.mem_cons_of_mem _ h))]
  exact T.get_set_ne _ _ (fun h=>hk (h▸List.mem_cons_self ..))
theorem zlB {P:Program} {ρ:Val} {w0:World} {K:Nat→Prop} {g:Gho} (m:Nat→Bool) {l:List EntW} (hs:zcj l=true) (h:zt0 P ρ w0 K g l):zgf P (ρ.mark m) (cxOf w0 K g) (ziY l):=by
  intro f args H r hr
  induction l with
  | nil=>cases hr
  | cons e l ih=>
    unfold zcj at hs
    split at hs
    case h_2=>cases hs
    rename_i s1 s2 s3
    unfold ziY at hr
    split at hr
    case h_2=>exact ih hs h.2 hr
    rename_i hf
    cases hr
    unfold EntW.fits at hf
    split at hf
    case h_2=>cases hf
    rename_i hf1 hf2 hf3 hf4
    unfold Ent.fits at hf1
    split at hf1
    · cases hf1
    rename_i hff
    have hff:=zaw hff
    subst hff
    split at hf1
    case h_2=>cases hf1
    rename_i ha hgs
    have ha:=AV.beqL_eq ha
    have hgs:=zaw hgs
    subst ha
    obtain ⟨h1,h2⟩:=h.1
    refine ⟨h1,fun k hk j w vals hi hv=> ?_⟩
    have hk:Ob.den (ρ.mark m) (k e.e.res (zdR (e.e.heap H) e.rows)):=hk
    have hG:=hi.gho
    rw [hgs] at hG
    obtain ⟨F,g1,g2⟩:=hG
    have hnone: ∀k,H.nx≤k→j k=none:=fun k hk=>by
      cases hjk:j k with
      | none=>rfl
      | some L=>have:=hi.dom k L hjk;omega
    have hbase:e.e.nopq≠0→H.nx=e.e.base:=fun hn=>by
      split at hf1
      · rename_i h0;exact absurd h0 hn
      · exact zaw hf1
    have hpl: ∀r∈e.rows,∃L,j r.1=some L:=fun r hr=>⟨_,namesL_some hv r.1 (znF hf4 _ (zfZ hr))⟩
    have hrow: ∀r∈e.rows,∃v L vs arr t,H.m.get r.1=some (.cells v 0 r.1 none false true)∧v.n=r.2.1.length∧r.2.2.length=r.2.1.length∧j r.1=some L∧L.q=none∧L.off=0∧(cxOf w0 K g).own L.blk∧w.heap[L.blk]? =some (.cells arr t (0,0))∧RL ρ j r.2.1 vs∧ ∀(i:Nat) (y:Value),vs[i]? =some y→arr[i]? =some y:=fun r hr=>by
      obtain ⟨v,q1,q2,q3,_⟩:=zE4 (zk6 hf2 r hr)
      obtain ⟨L,hL⟩:=hpl r hr
      have hq:=hi.qrow hL q1
      have h0:=hi.off0 _ _ _ _ _ _ hL q1
      obtain ⟨o,k1,k2⟩:=hi.obj _ _ hL
      rw [q1] at k1;cases k1
      have hown:=k2.2.1
      rw [if_pos rfl] at hown
      obtain ⟨vals,arr,t,fr,p1,p2,p3,_⟩:=hi.rowOut hL (zb5 hf3 (zh6 hr))
      have:=hi.fz _ _ hL hq hown _ _ _ p1
      subst this
      exact ⟨v,L,vals,arr,t,q1,q2,q3,hL,hq,h0,hown,p1,(RL_mark m (zdK s3 r hr).1).1 p2,fun i y hy=>by have:=p3 i y hy;rwa [h0,Nat.zero_add] at this⟩
    have hFr: ∀r∈e.rows,∀L,j r.1=some L→ ¬F L.blk:=fun r hr L hL hF=>by
      obtain ⟨v,L',vs,arr,t,q1,q2,q3,q4,q5,_⟩:=hrow r hr
      rw [hL] at q4;cases q4
      exact (g1 _ hF).2 ⟨r.1,L,hL,q5,rfl⟩
    have hne: ∀r∈e.rows,∀r'∈e.rows,r.1≠r'.1→ ∀L L',j r.1=some L→j r'.1=some L'→L.blk≠L'.blk:=fun r hr r' hr' hne L L' hL hL' hb=>by
      obtain ⟨v,L1,vs,arr,t,q1,q2,q3,q4,q5,_⟩:=hrow r hr
      obtain ⟨v',L2,vs',arr',t',q1',q2',q3',q4',q5',_⟩:=hrow r' hr'
      rw [hL] at q4;cases q4
      rw [hL'] at q4';cases q4'
      obtain ⟨vn,en,gn,cn,sn,on,vm,em,gm,cm,sm,om,k1,k2,k3,k4⟩:=hi.sep r.1 r'.1 L L' hne hL hL' q5 q5' hb
      rw [q1] at k1;cases k1
      rw [q1'] at k2;cases k2
      exact hne (k4 rfl).1
    refine Calls.mono (h2 j w vals F H.nx ((RL_mark m s1).1 hv) hnone hbase (fun b hF=>(g1 b hF).1) hi.fr.size (fun r hr=> ?_) hne g2) fun en w' he=> ?_
    · obtain ⟨v,L,vs,arr,t,q1,q2,q3,q4,q5,q6,q7,q8,q9,q10⟩:=hrow r hr
      exact ⟨L,vs,q4,q6,q7,hFr r hr L q4,q9,arr,t,q8,q10⟩
    · obtain ⟨u,qs,F',rfl,e2,e3,e4,e5,e6,e7⟩:=he
      classical
      let hp:Array Go.Obj:=Array.ofFn (n:=w'.heap.size) fun i=>if zlt j e.rows i.val then (w.heap[i.val]?).getD w'.heap[i] else w'.heap[i]
      let wm:World:= { w' with heap:=hp }
      have hT: ∀b,zlt j e.rows b→b<w.heap.size∧Mine j b∧(cxOf w0 K g).own b:=fun b hb=>by
        obtain ⟨r,hr,L,hL,rfl⟩:=hb
        obtain ⟨v,L',vs,arr,t,q1,q2,q3,q4,q5,q6,q7,q8,_⟩:=hrow r hr
        rw [hL] at q4;cases q4
        exact ⟨hi.blk _ _ hL q5,⟨r.1,L,hL,q5,rfl⟩,q7⟩
      have hhp: ∀b,b<w'.heap.size→wm.heap[b]? =if zlt j e.rows b then w.heap[b]? else w'.heap[b]? :=fun b hb=>by
        show hp[b]? =_
        rw [Array.getElem?_eq_getElem (by simp [hp];exact hb)]
        simp only [hp,Array.getElem_ofFn]
        by_cases ht:zlt j e.rows b
        · rw [if_pos ht,if_pos ht]
          rw [Array.getElem?_eq_getElem (hT b ht).1]
          rfl
        · rw [if_neg ht,if_neg ht,Array.getElem?_eq_getElem hb]
          rfl
      have hsz:wm.heap.size=w'.heap.size:=by show hp.size=_;simp [hp]
      have hmv:Mv (fun b=> ¬Mine j b∧(cxOf w0 K g).own b) w wm:=⟨e7.os,e7.tape,e7.output,by rw [hsz];exact e7.size,fun b hb hnb=>by
        rw [hhp b (Nat.lt_of_lt_of_le hb e7.size)]
        by_cases ht:zlt j e.rows b
        · rw [if_pos ht]
        · rw [if_neg ht]
          refine e7.block b hb ?_
          rintro (⟨hF,ho⟩|h)
          · exact hnb ⟨(g1 b hF).2,ho⟩
          · exact ht h⟩
      have hFn: ∀b,F' b→ ¬zlt j e.rows b:=fun b hF' ht=>by
        rcases (e5 b hF').2 with hF|hF
        · exact (g1 b hF).2 (hT b ht).2.1
        · have:=(hT b ht).1;omega
      have hns:(cxOf w0 K g).G e.e.gs' (jq j H.nx qs) wm:=⟨F',fun b hF'=>⟨by rw [hsz];exact (e5 b hF').1,fun hm=>by
        have hm:=znY hnone hm
        rcases (e5 b hF').2 with hF|hF
        · exact (g1 b hF).2 hm
        · obtain ⟨k,L,k1,k2,k3⟩:=hm
          have:=hi.blk k L k1 k2
          omega⟩,g.loc _ _ _ _ _ _ e4 (fun _ _ h=>h) (fun b hb=>by rw [hhp b (e5 b hb).1,if_neg (hFn b hb)]) (by omega)⟩
      obtain ⟨i1,i2⟩:=Inv.ent (e:=e.e) hi hgs e2 hns hmv
      have hjq: ∀r∈e.rows,jq j H.nx qs r.1=j r.1:=fun r hr=>by
        obtain ⟨L,hL⟩:=hpl r hr
        rw [hL];exact zGd hi qs _ _ hL
      have hTq: ∀b,zlt (jq j H.nx qs) e.rows b↔zlt j e.rows b:=fun b=>by
        constructor
        · rintro ⟨r,hr,L,hL,hb⟩;exact ⟨r,hr,L,(hjq r hr)▸hL,hb⟩
        · rintro ⟨r,hr,L,hL,hb⟩;exact ⟨r,hr,L,(hjq r hr).symm▸hL,hb⟩
      obtain ⟨z1,z2,z3,z4,z5⟩:=e.e.heap_eq H hi.nx0 hgs
      have hobj: ∀r∈e.rows,(e.e.heap H).m.get r.1=H.m.get r.1:=fun r hr=>by
        obtain ⟨L,hL⟩:=hpl r hr
        have:=hi.dom _ _ hL
        have hn0:=hi.ne0 hL
        rw [z4 r.1 (by omega),if_neg (by omega)]
      have i3:=Inv.turns e.rows (w':=w') i1 hf (fun r hr=>by
        obtain ⟨v,L,vs,arr,t,q1,q2,q3,q4,q5,q6,_⟩:=hrow r hr
        obtain ⟨vs',k1,k2⟩:=e6 r hr L q4
        exact ⟨v,L,vs',by rw [hobj r hr];exact q1,by omega,by rw [hjq r hr];exact q4,q6,(RL_mark m (zdK s3 r hr).2).2 k1,k2⟩)
        (fun r hr r' hr' hh L L' hL hL'=>hne r hr r' hr' hh L L' ((hjq r hr)▸hL) ((hjq r' hr')▸hL')) ⟨hp,rfl⟩ hsz (fun b hb=>by
          rw [hTq] at hb
          by_cases hlt:b<w'.heap.size
          · rw [hhp b hlt,if_neg hb]
          · rw [Array.getElem?_eq_none (by omega),Array.getElem?_eq_none (by omega)])
      obtain ⟨y1,y2,y3⟩:=zhX e.rows (e.e.heap H)
      refine ⟨u,rfl,e.e.res,_,_,(R_mark m s2).2 e3,i3,⟨i2.sub,i2.fresh,fun n hp hn hlt=> ?_,by rw [y1];exact i2.nx⟩,hk⟩
      have hnr:n∉zdS e.rows:=fun hm=>by
        have:=namesL_some hv n (znF hf4 _ hm)
        rw [hn] at this;cases this
      rw [y3 n hnr,y2]
      exact i2.keep n hp hn hlt
theorem zm8 {P:Program} {ρ:Val} {x:Cx} {l:List Ent} {m:List EntW} (h1:zgf P ρ x (zau l)) (h2:zgf P ρ x (ziY m)):zgf P ρ x (ze1 l m):=by
 intro f args H r hr
 unfold ze1 at hr
 split at hr
 ·rename_i r' h;cases hr;exact h1 f args H _ h
 ·exact h2 f args H r hr
theorem zxP {P:Program} {ρ:Val} {w:World} {K:Nat→Prop} {g:Gho} {bl:List (Nat×Nat)} {shs:List Sh} {gs:Nat} {ents:List Ent} {wents:List EntW} {lents:List LEnt} {aents:List AEnt} {n:Nat} {f:FuncId} {args:List AV} {vals:List Value} {ls:List Leaf} {asm:List (SB×Bool)} {ps:List (List (SB×Bool)×Nat)}
  (hmo:P.follows .mixedOrders=true)
  (h:(evL P (ze1 ents wents) (zaC lents) (zaA aents) n (.call f args (zar gs shs) (zaK ls 0))).ways asm=some ps)
  (hs:(zah shs&&zae ents&&zcj wents&&zan lents&&zao aents&&AV.smallL args&&zaj ls)=true)
  (hK: ∀b,K b→b<w.heap.size) (ho:ShsOk ρ (jOf bl) (cxOf w K g) bl shs) (hap:apart bl shs) (hG:g.G gs (jOf bl) w) (he:zkR P ρ w K g ents) (hw:zt0 P ρ w K g wents) (hl:zmK P ρ w K g lents) (haa:zny P ρ w K g aents) (ha:RL ρ (jOf bl) args vals) (ht:Told ρ asm):
  Calls P f vals.toArray w fun e w'=> ∃p∈ps,Told ρ p.1∧ ∃l,ls[p.2]? =some l∧ ∃j,zhl ρ w K g bl l e w' j:=by
 simp only [Bool.and_eq_true] at hs
 obtain ⟨⟨⟨⟨⟨⟨s1,s2⟩,sw⟩,s5⟩,s9⟩,s3⟩,s4⟩:=hs
 unfold Ob.ways at h
 cases hps:(evL P (ze1 ents wents) (zaC lents) (zaA aents) n (.call f args (zar gs shs) (zaK ls 0))).paths asm with
 | none=>rw [hps] at h;cases h
 | some ps0=>
 rw [hps] at h
 cases h
 have h:=hps
 refine Calls.mono (zqH (x:=cxOf w K g) hmo (fun m=>zm8 (ze0 (zco m s2 he)) (zlB m sw hw)) (fun m=>zfw m s5 hl) (fun m=>zfK m s9 haa) (fun m=>zeR hK (zcQ m s1 ho) hap hG) (fun m=>(RL_mark m s3).2 ha) ht h) fun e w' hh=> ?_
 obtain ⟨p,hp,hto,l,hl,m,u,v,j',H',rfl,h1,h2,h3,h4⟩:=hh
 obtain ⟨x1,x2,x3,x4⟩:=zbJ s4 hl
 exact ⟨(p.1.drop asm.length,p.2),zcp hp,fun c hc=>hto c (List.mem_of_mem_drop hc),l,hl,j',zg8 x1 x2 x3 x4 h1 h2 h3 h4⟩
theorem zxQ {P:Program} {ρ:Val} {w:World} {K:Nat→Prop} {g:Gho} {bl:List (Nat×Nat)} {shs:List Sh} {gs:Nat} {ents:List Ent} {wents:List EntW} {lents:List LEnt} {aents:List AEnt} {n:Nat} {p:List Nat} {N:Nat} {slots:List (Nat×AV)} {dfr:Option AV} {ls:List zbe} {asm:List (SB×Bool)} {ps:List (List (SB×Bool)×Nat)}
  (hmo:P.follows .mixedOrders=true)
  (h:(evL P (ze1 ents wents) (zaC lents) (zaA aents) n (.code (zaI P p) p N (envS N slots dfr) (zar gs shs) (zaG ls 0))).ways asm=some ps)
  (hs:(zah shs&&zae ents&&zcj wents&&zan lents&&zao aents&&zaq slots&&zal ls&&zaF N slots&&Nat.ble N zaN&&zaz dfr)=true)
  (hK: ∀b,K b→b<w.heap.size) (ho:ShsOk ρ (jOf bl) (cxOf w K g) bl shs) (hap:apart bl shs) (hG:g.G gs (jOf bl) w) (he:zkR P ρ w K g ents) (hw:zt0 P ρ w K g wents) (hl:zmK P ρ w K g lents) (haa:zny P ρ w K g aents)
  {a:Act} (hN:a.tmps.size=N) (hd:DRo ρ (jOf bl) dfr a.defers) (ha: ∀s∈slots,R ρ (jOf bl) s.2 (a.tmps.getD s.1 undef)) (ht:Told ρ asm):
  (zaI P p).wp P (fun ex a' w'=> ∃q∈ps,Told ρ q.1∧ ∃l,ls[q.2]? =some l∧ex=exOf l.ex∧a'.tmps.size=N∧ ∃j,DRo ρ j l.dfr a'.defers∧zhl ρ w K g bl l.leaf (.returned (.tuple (l.slots.map fun t=>a'.tmps.getD t undef).toArray)) w' j) a w:=by
 simp only [Bool.and_eq_true] at hs
 obtain ⟨⟨⟨⟨⟨⟨⟨⟨⟨s1,s2⟩,sw⟩,s5⟩,s9⟩,s3⟩,s4⟩,s6⟩,s7⟩,s8⟩:=hs
 have s7:=Nat.le_of_ble_eq_true s7
 unfold Ob.ways at h
 cases hps:(evL P (ze1 ents wents) (zaC lents) (zaA aents) n (.code (zaI P p) p N (envS N slots dfr) (zar gs shs) (zaG ls 0))).paths asm with
 | none=>rw [hps] at h;cases h
 | some ps0=>
 rw [hps] at h
 cases h
 have h:=hps
 classical
 let m:Nat→Bool:=fun k=>decide (∃p∈ps0,1000000+p.2=k∧Told ρ p.1)
 have hm: ∀p∈ps0,Told ρ p.1→m (1000000+p.2)=true:=fun p hp ht=>by
  show decide _=true
  exact decide_eq_true ⟨p,hp,rfl,ht⟩
 have hdn:=paths_den hm h (fun q hq=>hq) ht
 have hg:=zg5 (w0:=cxOf w K g) (zm8 (ze0 (zco m s2 he)) (zlB m sw hw)) (zfw m s5 hl) (zfK m s9 haa) (fun n rec hg=>zj9 hmo hg) n
 refine wp_mono (hg.code _ _ _ _ _ _ rfl hdn (jOf bl) a w (zeR hK (zcQ m s1 ho) hap hG) (zCl hN ((ziT m s8).2 hd) s7 s6 fun s hs=>(R_mark m (zbY s3 s hs)).2 (ha s hs))) fun ex a' w' hh=> ?_
 obtain ⟨x,env',H',j',rfl,h1,h2,h3,h4⟩:=hh
 obtain ⟨k,l,h5,h6,h7,h8,h9,h10⟩:=zge h4
 have h10:(if 1000000+(0+k)<1000000 then ρ.b (1000000+(0+k)) else m (1000000+(0+k)))=true:=h10
 rw [if_neg (by omega)] at h10
 obtain ⟨q,hq,hk,hto⟩:=of_decide_eq_true h10
 have:q.2=k:=by omega
 subst this
 obtain ⟨y1,y2⟩:=zc4 s4 h5
 obtain ⟨x1,x2,x3,x4⟩:=zbJ (i:=0) y1 rfl
 refine ⟨(q.1.drop asm.length,q.2),zcp hq,fun c hc=>hto c (List.mem_of_mem_drop hc),l,h5,by rw [h6],h1.size,j',(ziT m y2).1 ?_,zg8 x1 x2 x3 x4 (zcz (ztC h1 h8)) h2 h3 h9⟩
 have hdf:=h1.dfr
 unfold zr4 at h7
 unfold zaU at hdf
 split at h7
 ·rename_i e1 e2
  rw [e1] at hdf
  rw [e2]
  exact hdf.none rfl
 ·rename_i v u e1 e2
  rw [e1] at hdf
  rw [e2,←AV.beq_eq h7]
  exact hdf
 ·cases h7
end Go.Dw
namespace Go.Proofs
open Go.Dw Go.RowKit
def Tryz.zm4:List AV:= [.ptr 1 0,.ptr 2 0,.ptr 3 0,.ptr 4 0,.ptr 5 0,.ptr 6 0]
def Tryz.fwFn:AV:= .func 159 [] zm4
def Tryz.zrE (kn:List (AV×Option AV)):List Sh:=
 [.own [.int .i64 (.var 3)],.own [.cst 0 none],.own [.int .i64 (lnv 4)],.own [.bool (.var 1)],.own [fwFn],.own [.cst 1 none],.mapx kn]
def Tryz.zef:List (Nat×AV):= [(0,.int .u64 (u64v 0)),(1,.int .i64 (szv 1)),(2,.int .i64 (u16v 2)),(3,.bool (.var 0)),(4,.ptr 1 0),(5,.ptr 2 0),(6,.ptr 3 0),(7,.ptr 4 0),(8,.ptr 5 0),(9,.ptr 6 0),(14,.map 7)]
def Tryz.zLu:AV:= .agg [.int .u64 (u64v 10),.int .u32 (u32v 11),.int .u16 (u16v 12),.int .u16 (u16v 13)]
def Tryz.zjW:Ent:=⟨71,[.cst 0 none,.int .u64 (.bin .add .u64 (u64v 0) (.bin .mul .u64 (.lit 16) (u16v 2))),.int .i64 (.lit 16)],0,8,1,.tup [.opq 8 none,.int .i64 (.var 16)],1⟩
def Tryz.zCt:Ent:=⟨160,[.opq 8 none],1,0,0,.tup [zLu,.int .i64 (.lit 0)],1⟩
def Tryz.zol:Ent:=⟨161,[.cst 0 none,.int .u64 (u64v 10),.int .u32 (u32v 11)],1,0,0,.tup [.int .i64 (.var 14),.int .i64 (.var 15)],1⟩
def Tryz.zAl:Ent:=⟨71,[.cst 0 none,.int .u64 (.bin .add .u64 (u64v 0) (.bin .mul .u64 (.lit 16) (u16v 2))),.int .i64 (.lit 16)],0,0,0,.tup [.nils,.int .i64 (.var 16)],0⟩
def Tryz.fwT1 (b:Bool):SB×Bool:=(.cmp .geq (u16v 2) (szv 1),b)
def Tryz.fwT2 (b:Bool):SB×Bool:=(.cmp .neq (.var 16) (.lit 0),b)
def Tryz.fwT3 (b:Bool):SB×Bool:=(.cmp .neq (.flds [⟨12,0,65535,2,1,2⟩] 0) (.lit 0),b)
def Tryz.fwT4 (b:Bool):SB×Bool:=(.cmp .eql (.var 15) (.lit 0),b)
def Tryz.zLn:List AV:= [.int .u64 (u64v 10),.int .u32 (u32v 11),.bool (.cmp .neq (.flds [⟨12,0,65535,1,1,1⟩] 0) (.lit 0))]
def Tryz.segA:AEnt:=⟨36,.cst 1 none,1,zLn,1,12,1,.opq 12 none,2⟩
def Tryz.innerW:EntW:=⟨⟨159,[.int .u64 (u64v 10),.int .i64 (.var 14),.int .i64 (.lit 0),.bool (.lit true)]++zm4,1,10,1,.tup [],3⟩,
 [(1,[.int .i64 (.var 15)],[.int .i64 (.var 20)]),(2,[.cst 0 none],[.cst 0 none]),(3,[.int .i64 (.bin .add .i64 (lnv 4) (.lit 1))],[.int .i64 (.var 21)]),(4,[.bool (.var 1)],[.bool (.var 1)]),(5,[fwFn],[fwFn]),(6,[.cst 1 none],[.opq 10 none])]⟩
end Go.Proofs
namespace Go.Proofs
open Go.Dw
def Tryz.zkE:List Ent:= []
def Tryz.zmZ:List Sh:=zrE [(.int .i64 (u16v 2),some (.bool (.lit true)))]
def Tryz.zeW:List (Nat×AV):=zef
def Tryz.zic:List LEnt:= []
def Tryz.zid:List AEnt:= []
def Tryz.zm0:Option AV:=none
def Tryz.zye:List (SB×Bool):= []
def Tryz.zrI:List zbe:= [
 ⟨.ret,[],none,⟨.tup [],[(1,[.int .i64 (.lit 4)]),(2,[.cst 0 none]),(3,[.int .i64 (lnv 4)]),(4,[.bool (.var 1)]),(5,[.func 159 [] [.ptr 1 0,.ptr 2 0,.ptr 3 0,.ptr 4 0,.ptr 5 0,.ptr 6 0]]),(6,[.cst 1 none])],[],0,[1,2,3,4,5,6]⟩⟩]
def Tryz.zrH:List (List (SB×Bool)×Nat):= [
 ([], 0)]
theorem Tryz.zyd:(evL prog (zau zkE) (zaC zic) (zaA zid) 100000 (.code (zaI prog [0,0,1,159]) [0,0,1,159] 104 (envS 104 zeW zm0) (zar 0 zmZ) (zaG zrI 0))).ways zye=some zrH:=by kernel_rfl
theorem Tryz.zB2:(zah zmZ&&zae zkE&&zan zic&&zao zid&&zaq zeW&&zal zrI&&zaF 104 zeW&&Nat.ble 104 zaN&&zaz zm0)=true:=by kernel_rfl
def Tryz.zm1:List Ent:= []
def Tryz.zrJ:List Sh:=zrE [(.int .i64 (u16v 2),none)]
def Tryz.zf9:List (Nat×AV):=zef
def Tryz.zkF:List LEnt:= []
def Tryz.zkG:List AEnt:= []
def Tryz.zrK:Option AV:=none
def Tryz.zB4:List (SB×Bool):= [fwT1 true]
def Tryz.zwe:List zbe:= [
 ⟨.ret,[],none,⟨.tup [],[(1,[.int .i64 (.lit 4)]),(2,[.cst 0 none]),(3,[.int .i64 (lnv 4)]),(4,[.bool (.var 1)]),(5,[.func 159 [] [.ptr 1 0,.ptr 2 0,.ptr 3 0,.ptr 4 0,.ptr 5 0,.ptr 6 0]]),(6,[.cst 1 none])],[],0,[1,2,3,4,5,6]⟩⟩]
def Tryz.zwd:List (List (SB×Bool)×Nat):= [
 ([], 0)]
theorem Tryz.zB3:(evL prog (zau zm1) (zaC zkF) (zaA zkG) 100000 (.code (zaI prog [0,0,1,159]) [0,0,1,159] 104 (envS 104 zf9 zrK) (zar 0 zrJ) (zaG zwe 0))).ways zB4=some zwd:=by kernel_rfl
theorem Tryz.zFg:(zah zrJ&&zae zm1&&zan zkF&&zao zkG&&zaq zf9&&zal zwe&&zaF 104 zf9&&Nat.ble 104 zaN&&zaz zrK)=true:=by kernel_rfl
def Tryz.zm3:List Ent:= [zAl]
def Tryz.zrN:List Sh:=zrE [(.int .i64 (u16v 2),none)]
def Tryz.zgb:List (Nat×AV):=zef
def Tryz.zkJ:List LEnt:= []
def Tryz.zkK:List AEnt:= []
def Tryz.zrO:Option AV:=none
def Tryz.zB8:List (SB×Bool):= [fwT1 false,fwT2 true]
def Tryz.zwi:List zbe:= [
 ⟨.ret,[],none,⟨.tup [],[(1,[.int .i64 (.lit 5)]),(2,[.cst 0 none]),(3,[.int .i64 (lnv 4)]),(4,[.bool (.var 1)]),(5,[.func 159 [] [.ptr 1 0,.ptr 2 0,.ptr 3 0,.ptr 4 0,.ptr 5 0,.ptr 6 0]]),(6,[.cst 1 none])],[],0,[1,2,3,4,5,6]⟩⟩]
def Tryz.zwh:List (List (SB×Bool)×Nat):= [
 ([], 0)]
theorem Tryz.zB7:(evL prog (zau zm3) (zaC zkJ) (zaA zkK) 100000 (.code (zaI prog [0,0,1,159]) [0,0,1,159] 104 (envS 104 zgb zrO) (zar 0 zrN) (zaG zwi 0))).ways zB8=some zwh:=by kernel_rfl
theorem Tryz.zFi:(zah zrN&&zae zm3&&zan zkJ&&zao zkK&&zaq zgb&&zal zwi&&zaF 104 zgb&&Nat.ble 104 zaN&&zaz zrO)=true:=by kernel_rfl
def Tryz.zm2:List Ent:= [zjW,zCt]
def Tryz.zrL:List Sh:=zrE [(.int .i64 (u16v 2),none)]
def Tryz.zga:List (Nat×AV):=zef
def Tryz.zkH:List LEnt:= []
def Tryz.zkI:List AEnt:= []
def Tryz.zrM:Option AV:=none
def Tryz.zB6:List (SB×Bool):= [fwT1 false,fwT2 false,fwT3 true,(.var 0,true)]
def Tryz.zwg:List zbe:= [
 ⟨.ret,[],none,⟨.tup [],[(1,[.int .i64 (.lit 4)]),(2,[.cst 0 none]),(3,[.int .i64 (.bin .add .i64 (lnv 4) (.lit 1))]),(4,[.bool (.var 1)]),(5,[.func 159 [] [.ptr 1 0,.ptr 2 0,.ptr 3 0,.ptr 4 0,.ptr 5 0,.ptr 6 0]]),(6,[.cst 1 none])],[],1,[1,2,3,4,5,6]⟩⟩]
def Tryz.zwf:List (List (SB×Bool)×Nat):= [
 ([], 0)]
theorem Tryz.zB5:(evL prog (zau zm2) (zaC zkH) (zaA zkI) 100000 (.code (zaI prog [0,0,1,159]) [0,0,1,159] 104 (envS 104 zga zrM) (zar 0 zrL) (zaG zwg 0))).ways zB6=some zwf:=by kernel_rfl
theorem Tryz.zFh:(zah zrL&&zae zm2&&zan zkH&&zao zkI&&zaq zga&&zal zwg&&zaF 104 zga&&Nat.ble 104 zaN&&zaz zrM)=true:=by kernel_rfl
def Tryz.zmV:List Ent:= [zjW,zCt,zol]
def Tryz.zky:List EntW:= [innerW]
def Tryz.zrA:List Sh:=zrE [(.int .i64 (u16v 2),none)]
def Tryz.zf7:List (Nat×AV):=zef
def Tryz.zkz:List LEnt:= []
def Tryz.zkA:List AEnt:= []
def Tryz.zrB:Option AV:=none
def Tryz.zBY:List (SB×Bool):= [fwT1 false,fwT2 false,fwT3 true,(.var 0,false),fwT4 true]
def Tryz.zwa:List zbe:= [
 ⟨.ret,[],none,⟨.tup [],[(1,[.int .i64 (.lit 4)]),(2,[.cst 0 none]),(3,[.int .i64 (.bin .add .i64 (lnv 4) (.lit 1))]),(4,[.bool (.var 1)]),(5,[.func 159 [] [.ptr 1 0,.ptr 2 0,.ptr 3 0,.ptr 4 0,.ptr 5 0,.ptr 6 0]]),(6,[.cst 1 none])],[],1,[1,2,3,4,5,6]⟩⟩,
 ⟨.ret,[],none,⟨.tup [],[(1,[.int .i64 (.var 20)]),(2,[.cst 0 none]),(3,[.int .i64 (.var 21)]),(4,[.bool (.var 1)]),(5,[.func 159 [] [.ptr 1 0,.ptr 2 0,.ptr 3 0,.ptr 4 0,.ptr 5 0,.ptr 6 0]]),(6,[.opq 10 none])],[],3,[1,2,3,4,5,6]⟩⟩]
def Tryz.zv9:List (List (SB×Bool)×Nat):= [
 ([(.var 1,false)],0),
 ([(.var 1,true),((.cmp .neq (.flds [⟨12,0,65535,0,1,0⟩] 0) (.lit 0)),true)],0),
 ([(.var 1,true),((.cmp .neq (.flds [⟨12,0,65535,0,1,0⟩] 0) (.lit 0)),false)],1)]
theorem Tryz.zBX:(evL prog (ze1 zmV zky) (zaC zkz) (zaA zkA) 100000 (.code (zaI prog [0,0,1,159]) [0,0,1,159] 104 (envS 104 zf7 zrB) (zar 0 zrA) (zaG zwa 0))).ways zBY=some zv9:=by kernel_rfl
theorem Tryz.zFe:(zah zrA&&zae zmV&&zcj zky&&zan zkz&&zao zkA&&zaq zf7&&zal zwa&&zaF 104 zf7&&Nat.ble 104 zaN&&zaz zrB)=true:=by kernel_rfl
def Tryz.zkB:List Ent:= [zjW,zCt,zol]
def Tryz.zmW:List Sh:=zrE [(.int .i64 (u16v 2),none)]
def Tryz.zeV:List (Nat×AV):=zef
def Tryz.zia:List LEnt:= []
def Tryz.zib:List AEnt:= []
def Tryz.zmX:Option AV:=none
def Tryz.zyc:List (SB×Bool):= [fwT1 false,fwT2 false,fwT3 true,(.var 0,false),fwT4 false]
def Tryz.zrD:List zbe:= [
 ⟨.ret,[],none,⟨.tup [],[(1,[.int .i64 (.lit 4)]),(2,[.cst 0 none]),(3,[.int .i64 (.bin .add .i64 (lnv 4) (.lit 1))]),(4,[.bool (.var 1)]),(5,[.func 159 [] [.ptr 1 0,.ptr 2 0,.ptr 3 0,.ptr 4 0,.ptr 5 0,.ptr 6 0]]),(6,[.cst 1 none])],[],1,[1,2,3,4,5,6]⟩⟩,
 ⟨.ret,[],none,⟨.tup [],[(1,[.int .i64 (.var 15)]),(2,[.cst 0 none]),(3,[.int .i64 (.bin .add .i64 (lnv 4) (.lit 1))]),(4,[.bool (.var 1)]),(5,[.func 159 [] [.ptr 1 0,.ptr 2 0,.ptr 3 0,.ptr 4 0,.ptr 5 0,.ptr 6 0]]),(6,[.cst 1 none])],[],1,[1,2,3,4,5,6]⟩⟩]
def Tryz.zrC:List (List (SB×Bool)×Nat):= [
 ([(.var 1,false)],0),
 ([(.var 1,true),((.cmp .neq (.flds [⟨12,0,65535,0,1,0⟩] 0) (.lit 0)),true)],0),
 ([(.var 1,true),((.cmp .neq (.flds [⟨12,0,65535,0,1,0⟩] 0) (.lit 0)),false)],1)]
theorem Tryz.zyb:(evL prog (zau zkB) (zaC zia) (zaA zib) 100000 (.code (zaI prog [0,0,1,159]) [0,0,1,159] 104 (envS 104 zeV zmX) (zar 0 zmW) (zaG zrD 0))).ways zyc=some zrC:=by kernel_rfl
theorem Tryz.zBZ:(zah zmW&&zae zkB&&zan zia&&zao zib&&zaq zeV&&zal zrD&&zaF 104 zeV&&Nat.ble 104 zaN&&zaz zmX)=true:=by kernel_rfl
def Tryz.zmY:List Ent:= [zjW,zCt]
def Tryz.zrF:List Sh:=zrE [(.int .i64 (u16v 2),none)]
def Tryz.zf8:List (Nat×AV):=zef
def Tryz.zkC:List LEnt:= []
def Tryz.zkD:List AEnt:= [segA]
def Tryz.zrG:Option AV:=none
def Tryz.zB1:List (SB×Bool):= [fwT1 false,fwT2 false,fwT3 false]
def Tryz.zwc:List zbe:= [
 ⟨.ret,[],none,⟨.tup [],[(1,[.int .i64 (.var 3)]),(2,[.cst 0 none]),(3,[.int .i64 (.bin .add .i64 (lnv 4) (.lit 1))]),(4,[.bool (.var 1)]),(5,[.func 159 [] [.ptr 1 0,.ptr 2 0,.ptr 3 0,.ptr 4 0,.ptr 5 0,.ptr 6 0]]),(6,[.opq 12 none])],[(7,[(.int .i64 (u16v 2),some (.bool (.lit true)))])],2,[1,2,3,4,5,6]⟩⟩,
 ⟨.normal,[0,1,2,3,4,5,6,7,8,9,14],none,⟨.tup [.int .u64 (u64v 0),.int .i64 (szv 1),.int .i64 (u16v 13),.bool (.var 0),.ptr 1 0,.ptr 2 0,.ptr 3 0,.ptr 4 0,.ptr 5 0,.ptr 6 0,.map 7],[(1,[.int .i64 (.var 3)]),(2,[.cst 0 none]),(3,[.int .i64 (.bin .add .i64 (lnv 4) (.lit 1))]),(4,[.bool (.var 1)]),(5,[.func 159 [] [.ptr 1 0,.ptr 2 0,.ptr 3 0,.ptr 4 0,.ptr 5 0,.ptr 6 0]]),(6,[.opq 12 none])],[(7,[(.int .i64 (u16v 2),some (.bool (.lit true)))])],2,[1,2,3,4,5,6]⟩⟩]
def Tryz.zwb:List (List (SB×Bool)×Nat):= [
 ([((.cmp .eql (.flds [⟨12,0,65535,0,1,0⟩] 0) (.lit 0)),true)],0),
 ([((.cmp .eql (.flds [⟨12,0,65535,0,1,0⟩] 0) (.lit 0)),false)],1)]
theorem Tryz.zB0:(evL prog (zau zmY) (zaC zkC) (zaA zkD) 100000 (.code (zaI prog [0,0,1,159]) [0,0,1,159] 104 (envS 104 zf8 zrG) (zar 0 zrF) (zaG zwc 0))).ways zB1=some zwb:=by kernel_rfl
theorem Tryz.zFf:(zah zrF&&zae zmY&&zan zkC&&zao zkD&&zaq zf8&&zal zwc&&zaF 104 zf8&&Nat.ble 104 zaN&&zaz zrG)=true:=by kernel_rfl
open Go.RowKit
def Tryz.zk0 (n:Nat):Nat→List AV
 | 0=> []
 | k+1=> .int .u8 (u8v n)::zk0 (n+1) k
def Tryz.sl16:AV:= .sx 0 (.lit 16) 1 [(.lit 0,1)]
def Tryz.zK2:Ent:=⟨167,[.cst 0 none,.int .u64 (u64v 10),.int .u64 (u32v 11)],0,0,0,.bool (.var 2),0⟩
def Tryz.zLq:Ent:=⟨72,[rg],0,0,0,.int .i64 (.lit 0),0⟩
def Tryz.inE:Ent:=⟨163,[.cst 0 none,sl1 []],0,0,0,.int .i64 (.var 8),0⟩
def Tryz.refE:Ent:=⟨147,[.cst 0 none,rg,.bool (.lit false)],0,0,0,.int .i64 (.lit 0),0⟩
def Tryz.zKw:Ent:=⟨148,[.cst 0 none,rg,.int .i64 (u16v 7),.bool (.var 1)],0,2,1,.tup [.opq 2 none,.int .i64 (.var 21),.int .i64 (.var 20)],1⟩
def Tryz.zLs:Ent:=⟨149,[.cst 0 none,.opq 2 none],1,3,1,.tup [.opq 3 none,.int .i64 (.var 22)],2⟩
def Tryz.zuP:List AV:= [.ptr 6 0,.ptr 1 0,.ptr 5 0,.ptr 3 0,.ptr 7 0,.ptr 4 0]
def Tryz.spFn:AV:= .func 159 [] zuP
def Tryz.outerW:EntW:=⟨⟨159,[.int .u64 (u64v 1),.int .i64 (szv 0),.int .i64 (u16v 7),.bool (.lit false)]++zuP,0,8,1,.tup [],1⟩,
 [(6,[.int .i64 (.lit 0)],[.int .i64 (.var 20)]),(1,[.cst 0 none],[.cst 0 none]),(5,[.int .i64 (.lit 0)],[.int .i64 (.var 21)]),(3,[.bool (.var 1)],[.bool (.var 1)]),(7,[spFn],[spFn]),(4,[.nils],[.opq 8 none])]⟩
end Go.Proofs
namespace Go.Proofs
open Go.Dw
def Tryz.zng:List Ent:= []
def Tryz.zr3:List Sh:= [.ro (zk0 20 16)]
def Tryz.znh:List AV:= [sl16]
def Tryz.zCs:List (SB×Bool):= []
def Tryz.zww:List Leaf:= [
 ⟨.tup [.agg [.int .u64 (.flds [⟨20,0,255,0,8,0⟩,⟨21,0,255,0,8,8⟩,⟨22,0,255,0,8,16⟩,⟨23,0,255,0,8,24⟩,⟨24,0,255,0,8,32⟩,⟨25,0,255,0,8,40⟩,⟨26,0,255,0,8,48⟩,⟨27,0,255,0,8,56⟩] 0),.int .u32 (.flds [⟨28,0,255,0,8,0⟩,⟨29,0,255,0,8,8⟩,⟨30,0,255,0,8,16⟩,⟨31,0,255,0,8,24⟩] 0),.int .u16 (.flds [⟨32,0,255,0,8,0⟩,⟨33,0,255,0,8,8⟩] 0),.int .u16 (.flds [⟨34,0,255,0,8,0⟩,⟨35,0,255,0,8,8⟩] 0)],.int .i64 (.lit 0)],[],[],0,[]⟩]
def Tryz.zFr:List (List (SB×Bool)×Nat):= [
 ([], 0)]
theorem Tryz.zCr:(ev prog (zau zng) 100000 (.call 160 znh (zar 0 zr3) (zaK zww 0))).ways zCs=some zFr:=by kernel_rfl
theorem Tryz.zFs:(zah zr3&&zae zng&&AV.smallL znh&&zaj zww)=true:=by kernel_rfl
def Tryz.zlz:List Ent:= [zK2]
def Tryz.zoH:List Sh:= []
def Tryz.zlA:List AV:= [.cst 0 none,.int .u64 (u64v 10),.int .u32 (u32v 11)]
def Tryz.zyN:List (SB×Bool):= []
def Tryz.zul:List Leaf:= [
 ⟨.tup [.int .i64 (.lit 0),.int .i64 (.lit 4)],[],[],0,[]⟩,
 ⟨.tup [.int .i64 (.lit 0),.int .i64 (.lit 5)],[],[],0,[]⟩,
 ⟨.tup [.int .i64 (.flds [⟨11,0,4294967295,4,28,0⟩] 0),.int .i64 (.lit 0)],[],[],0,[]⟩]
def Tryz.zuk:List (List (SB×Bool)×Nat):= [
 ([((.cmp .eql (u32v 11) (.lit 0)),true)],0),
 ([((.cmp .eql (u32v 11) (.lit 0)),false),((.cmp .neq (.flds [⟨11,0,4294967295,0,4,0⟩] 0) (.lit 0)),true)],0),
 ([((.cmp .eql (u32v 11) (.lit 0)),false),((.cmp .neq (.flds [⟨11,0,4294967295,0,4,0⟩] 0) (.lit 0)),false),((.cmp .gtr (.flds [⟨11,0,4294967295,4,28,0⟩] 0) (.lit 64)),true)],0),
 ([((.cmp .eql (u32v 11) (.lit 0)),false),((.cmp .neq (.flds [⟨11,0,4294967295,0,4,0⟩] 0) (.lit 0)),false),((.cmp .gtr (.flds [⟨11,0,4294967295,4,28,0⟩] 0) (.lit 64)),false),(.var 2,false)],1),
 ([((.cmp .eql (u32v 11) (.lit 0)),false),((.cmp .neq (.flds [⟨11,0,4294967295,0,4,0⟩] 0) (.lit 0)),false),((.cmp .gtr (.flds [⟨11,0,4294967295,4,28,0⟩] 0) (.lit 64)),false),(.var 2,true)],2)]
theorem Tryz.zyM:(ev prog (zau zlz) 100000 (.call 161 zlA (zar 0 zoH) (zaK zul 0))).ways zyN=some zuk:=by kernel_rfl
theorem Tryz.zDh:(zah zoH&&zae zlz&&AV.smallL zlA&&zaj zul)=true:=by kernel_rfl
def Tryz.zoC:List Ent:= [rd0E,zLq]
def Tryz.zt1:List Sh:= []
def Tryz.zoD:List AV:= [.cst 0 none,rg,.bool (.lit false)]
def Tryz.zDd:List (SB×Bool):= []
def Tryz.zyx:List Leaf:= [
 ⟨.int .i64 (.lit 0),[],[],0,[]⟩]
def Tryz.zG6:List (List (SB×Bool)×Nat):= [
 ([], 0)]
theorem Tryz.zDc:(ev prog (zau zoC) 100000 (.call 147 zoD (zar 0 zt1) (zaK zyx 0))).ways zDd=some zG6:=by kernel_rfl
theorem Tryz.zG7:(zah zt1&&zae zoC&&AV.smallL zoD&&zaj zyx)=true:=by kernel_rfl
def Tryz.zlx:List Ent:= [ckE,inE]
def Tryz.zoF:List Sh:= []
def Tryz.zly:List AV:= [.cst 0 none,sl1 []]
def Tryz.zyB:List (SB×Bool):= []
def Tryz.zt3:List Leaf:= [
 ⟨.tup [.nils,.int .i64 (.lit 4)],[],[],0,[]⟩,
 ⟨.tup [.nils,.int .i64 (.var 8)],[],[],0,[]⟩,
 ⟨.tup [.sx 1 ((lnv 0)) 3 [],.int .i64 (.lit 0)],[],[],0,[]⟩]
def Tryz.zt2:List (List (SB×Bool)×Nat):= [
 ([((.cmp .eql (lnv 0) (.lit 0)),true)],0),
 ([((.cmp .eql (lnv 0) (.lit 0)),false),((.cmp .neq (.var 7) (.lit 0)),true)],0),
 ([((.cmp .eql (lnv 0) (.lit 0)),false),((.cmp .neq (.var 7) (.lit 0)),false),((.cmp .neq (.var 8) (.lit 0)),true)],1),
 ([((.cmp .eql (lnv 0) (.lit 0)),false),((.cmp .neq (.var 7) (.lit 0)),false),((.cmp .neq (.var 8) (.lit 0)),false)],2)]
theorem Tryz.zyA:(ev prog (zau zlx) 100000 (.call 149 zly (zar 0 zoF) (zaK zt3 0))).ways zyB=some zt2:=by kernel_rfl
theorem Tryz.zDf:(zah zoF&&zae zlx&&AV.smallL zly&&zaj zt3)=true:=by kernel_rfl
def Tryz.ziV:List Ent:= []
def Tryz.zhN:List EntW:= [outerW]
def Tryz.zlw:List Sh:= []
def Tryz.ziW:List AV:= [.cst 0 none,rg,.int .i64 (u16v 7),.bool (.var 1)]
def Tryz.zhO:List LEnt:= []
def Tryz.zhP:List AEnt:= []
def Tryz.zw2:List (SB×Bool):= []
def Tryz.zoB:List Leaf:= [
 ⟨.tup [.opq 8 none,.int .i64 (.var 21),.int .i64 (.var 20)],[],[],1,[]⟩]
def Tryz.zyv:List (List (SB×Bool)×Nat):= [
 ([], 0)]
theorem Tryz.zw1:(evL prog (ze1 ziV zhN) (zaC zhO) (zaA zhP) 100000 (.call 148 ziW (zar 0 zlw) (zaK zoB 0))).ways zw2=some zyv:=by kernel_rfl
theorem Tryz.zyw:(zah zlw&&zae ziV&&zcj zhN&&zan zhO&&zao zhP&&AV.smallL ziW&&zaj zoB)=true:=by kernel_rfl
def Tryz.zi2:List Ent:= [refE,zKw,zLs]
def Tryz.zlC:List Sh:= []
def Tryz.zi3:List AV:= [.cst 0 none,rg,.int .i64 (u16v 7),.bool (.var 1)]
def Tryz.zw6:List (SB×Bool):= []
def Tryz.zoK:List Leaf:= [
 ⟨.tup [.nils,.int .i64 (.var 20)],[],[],1,[]⟩,
 ⟨.tup [.opq 3 none,.int .i64 (.var 22)],[],[],2,[]⟩]
def Tryz.zoJ:List (List (SB×Bool)×Nat):= [
 ([((.cmp .neq (.var 20) (.lit 0)),true)],0),
 ([((.cmp .neq (.var 20) (.lit 0)),false)],1)]
theorem Tryz.zw5:(ev prog (zau zi2) 100000 (.call 128 zi3 (zar 0 zlC) (zaK zoK 0))).ways zw6=some zoJ:=by kernel_rfl
theorem Tryz.zyO:(zah zlC&&zae zi2&&AV.smallL zi3&&zaj zoK)=true:=by kernel_rfl
open Go.RowKit
def Tryz.zkZ (i s:Nat):Nat→List Fld
 | 0=> []
 | k+1=>⟨i,0,255,0,8,s⟩::zkZ (i+1) (s+8) k
theorem Tryz.zw4 (g:Nat→Int) (a k:Nat):zai g a (k+1)=g a+256*zai g (a+1) k:=by
 induction k with
 | zero=>simp [zai]
 | succ k ih=>
  rw [zai,ih]
  conv=>rhs;rw [zai]
  rw [show a+1+k=a+(k+1) by omega,Int.pow_succ,Int.mul_add]
  have:g (a+(k+1))*(256^k*256)=256*(g (a+(k+1))*256^k):=by
   rw [←Int.mul_assoc,Int.mul_comm _ 256]
  omega
theorem Tryz.zb2 (g:Nat→Int) (hg: ∀j,0≤g j∧g j<256) (a k:Nat):0≤zai g a k∧zai g a k<256^k:=zdb g hg a k
theorem Tryz.zse {ρ:Val} {g:Nat→Int} (hg: ∀j,0≤g j∧g j<256): ∀(k i s a:Nat),(∀t,t<k→ρ.i (i+t)=g (a+t))→zak ρ (zkZ i s k) 0=(zai g a k).toNat*2^s
 | 0,i,s,a,_=>by simp [zkZ,zak,zai]
 | k+1,i,s,a,h=>by
  have h0:=h 0 (by omega)
  rw [Nat.add_zero,Nat.add_zero] at h0
  have ih:=zse hg k (i+1) (s+8) (a+1) fun t ht=>by
   have:=h (t+1) (by omega)
   rw [show i+1+t=i+(t+1) by omega,show a+1+t=a+(t+1) by omega];exact this
  obtain ⟨b0,b1⟩:=hg a
  obtain ⟨x,hx⟩:=Int.eq_ofNat_of_zero_le b0
  obtain ⟨y,hy⟩:=Int.eq_ofNat_of_zero_le (zb2 g hg (a+1) k).1
  rw [hx] at b1
  unfold zkZ zak
  rw [ih,zw4,hx,hy]
  simp only [Fld.den,h0,hx,Int.toNat_natCast,Nat.shiftRight_zero]
  have e1:max 0 (min x 255)=x:=by omega
  rw [e1,Nat.mod_eq_of_lt (by omega)]
  have e2:((x:Int)+256*(y:Int)).toNat=x+256*y:=by omega
  rw [e2,Nat.shiftLeft_eq,Nat.or_comm,Nat.pow_add]
  have e3:y*(2^s*2^8)=y<<<(s+8):=by rw [Nat.shiftLeft_eq,Nat.pow_add]
  rw [e3,←Nat.shiftLeft_add_eq_or_of_lt (by rw [Nat.pow_add,Nat.mul_comm];exact Nat.mul_lt_mul_of_pos_left (by omega) (Nat.pow_pos (by decide))),Nat.shiftLeft_eq,Nat.pow_add,Nat.add_mul]
  have:y*(2^s*2^8)=256*y*2^s:=by rw [Nat.mul_comm (2^s),←Nat.mul_assoc,Nat.mul_comm y]
  omega
theorem Tryz.zfJ {ρ:Val} {g:Nat→Int} (hg: ∀j,0≤g j∧g j<256) (k i a:Nat) (h: ∀t,t<k→ρ.i (i+t)=g (a+t)):SE.den ρ (.flds (zkZ i 0 k) 0)=zai g a k:=by
 show ((zak ρ (zkZ i 0 k) 0:Nat):Int)=_
 rw [zse hg k i 0 a h]
 have:=(zb2 g hg a k).1
 simp
 omega
def Tryz.descVal (g:Nat→Int) (a:Nat):Value:= .agg #[.int .u64 (zai g a 8),.int .u32 (zai g (a+8) 4),.int .u16 (zai g (a+12) 2),.int .u16 (zai g (a+14) 2)]
def Tryz.brho (g:Nat→Int) (a:Nat) (v:Value):Val:=⟨fun i=>g (a+(i-20)),fun _=>false,fun _=>v⟩
theorem Tryz.znv {ρ:Val} {j:J} {g:Nat→Int} (hg: ∀j,0≤g j∧g j<256): ∀(k i a:Nat),(∀t,t<k→ρ.i (i+t)=g (a+t))→RL ρ j (zk0 i k) (row g a k)
 | 0,i,a,_=>by unfold zk0 row;exact RL.nil
 | k+1,i,a,h=>by
  have h0:=h 0 (by omega)
  rw [Nat.add_zero,Nat.add_zero] at h0
  have e:row g a (k+1)= .int .u8 (g a)::row g (a+1) k:=by
   unfold row
   rw [List.range_succ_eq_map,List.map_cons,List.map_map]
   congr 1
   apply List.map_congr_left
   intro t _
   show Value.int .u8 (g (a+(t+1)))= .int .u8 (g (a+1+t))
   rw [show a+(t+1)=a+1+t by omega]
  rw [e]
  unfold zk0
  obtain ⟨b0,b1⟩:=hg a
  refine zab (zac ?_) (znv hg k (i+1) (a+1) fun t ht=>by
   have:=h (t+1) (by omega)
   rw [show i+1+t=i+(t+1) by omega,show a+1+t=a+(t+1) by omega];exact this)
  rw [zLa (by rw [h0];exact b0) (by rw [h0];exact b1),h0]
theorem Tryz.zr5 {g:Nat→Int} (hg: ∀j,0≤g j∧g j<256) (a X o c:Nat) (w:World) (h:w.rangeAt X o (row g a 16)):
  Calls prog 160 #[.slice (some ⟨X,o,none⟩) 16 c] w fun e w'=>e= .returned (.tuple #[descVal g a,.int .i64 0])∧Below w.heap.size w w':=by
 have hr: ∀k i b,(∀t,t<k→20≤i+t∧b+t=a+(i+t-20))→ ∀t,t<k→(brho g a (.slice (some ⟨X,o,none⟩) 16 c)).i (i+t)=g (b+t):=fun k i b hh t ht=>by
  obtain ⟨h1,h2⟩:=hh t ht
  show g (a+(i+t-20))=_
  rw [h2]
 have hsx:Dw.R (brho g a (.slice (some ⟨X,o,none⟩) 16 c)) (jOf [(X,o)]) sl16 (.slice (some ⟨X,o,none⟩) 16 c):=⟨rfl,_,_,_,rfl,rfl,⟨X,o,_,0,rfl,rfl,rfl,rfl,by decide,rfl⟩,trivial⟩
 refine Calls.mono (zav (ρ:=brho g a (.slice (some ⟨X,o,none⟩) 16 c)) (K:=fun _=>False) (g:=Gho.none) (bl:= [(X,o)]) (vals:= [.slice (some ⟨X,o,none⟩) 16 c]) mixed zCr zFs (fun b h=>h.elim)
  ⟨zaQ h (by unfold row;simp) (znv hg 16 20 a (hr 16 20 a fun t _=>⟨by omega,by omega⟩)) (fun h=>h),trivial⟩ ⟨fun h=>(by cases h),trivial⟩ zaB trivial (zab hsx RL.nil) (zad.2 trivial)) fun e w' hh=> ?_
 obtain ⟨_,j,he⟩:=zbd hh
 refine ⟨he.ret.trans ?_,zam he (fun _ h=>h)⟩
 have e1:=zfJ hg 8 20 a (hr 8 20 a fun t _=>⟨by omega,by omega⟩)
 have e2:=zfJ hg 4 28 (a+8) (hr 4 28 (a+8) fun t _=>⟨by omega,by omega⟩)
 have e3:=zfJ hg 2 32 (a+12) (hr 2 32 (a+12) fun t _=>⟨by omega,by omega⟩)
 have e4:=zfJ hg 2 34 (a+14) (hr 2 34 (a+14) fun t _=>⟨by omega,by omega⟩)
 simp only [zkZ] at e1 e2 e3 e4
 simp only [AV.val,AV.valL,e1,e2,e3,e4,zaf]
 rfl
theorem Tryz.zha {ρ:Val} {i lo hi fr n sh:Nat} (h0:(lo:Int)≤ρ.i i) (h1:ρ.i i≤(hi:Int)):SE.den ρ (.flds [⟨i,lo,hi,fr,n,sh⟩] 0)=(ρ.i i/(2^fr:Nat)%(2^n:Nat))*(2^sh:Nat):=by
 obtain ⟨x,hx⟩:=Int.eq_ofNat_of_zero_le (Int.le_trans (Int.natCast_nonneg lo) h0)
 rw [hx] at h0 h1
 simp only [SE.den,zak,Fld.den,hx,Int.toNat_natCast,Nat.or_zero]
 have e:max lo (min x hi)=x:=by omega
 rw [e,Nat.shiftRight_eq_div_pow,Nat.shiftLeft_eq]
 show ((x/2^fr%2^n*2^sh:Nat):Int)=_
 push_cast
 rfl
def Tryz.entN (N:Nat) (at1 n:Int):Int×Int:=if n=0∨ ¬n%16=0∨64<n/16 then (0,4) else if at1+n≤N then (n/16,0) else (0,5)
def Tryz.erho (at1 n:Int) (b2:Bool) (p:Value):Val:=vof [0,0,0,0,0,0,0,0,0,0,at1,n] [false,false,b2] [p]
theorem Tryz.ztI {P L Bs B N:Nat} {A n:Int} {g:Nat→Int} {w:World} (st:GM w P L Bs B N g) (hN:N≤1048576) (h1:1≤N) (ha0:0≤A) (ha1:A<18446744073709551616) (hn0:0≤n) (hn1:n<4294967296):
  Calls prog 161 #[.pointer (some ⟨P,0,none⟩),.int .u64 A,.int .u32 n] w fun e w'=>e= .returned (.tuple #[.int .i64 (entN N A n).1,.int .i64 (entN N A n).2])∧Below w.heap.size w w':=by
 have dA:(u64v 10).den (erho A n (decide (1≤n∧A+n≤N)) (.pointer (some ⟨P,0,none⟩)))=A:=zaH ha0 ha1
 have dn:(u32v 11).den (erho A n (decide (1≤n∧A+n≤N)) (.pointer (some ⟨P,0,none⟩)))=n:=zbL hn0 hn1
 have d4:SE.den (erho A n (decide (1≤n∧A+n≤N)) (.pointer (some ⟨P,0,none⟩))) (.flds [⟨11,0,4294967295,0,4,0⟩] 0)=n%16:=(zha hn0 (by show n≤_;omega)).trans (by show n/((2^0:Nat):Int)%((2^4:Nat):Int)*((2^0:Nat):Int)=_;have e1:((2^0:Nat):Int)=1:=rfl;have e2:((2^4:Nat):Int)=16:=rfl;rw [e1,e2];omega)
 have d28:SE.den (erho A n (decide (1≤n∧A+n≤N)) (.pointer (some ⟨P,0,none⟩))) (.flds [⟨11,0,4294967295,4,28,0⟩] 0)=n/16:=(zha hn0 (by show n≤_;omega)).trans (by show n/((2^4:Nat):Int)%((2^28:Nat):Int)*((2^0:Nat):Int)=_;have e1:((2^0:Nat):Int)=1:=rfl;have e2:((2^4:Nat):Int)=16:=rfl;have e3:((2^28:Nat):Int)=268435456:=rfl;rw [e1,e2,e3];omega)
 have dp:(erho A n (decide (1≤n∧A+n≤N)) (.pointer (some ⟨P,0,none⟩))).v 0= .pointer (some ⟨P,0,none⟩):=rfl
 have db:(erho A n (decide (1≤n∧A+n≤N)) (.pointer (some ⟨P,0,none⟩))).b 2=decide (1≤n∧A+n≤N):=rfl
 generalize erho A n (decide (1≤n∧A+n≤N)) (.pointer (some ⟨P,0,none⟩))=ρ at*
 refine Calls.mono (zav (ρ:=ρ) (K:=fun _=>False) (g:=memG P L Bs B N [g]) (bl:= []) (vals:= [.pointer (some ⟨P,0,none⟩),.int .u64 A,.int .u32 n]) mixed zyM zDh (fun b h=>h.elim) trivial trivial
  (zbx st fun b _ hm=>by obtain ⟨k,L',h1,_⟩:=hm;cases k<;>cases h1) ⟨?_,trivial⟩ (zab (za5 dp rfl) (zab (zac dA) (zab (zac dn) RL.nil))) (zad.2 trivial)) fun e w' hh=> ?_
 ·refine zas (Dw.enters_of (by kernel_rfl)) (by decide) [.pointer (some ⟨P,0,none⟩),.int .u64 A,.int .u64 n] (.bool (decide (1≤n∧A+n≤N))) (fun j=>zab (za5 dp rfl) (zab (zac dA) (zab (zac dn) RL.nil))) (fun j=>zaO db) fun w F q hf=> ?_
  obtain ⟨_,_,_,_,g',e,hm'⟩:=hf
  cases e
  exact zBT P L Bs B N A n g w hm' hN h1 ha0 ha1 hn0
 ·obtain ⟨p,hpm,hto,l,hl,j,he⟩:=hh
  have hb:=zam he (fun _ h=>h)
  unfold zuk at hpm
  simp only [List.mem_cons,List.not_mem_nil,or_false] at hpm
  unfold entN
  rcases hpm with rfl|rfl|rfl|rfl|rfl
  all_goals
   simp only [zaa,zad,zbW,zbs,zbV,zaM,dn,d4,d28,db,zaf,decide_eq_true_eq,decide_eq_false_iff_not,and_true,beq_iff_eq,bne_iff_ne,ne_eq,beq_eq_false_iff_ne,bne_eq_false_iff_eq] at hto
   cases hl
   refine ⟨he.ret.trans ?_,hb⟩
   simp only [AV.val,AV.valL,d28,zaf]
  ·rw [if_pos (.inl hto)]
  ·rw [if_pos (.inr (.inl hto.2))]
  ·rw [if_pos (.inr (.inr (by omega)))]
  ·rw [if_neg (by omega),if_neg (by omega)]
  ·rw [if_neg (by omega),if_pos hto.2.2.2.2]
theorem Tryz.zxH {P L Bs B N:Nat} {g:Nat→Int} {r:Rg} {w:World} (st:GM w P L Bs B N g) (hr:RgOk r):
  Calls prog 147 #[.pointer (some ⟨P,0,none⟩),r.val,.bool false] w fun e w'=>e= .returned (.int .i64 0)∧Below w.heap.size w w':=by
 have dp:(rho r [] [] [.pointer (some ⟨P,0,none⟩)]).v 0= .pointer (some ⟨P,0,none⟩):=rfl
 have hR: ∀j,Dw.R (rho r [] [] [.pointer (some ⟨P,0,none⟩)]) j rg r.val:=fun j=>R_rg hr
 generalize rho r [] [] [.pointer (some ⟨P,0,none⟩)]=ρ at*
 refine Calls.mono (zav (ρ:=ρ) (K:=fun _=>False) (g:=memG P L Bs B N [g]) (bl:= []) (vals:= [.pointer (some ⟨P,0,none⟩),r.val,.bool false]) mixed zDc zG7 (fun b h=>h.elim) trivial trivial
  (zbx st fun b _ hm=>by obtain ⟨k,L',h1,_⟩:=hm;cases k<;>cases h1) ⟨zs4 dp (fun w F q hf=>by obtain ⟨_,_,_,_,g',e,hm'⟩:=hf;cases e;exact hm'),?_,trivial⟩ (zab (za5 dp rfl) (zab (hR _) (zab (zaO rfl) RL.nil))) (zad.2 trivial)) fun e w' hh=> ?_
 ·exact zas (Dw.enters_of (by kernel_rfl)) (by decide) [r.val] (.int .i64 0) (fun j=>zab (hR j) RL.nil) (fun j=>zac rfl) fun w F q hf=>zb1 r hr w
 ·obtain ⟨_,j,he⟩:=zbd hh
  exact ⟨he.ret,zam he (fun _ h=>h)⟩
def Tryz.zf2 (N:Nat) (l:List Sg):Int:=if l= []∨ ¬zaZ l=0 then 4 else zgx N l
def Tryz.lrho (n e i:Int) (p sl:Value):Val:=vof [n,0,0,0,0,0,0,e,i] [] [p,sl]
theorem Tryz.zxW {A:Nat→Prop} {w:World} {P L Bs B N:Nat} {g:Nat→Int} {sa:Option Addr} {c:Nat} {l:List Sg} (hm:GM w P L Bs B N g) (hN:N≤1048576) (h1:1≤N) (h:SegV A w (.slice sa l.length c) l) (hln:l.length<4611686018427387904)
  (hRm: ∀R o,sa=some ⟨R,o,none⟩→R≠P∧R≠L∧R≠Bs∧R≠B):
  Calls prog 149 #[.pointer (some ⟨P,0,none⟩),.slice sa l.length c] w fun e w'=>e= .returned (.tuple #[if zf2 N l=0 then .slice sa l.length c else .slice none 0 0,.int .i64 (zf2 N l)])∧Below w.heap.size w w':=by
 have h0:=h
 obtain ⟨sa',c',e',hok,hr⟩:=h
 obtain ⟨F0,hF0,hF1⟩:=zb7 h0
 have hG:(zli P L Bs B N g sa l).G 0 (jOf []) w:=by
  refine ⟨fun b=>F0 b∨b=P∨b=L∨b=Bs∨b=B,fun b hb=>⟨?_,?_⟩,⟨.inr (.inl rfl),.inr (.inr (.inl rfl)),.inr (.inr (.inr (.inl rfl))),.inr (.inr (.inr (.inr rfl))),hm⟩,?_⟩
  ·rcases hb with hb|rfl|rfl|rfl|rfl
   ·exact (hF0 b hb).1
   ·exact hm.pl
   ·exact hm.ll
   ·exact hm.sl
   ·exact hm.bl
  ·rintro ⟨k,L',h1,_⟩
   cases k<;>cases h1
  ·have hF1:SegF F0 w sa l:=hF1
   rcases hF1 with h|⟨R,o,e,hF,hr⟩
   ·exact .inl h
   ·exact .inr ⟨R,o,e,.inl hF,hr⟩
 have hF:=fun w F q (hf:(zli P L Bs B N g sa l).fact 0 q F w)=>SegF.v hf.2 hok c
 have hM:=fun w F q (hf:(zli P L Bs B N g sa l).fact 0 q F w)=>hf.1.2.2.2.2
 have d0:(lnv 0).den (lrho l.length (zaZ l) (zgx N l) (.pointer (some ⟨P,0,none⟩)) (.slice sa l.length c))=l.length:=zaR (by show (0:Int)≤l.length;omega) (by show ((l.length:Nat):Int)<_;omega)
 have h7:(lrho l.length (zaZ l) (zgx N l) (.pointer (some ⟨P,0,none⟩)) (.slice sa l.length c)).i 7=zaZ l:=rfl
 have h8:(lrho l.length (zaZ l) (zgx N l) (.pointer (some ⟨P,0,none⟩)) (.slice sa l.length c)).i 8=zgx N l:=rfl
 have hv0:(lrho l.length (zaZ l) (zgx N l) (.pointer (some ⟨P,0,none⟩)) (.slice sa l.length c)).v 0= .pointer (some ⟨P,0,none⟩):=rfl
 have hv:(lrho l.length (zaZ l) (zgx N l) (.pointer (some ⟨P,0,none⟩)) (.slice sa l.length c)).v 1= .slice sa l.length c:=rfl
 generalize lrho l.length (zaZ l) (zgx N l) (.pointer (some ⟨P,0,none⟩)) (.slice sa l.length c)=ρ at*
 refine Calls.mono (zav (ρ:=ρ) (K:=fun _=>False) (g:=zli P L Bs B N g sa l) (bl:= []) (vals:= [.pointer (some ⟨P,0,none⟩),.slice sa l.length c]) mixed zyA zDf (fun b h=>h.elim) trivial trivial hG
  ⟨zsc hv d0 h7 hF,?_,trivial⟩ (zab (za5 hv0 rfl) (zab (zil hv d0) RL.nil)) (zad.2 trivial)) fun e w' hh=> ?_
 ·exact zas (Dw.enters_of (by kernel_rfl)) (by decide) [.pointer (some ⟨P,0,none⟩),.slice sa l.length c] (.int .i64 (zgx N l)) (fun j=>zab (za5 hv0 rfl) (zab (zil hv d0) RL.nil)) (fun j=>zac h8) fun w F q hf=>zzU (hM w F q hf) hN h1 (hF w F q hf) hln hRm
 ·obtain ⟨p,hpm,hto,lf,hlf,j,he⟩:=hh
  have hb:=zam he (fun _ h=>h)
  have hne:l= []↔((l.length:Nat):Int)=0:=by rw [←List.length_eq_zero_iff];omega
  unfold zt2 at hpm
  simp only [List.mem_cons,List.not_mem_nil,or_false] at hpm
  rcases hpm with rfl|rfl|rfl|rfl
  all_goals
   simp only [zaa,zad,zbW,zbs,zay,d0,h7,h8,zaf,and_true,beq_iff_eq,bne_iff_ne,ne_eq,beq_eq_false_iff_ne,bne_eq_false_iff_eq] at hto
   cases hlf
   refine ⟨he.ret.trans ?_,hb⟩
   simp only [AV.val,AV.valL,hv,h8,zay,zaf]
  ·have hE:zf2 N l=4:=by unfold zf2;exact if_pos (.inl (hne.2 hto))
   rw [hE,if_neg (by decide)]
  ·have hE:zf2 N l=4:=by unfold zf2;exact if_pos (.inr hto.2)
   rw [hE,if_neg (by decide)]
  ·have hE:zf2 N l=zgx N l:=by unfold zf2;exact if_neg (by rintro (h|h);exact hto.1 (hne.1 h);exact h hto.2.1)
   rw [hE,if_neg hto.2.2]
  ·have hE:zf2 N l=zgx N l:=by unfold zf2;exact if_neg (by rintro (h|h);exact hto.1 (hne.1 h);exact h hto.2.1)
   rw [hE,if_pos hto.2.2,hto.2.2]
structure Tryz.WS where
 segs:List Sg
 n:Int
 e:Int
def Tryz.zex (g:Nat→Int) (a:Nat):Sg:=⟨zai g a 8,zai g (a+8) 4,zai g (a+12) 2/2%2*2 !=0⟩
def Tryz.zbt (N:Nat) (g:Nat→Int) (tab:Int→Int→Int→WS→WS):Nat→Int→Int→Int→List Int→WS→WS
 | 0,_,_,_,_,s=>s
 | f+1,at0,size,k,seen,s=>
  if k∈seen∨size≤k then { s with e:=4 }
  else if¬(at0+16*k)%18446744073709551616+16≤N then { s with e:=5 }
  else if zai g (((at0+16*k)%18446744073709551616).toNat+12) 2/4%2=1 then
   tab (zai g ((at0+16*k)%18446744073709551616).toNat 8) (zai g (((at0+16*k)%18446744073709551616).toNat+8) 4) (zai g (((at0+16*k)%18446744073709551616).toNat+12) 2) { s with n:=s.n+1 }
  else if zai g (((at0+16*k)%18446744073709551616).toNat+12) 2%2=0 then ⟨s.segs++ [zex g ((at0+16*k)%18446744073709551616).toNat],s.n+1,s.e⟩
  else zbt N g tab f at0 size (zai g (((at0+16*k)%18446744073709551616).toNat+14) 2) (k::seen) ⟨s.segs++ [zex g ((at0+16*k)%18446744073709551616).toNat],s.n+1,s.e⟩
def Tryz.znE:Int→Int→Int→WS→WS:=fun _ _ _ s=> { s with e:=4 }
def Tryz.zcR (N:Nat) (g:Nat→Int) (table:Bool):Int→Int→Int→WS→WS:=fun A Ln F s=>
 if table=false∨ ¬F%2=0 then { s with e:=4 }
 else if (entN N A Ln).2=0 then zbt N g znE ((entN N A Ln).1.toNat+1) A (entN N A Ln).1 0 [] { s with e:=0 }
 else { s with e:=(entN N A Ln).2 }
theorem Tryz.zvQ {g:Nat→Int} (hg: ∀j,0≤g j∧g j<256) (a:Nat):(zex g a).ok:=
 ⟨(zb2 g hg a 8).1,(zb2 g hg a 8).2,(zb2 g hg (a+8) 4).1,(zb2 g hg (a+8) 4).2⟩
def Tryz.OwnSeg (w:World) (b2:Nat) (v:Value) (l:List Sg):Prop:=w.ownsRow b2 48 3 v l.length (zaP l)
theorem Tryz.OwnSeg.kept {w w':World} {b2:Nat} {v:Value} {l:List Sg} (h:OwnSeg w b2 v l) (hb: ∀b,v.ownBlock=some b→w'.heap[b]? =w.heap[b]?):OwnSeg w' b2 v l:=by
 obtain ⟨h1,h2⟩:=h
 refine ⟨h1,?_⟩
 rcases h2 with h2|⟨G,cap,cur,e,h3,h4,h5⟩
 ·exact .inl h2
 ·exact .inr ⟨G,cap,cur,e,h3,by rw [hb G (by rw [e];rfl)];exact h4,h5⟩
theorem Tryz.OwnSeg.lt {w:World} {b2:Nat} {v:Value} {l:List Sg} (h:OwnSeg w b2 v l): ∀b,v.ownBlock=some b→b2≤b∧b<w.heap.size∧ ∃cur e fr,w.heap[b]? =some (.cells cur e fr):=fun b hb=>by
 obtain ⟨h1,h2⟩:=h
 rcases h2 with ⟨rfl,_⟩|⟨G,cap,cur,rfl,h3,h4,h5⟩
 ·cases hb
 ·cases hb;exact ⟨h3,(Array.getElem?_eq_some_iff.1 h4).1,_,_,_,h4⟩
theorem Tryz.OwnSeg.segV {w:World} {b2:Nat} {v:Value} {l:List Sg} (h:OwnSeg w b2 v l) (hok: ∀x∈l,x.ok) {A:Nat→Prop} (hA: ∀b,b2≤b→ ¬A b):SegV A w v l:=by
 obtain ⟨h1,h2⟩:=h
 rcases h2 with ⟨rfl,h2⟩|⟨G,cap,cur,rfl,h3,h4,h5,h6,h7,h8⟩
 ·have:l= []:=List.length_eq_zero_iff.1 h2
  subst this
  exact SegV.none
 ·refine ⟨_,cap,rfl,hok,.inr ⟨G,0,rfl,hA G h3,fun i y hy=> ?_⟩⟩
  have hlt:i<(zaP l).length:=(List.getElem?_eq_some_iff.1 hy).1
  rw [←h8] at hy
  have hi:i<l.length*3:=by rw [zcd] at hlt;omega
  rw [List.getElem?_take_of_lt hi] at hy
  simp only [World.cell?,h4,Nat.zero_add]
  simpa using hy
theorem Tryz.OwnSeg.one {w:World} {b2:Nat} {v:Value} {l:List Sg} (h:OwnSeg w b2 v l):v.oneCell'=true:=by
 obtain ⟨h1,h2⟩:=h
 rcases h2 with ⟨rfl,h2⟩|⟨G,cap,cur,rfl,_⟩<;>rfl
structure Tryz.V6 where
 E:Nat
 Mb:Nat
 Nn:Nat
 Tb:Nat
 Fb:Nat
 Lc:Nat
def Tryz.V6.l (x:V6):List Nat:= [x.E,x.Mb,x.Nn,x.Tb,x.Fb,x.Lc]
def Tryz.vp (b:Nat):Value:= .pointer (some ⟨b,0,none⟩)
def Tryz.V6.caps (x:V6):List Value:= [vp x.E,vp x.Mb,vp x.Nn,vp x.Tb,vp x.Fb,vp x.Lc]
structure Tryz.WW (w:World) (P L Bs B N:Nat) (g:Nat→Int) (b2:Nat) (x:V6) (table:Bool) (v:Value) (s:WS):Prop where
 mem:GM w P L Bs B N g
 lo:P<b2∧L<b2∧Bs<b2∧B<b2
 nd:x.l.Nodup
 sep: ∀b∈x.l,b≠P∧b≠L∧b≠Bs∧b≠B
 oE:Own w x.E [.int .i64 s.e]
 oM:Own w x.Mb [vp P]
 oN:Own w x.Nn [.int .i64 s.n]
 oT:Own w x.Tb [.bool table]
 oF:Own w x.Fb [.func (.func 159) #[] x.caps.toArray]
 oL:Own w x.Lc [v]
 row:OwnSeg w b2 v s.segs
 vne: ∀b,v.ownBlock=some b→b∉x.l
 ok: ∀y∈s.segs,y.ok
 hb:b2≤w.heap.size
 n0:0≤s.n
theorem Tryz.WW.lt6 {w:World} {P L Bs B N:Nat} {g:Nat→Int} {b2:Nat} {x:V6} {table:Bool} {v:Value} {s:WS} (h:WW w P L Bs B N g b2 x table v s): ∀b∈x.l,b<w.heap.size:=fun b hb=>by
 simp only [V6.l,List.mem_cons,List.not_mem_nil,or_false] at hb
 rcases hb with rfl|rfl|rfl|rfl|rfl|rfl
 ·exact zeN h.oE
 ·exact zeN h.oM
 ·exact zeN h.oN
 ·exact zeN h.oT
 ·exact zeN h.oF
 ·exact zeN h.oL
def Tryz.wK (x:V6) (v:Value) (b:Nat):Prop:=b∈x.l∨v.ownBlock=some b
theorem Tryz.zbR: ∀ {bl:List (Nat×Nat)} {l:List Sh},(bl.map (·.1)).Nodup→apart bl l
 | [], _,_=>by unfold apart;trivial
 | b::bl,[],_=>by unfold apart;trivial
 | b::bl,s::l,h=>by
  rw [List.map_cons,List.nodup_cons] at h
  refine ⟨fun _ i b' s' h1 _ _ e=>h.1 (e▸List.mem_map_of_mem (List.mem_of_getElem? h1)),zbR h.2⟩
def Tryz.fwOwn (b2:Nat) (v:Value) (l:List Sg) (F:Nat→Prop) (w:World):Prop:=OwnSeg w b2 v l∧ ∀b,v.ownBlock=some b→F b
def Tryz.zK3 (g:Nat→Int) (b2 W0:Nat) (v:Value) (l:List Sg) (a:Nat) (l3:List Sg) (k:Nat) (q:Nat→Option Value) (F:Nat→Prop) (w:World):Prop:=
 match k with
 | 0=>fwOwn b2 v l F w
 | 1=>fwOwn b2 v l F w∧ ∃R o c,q 8=some (.slice (some ⟨R,o,none⟩) 16 c)∧F R∧w.rangeAt R o (row g a 16)
 | 2=> ∃u,q 12=some u∧fwOwn b2 u (l++ [zex g a]) F w∧ ∀b,u.ownBlock=some b→v.ownBlock=some b∨W0≤b
 | _=> ∃u,q 10=some u∧fwOwn b2 u l3 F w∧ ∀b,u.ownBlock=some b→v.ownBlock=some b∨W0≤b
theorem Tryz.fwOwn.kept {b2:Nat} {v:Value} {l:List Sg} {F:Nat→Prop} {w w':World} (h:fwOwn b2 v l F w) (hb: ∀b,F b→w'.heap[b]? =w.heap[b]?):fwOwn b2 v l F w':=⟨h.1.kept fun b e=>hb b (h.2 b e),h.2⟩
def Tryz.fwG (P L Bs B N:Nat) (g:Nat→Int) (b2 W0:Nat) (v:Value) (l:List Sg) (a:Nat) (l3:List Sg):Gho where
 fact k q F w:=(F P∧F L∧F Bs∧F B∧GM w P L Bs B N g)∧zK3 g b2 W0 v l a l3 k q F w
 loc:=fun k q q' F w w' h hq hb hs=>by
  obtain ⟨⟨h1,h2,h3,h4,h5⟩,h6⟩:=h
  refine ⟨⟨h1,h2,h3,h4,h5.kept (fun b _ hb'=>by rcases hb' with rfl|rfl|rfl|rfl<;>exact hb _ (by assumption)) hs⟩,?_⟩
  match k,h6 with
  | 0,h6=>exact fwOwn.kept h6 hb
  | 1,⟨h6,R,o,c,h7,h8,h9⟩=>exact ⟨fwOwn.kept h6 hb,R,o,c,hq _ _ h7,h8,zaJ h9 (hb R h8)⟩
  | 2,⟨u,h7,h8,h9⟩=>exact ⟨u,hq _ _ h7,fwOwn.kept h8 hb,h9⟩
  | k+3,⟨u,h7,h8,h9⟩=>exact ⟨u,hq _ _ h7,fwOwn.kept h8 hb,h9⟩
structure Tryz.zk9 (ρ:Val) (P:Nat) (at0 size k e n A Ln F Nx cnt x rerr e3 n3:Int) (inner table:Bool) (v:Value):Prop where
 d_at0:(u64v 0).den ρ=at0
 d_size:(szv 1).den ρ=size
 d_k:(u16v 2).den ρ=k
 d_e:ρ.i 3=e
 d_n:(lnv 4).den ρ=n
 d_A:(u64v 10).den ρ=A
 d_Ln:(u32v 11).den ρ=Ln
 d_F:(u16v 12).den ρ=F
 d_F0:SE.den ρ (.flds [⟨12,0,65535,0,1,0⟩] 0)=F%2
 d_F1:SE.den ρ (.flds [⟨12,0,65535,1,1,1⟩] 0)=F/2%2*2
 d_F2:SE.den ρ (.flds [⟨12,0,65535,2,1,2⟩] 0)=F/4%2*4
 d_Nx:(u16v 13).den ρ=Nx
 d_cnt:ρ.i 14=cnt
 d_x:ρ.i 15=x
 d_rerr:ρ.i 16=rerr
 d_e3:ρ.i 20=e3
 d_n3:ρ.i 21=n3
 d_b0:ρ.b 0=inner
 d_b1:ρ.b 1=table
 d_p:ρ.v 0=vp P
 d_v:ρ.v 1=v
theorem Tryz.zeg {P:Nat} {at0 size k e n A Ln F Nx cnt x rerr e3 n3:Int} {inner table:Bool} {v:Value} (h0:0≤at0∧at0<18446744073709551616) (h1:1≤size∧size≤32768) (h2:0≤k∧k<65536) (h3:0≤n∧n<4611686018427387904)
  (h4:0≤A∧A<18446744073709551616) (h5:0≤Ln∧Ln<4294967296) (h6:0≤F∧F<65536) (h7:0≤Nx∧Nx<65536):
  ∃ ρ:Val,zk9 ρ P at0 size k e n A Ln F Nx cnt x rerr e3 n3 inner table v:=by
 refine ⟨vof [at0,size,k,e,n,0,0,0,0,0,A,Ln,F,Nx,cnt,x,rerr,0,0,0,e3,n3] [inner,table] [vp P,v],zaH h0.1 h0.2,zoo h1.1 h1.2,zbj h2.1 h2.2,rfl,zaR h3.1 h3.2,zaH h4.1 h4.2,zbL h5.1 h5.2,zbj h6.1 h6.2,?_,?_,?_,zbj h7.1 h7.2,rfl,rfl,rfl,rfl,rfl,rfl,rfl,rfl,rfl⟩
 ·refine (zha (i:=12) h6.1 (by show F≤_;omega)).trans ?_
  show F/((2^0:Nat):Int)%((2^1:Nat):Int)*((2^0:Nat):Int)=_
  have e1:((2^0:Nat):Int)=1:=rfl
  have e2:((2^1:Nat):Int)=2:=rfl
  rw [e1,e2];omega
 ·refine (zha (i:=12) h6.1 (by show F≤_;omega)).trans ?_
  show F/((2^1:Nat):Int)%((2^1:Nat):Int)*((2^1:Nat):Int)=_
  have e2:((2^1:Nat):Int)=2:=rfl
  rw [e2]
 ·refine (zha (i:=12) h6.1 (by show F≤_;omega)).trans ?_
  show F/((2^2:Nat):Int)%((2^1:Nat):Int)*((2^2:Nat):Int)=_
  have e2:((2^1:Nat):Int)=2:=rfl
  have e3:((2^2:Nat):Int)=4:=rfl
  rw [e2,e3]
theorem Tryz.zbo {j:J} {n:Nat} {u:Value}:opqs (jq j n [u]) n=some u:=by
 unfold opqs jq
 rw [if_pos ⟨Nat.le_refl _,by simp⟩]
 simp
theorem Tryz.zBW {ρ:Val} {P:Nat} {at0 size k e n A Ln F Nx cnt x rerr e3 n3:Int} {inner table:Bool} {v:Value} (h:zk9 ρ P at0 size k e n A Ln F Nx cnt x rerr e3 n3 inner table v) (hk:0≤k∧k<65536):
  SE.den ρ (.bin .add .u64 (u64v 0) (.bin .mul .u64 (.lit 16) (u16v 2)))=(at0+16*k)%18446744073709551616:=by
 rw [den_add,den_mul,h.d_at0,h.d_k,zaf,zaL (k:=16*k) (by omega) (by omega),zeB]
section
variable {ρ:Val} {P L Bs B N:Nat} {at0 size k e n A Ln F Nx cnt x rerr e3 n3:Int} {inner table:Bool} {v:Value} {g:Nat→Int} {b2 W0:Nat} {l l3:List Tryz.Sg} {a:Nat} {w0:World} {K:Nat→Prop}
theorem Tryz.zfh (hd:zk9 ρ P at0 size k e n A Ln F Nx cnt x 0 e3 n3 inner table v) (hk:0≤k∧k<65536) (ha:(at0+16*k)%18446744073709551616=a) (hN:N≤1048576) (hin:a+16≤N):
  za3 prog ρ w0 K (fwG P L Bs B N g b2 W0 v l a l3) zjW:=by
 refine ⟨Dw.enters_of (by kernel_rfl),fun j w vals F n hv hn hb hF hsz hf _=> ?_⟩
 have hv:=zcF (by decide) hv (zab (za5 (ρ:=ρ) (j:=j) hd.d_p rfl) (zab (zac ((zBW hd hk).trans ha)) (zab (zac rfl) RL.nil)))
 subst hv
 have hb:n=8:=hb (by decide)
 subst hb
 obtain ⟨⟨f1,f2,f3,f4,hm⟩,f6⟩:=hf
 refine Calls.mono (zIp P L Bs B N a 16 g w hm hN (by omega) hin) fun en w' hh=> ?_
 obtain ⟨u,rfl,⟨_,hrow⟩,hbl⟩:=hh
 rcases hrow with ⟨_,h⟩|⟨G,cap,cur,rfl,h3,h4,h5,h6,h7,h8⟩
 ·cases h
 have hGlt:G<w'.heap.size:=(Array.getElem?_eq_some_iff.1 h4).1
 refine ⟨_,[.slice (some ⟨G,0,none⟩) 16 cap],fun b=>F b∨b=G,rfl,rfl,?_,⟨⟨.inl f1,.inl f2,.inl f3,.inl f4,hm.below hbl⟩,⟨?_,fun b hb=> .inl (f6.2 b hb)⟩,G,0,cap,zbo,.inr rfl,?_⟩,?_,Dw.Mv.of_below hbl⟩
 ·refine zcz (zab ⟨⟨⟨0,0,0,some _⟩,?_,rfl⟩,rfl,fun _ h=>by cases h⟩ (zab (zac hd.d_rerr) RL.nil))
  show jq j 8 _ 8=_
  unfold jq
  rw [if_pos ⟨Nat.le_refl _,by simp⟩]
  simp
 ·exact f6.1.kept fun b hb=>hbl.block b (f6.1.lt b hb).2.1
 ·intro i y hy
  rw [←h8] at hy
  have hlt:i<16:=by
   have:=(List.getElem?_eq_some_iff.1 hy).1
   rw [List.length_take] at this
   omega
  rw [List.getElem?_take_of_lt (by omega)] at hy
  simp only [World.cell?,h4,Nat.zero_add]
  simpa using hy
 ·rintro b (hb|rfl)
  ·exact ⟨Nat.lt_of_lt_of_le (hF b hb) hbl.size,.inl hb⟩
  ·exact ⟨hGlt,.inr h3⟩
theorem Tryz.zxI (hd:zk9 ρ P at0 size k e n A Ln F Nx cnt x 5 e3 n3 inner table v) (hk:0≤k∧k<65536) (hN:N≤1048576) (h1:1≤N) (hin: ¬(at0+16*k)%18446744073709551616+16≤N):
  za3 prog ρ w0 K (fwG P L Bs B N g b2 W0 v l a l3) zAl:=
 zas (Dw.enters_of (by kernel_rfl)) (by decide) [vp P,.int .u64 ((at0+16*k)%18446744073709551616),.int .i64 16] (.tuple #[.slice none 0 0,.int .i64 5]) (fun j=>zab (za5 hd.d_p rfl) (zab (zac (zBW hd hk)) (zab (zac rfl) RL.nil))) (fun j=>zcz (zab rfl (zab (zac hd.d_rerr) RL.nil))) fun w F q hf=>by
  obtain ⟨⟨_,_,_,_,hm⟩,_⟩:=hf
  exact zEm P L Bs B N _ 16 g w hm hN h1 (by omega) (by omega) (by omega) (by omega) hin
theorem Tryz.ziP (hd:zk9 ρ P at0 size k e n (zai g a 8) (zai g (a+8) 4) (zai g (a+12) 2) (zai g (a+14) 2) cnt x rerr e3 n3 inner table v) (hg: ∀j,0≤g j∧g j<256):
  za3 prog ρ w0 K (fwG P L Bs B N g b2 W0 v l a l3) zCt:=
 zg7 (Dw.enters_of (by kernel_rfl)) fun j w vals F hv hf=>by
  obtain ⟨_,_,R,o,c,hq,_,hr⟩:=hf
  obtain ⟨u,m,rfl,⟨⟨Lq,hj,hu⟩,_⟩,hm⟩:=hv
  have hm:m= []:=hm
  subst hm
  have hu:u= .slice (some ⟨R,o,none⟩) 16 c:=by
   unfold opqs at hq
   rw [hj] at hq
   simp only [Option.bind_some] at hq
   rw [hu] at hq
   exact Option.some.inj hq
  subst hu
  refine Calls.mono (zr5 hg a R o c w hr) fun en w' hh=>⟨_,hh.1,?_,hh.2⟩
  exact zcz (zab (zlu (zab (zac hd.d_A) (zab (zac hd.d_Ln) (zab (zac hd.d_F) (zab (zac hd.d_Nx) RL.nil))))) (zab (zac rfl) RL.nil))
theorem Tryz.zkU (hd:zk9 ρ P at0 size k e n A Ln F Nx (entN N A Ln).1 (entN N A Ln).2 rerr e3 n3 inner table v) (hN:N≤1048576) (h1:1≤N) (hA:0≤A∧A<18446744073709551616) (hL:0≤Ln∧Ln<4294967296):
  za3 prog ρ w0 K (fwG P L Bs B N g b2 W0 v l a l3) zol:=
 zas (Dw.enters_of (by kernel_rfl)) (by decide) [vp P,.int .u64 A,.int .u32 Ln] (.tuple #[.int .i64 (entN N A Ln).1,.int .i64 (entN N A Ln).2]) (fun j=>zab (za5 hd.d_p rfl) (zab (zac hd.d_A) (zab (zac hd.d_Ln) RL.nil))) (fun j=>zcz (zab (zac hd.d_cnt) (zab (zac hd.d_x) RL.nil))) fun w F q hf=>
  ztI hf.1.2.2.2.2 hN h1 hA.1 hA.2 hL.1 hL.2
theorem Tryz.zBK:(prog.info? 48).map (fun i=>(i.zero,i.size,i.bytes))=some (some (.agg #[.int .u64 0,.int .u32 0,.bool false]),3,16):=by kernel_rfl
set_option maxRecDepth 10000 in
theorem Tryz.zH4 (hd:zk9 ρ P at0 size k e n (zai g a 8) (zai g (a+8) 4) (zai g (a+12) 2) Nx cnt x rerr e3 n3 inner table v) (hlo:P<b2∧L<b2∧Bs<b2∧B<b2) (hW:W0=w0.heap.size) (hb2:b2≤W0) (hK: ∀b,v.ownBlock=some b→K b) (hl:l.length≤1000000):
    zDa prog ρ w0 K (fwG P L Bs B N g b2 W0 v l a l3) segA:=by
  intro j w F n us bb o cap vals ty hus hcells hxs hnone hbase hF hsz hf
  have hb:n=12:=hbase (by decide)
  subst hb
  obtain ⟨⟨f1,f2,f3,f4,hm⟩,⟨f5,f6⟩,_⟩:=hf
  have hus:=R_val (by decide) hus
  have hus:us=v:=by rw [hus];exact hd.d_v
  subst hus
  have hxs:=zcF (by decide) hxs (zab (zac hd.d_A) (zab (zac hd.d_Ln) (zab (zaO rfl) RL.nil)))
  have hvals:vals=(zex g a).cells:=by
    rw [hxs]
    unfold zex Sg.cells
    rw [show SB.den ρ (.cmp .neq (.flds [⟨12,0,65535,1,1,1⟩] 0) (.lit 0))=(zai g (a+12) 2/2%2*2 !=0) from by rw [zbs,hd.d_F1,zaf]]
  subst hvals
  have hinfo:=zBK
  cases hi:prog.info? 48 with
  | none=>rw [hi] at hinfo;cases hinfo
  | some i=>
  rw [hi] at hinfo
  simp only [Option.map_some,Option.some.injEq,Prod.mk.injEq] at hinfo
  obtain ⟨i1,i2,i3⟩:=hinfo
  obtain ⟨u,w',h1,h2,h3,h4,h5⟩:=run_append_own_at (P:=prog) w b2 36 ty 48 i _ 3 16 (by kernel_rfl) hi i1 i2 i3 rfl (by decide) us l.length (zaP l) f5 ⟨bb,o,none⟩ 1 cap (zex g a).cells rfl
    (fun q y hy=>by
      rw [Dw.addr_add]
      exact hcells q y hy) (fun y hy=>by simp only [Sg.cells,List.mem_cons,List.not_mem_nil,or_false] at hy;rcases hy with rfl|rfl|rfl<;>rfl) (by unfold maxLen;omega) (by omega) (by omega)
  have hseg:zaP l++(zex g a).cells=zaP (l++ [zex g a]):=by simp [zaP]
  have hown:OwnSeg w' b2 u (l++ [zex g a]):=by
    unfold OwnSeg
    rw [←hseg,List.length_append]
    exact h2
  have hub:=hown.lt
  have hub1: ∀b,u.ownBlock=some b→us.ownBlock=some b∨w.heap.size≤b:=fun b hb=>by
    rcases h5 with h5|h5
    · exact .inl (h5▸hb)
    · rw [hb] at h5;cases h5;exact .inr (Nat.le_refl _)
  have hmv:Dw.Mv (fun b=>us.ownBlock=some b) w w':=⟨h3.os,h3.tape,h3.output,h3.size,fun b hb hn=>h3.block b hb (fun e=>hn e.symm)⟩
  have hvP: ∀b,us.ownBlock=some b→b≠P∧b≠L∧b≠Bs∧b≠B:=fun b hb=>by
    have:=(f5.lt b hb).1
    omega
  refine ⟨u,w',[u],fun b=>F b∨u.ownBlock=some b,h1,rfl,⟨⟨⟨0,0,0,some u⟩,?_,rfl⟩,hown.one,fun _ h=>(by cases h)⟩,⟨⟨.inl f1,.inl f2,.inl f3,.inl f4,hm.kept (fun b hb hb'=>hmv.block b hb (fun e=>by
      obtain ⟨r1,r2,r3,r4⟩:=hvP b e
      rcases hb' with h|h|h|h<;>contradiction)) hmv.size⟩,u,zbo,⟨hown,fun b hb=> .inr hb⟩,fun b hb=> ?_⟩,?_,hmv.mono fun b hb=>⟨f6 b hb,.inr (hK b hb)⟩⟩
  · show jq j 12 _ 12=_
    unfold jq
    rw [if_pos ⟨Nat.le_refl _,by simp⟩]
    simp
  · rcases hub1 b hb with h|h
    · exact .inl h
    · exact .inr (by omega)
  · rintro b (hb|hb)
    · exact ⟨Nat.lt_of_lt_of_le (hF b hb) hmv.size,.inl hb⟩
    · refine ⟨(hub b hb).2.1,?_⟩
      rcases hub1 b hb with h|h
      · exact .inl (f6 b h)
      · exact .inr h
end
end Go.Proofs
namespace Go.Proofs
open Go.Dw Go.RowKit
structure Tryz.FwI (w:World) (a:Act) (P L Bs B N:Nat) (g:Nat→Int) (b2:Nat) (x:V6) (table:Bool) (v:Value) (s:WS) (M:Nat) (at0 size k:Int) (inner:Bool) (seen:List Int):Prop where
 ww:WW w P L Bs B N g b2 x table v s
 nl:(s.segs.length:Int)≤s.n
 mM:b2≤M∧M<w.heap.size∧M∉x.l
 map: ∃arr clock,w.heap[M]? =some (.map arr clock)∧(zc8 arr∧Born arr clock)∧ ∀n:Int,zbb arr n=if n∈seen then some (.bool true) else none
 tsize:a.tmps.size=104
 dfr:a.defers= []
 t0:a.tmps.getD 0 undef= .int .u64 at0
 t1:a.tmps.getD 1 undef= .int .i64 size
 t2:a.tmps.getD 2 undef= .int .i64 k
 t3:a.tmps.getD 3 undef= .bool inner
 t4:a.tmps.getD 4 undef=vp x.E
 t5:a.tmps.getD 5 undef=vp x.Mb
 t6:a.tmps.getD 6 undef=vp x.Nn
 t7:a.tmps.getD 7 undef=vp x.Tb
 t8:a.tmps.getD 8 undef=vp x.Fb
 t9:a.tmps.getD 9 undef=vp x.Lc
 t14:a.tmps.getD 14 undef= .map (some M)
def Tryz.fwBl (x:V6) (M:Nat):List (Nat×Nat):= [(x.E,0),(x.Mb,0),(x.Nn,0),(x.Tb,0),(x.Fb,0),(x.Lc,0),(M,0)]
def Tryz.fwK (x:V6) (v:Value) (M b:Nat):Prop:=wK x v b∨b=M
theorem Tryz.zcK {bl:List (Nat×Nat)} {b:Nat} (h:Mine (jOf bl) b):b∈bl.map (·.1):=by
 obtain ⟨k,L,h1,_,h3⟩:=h
 match k,h1 with
 | 0,h1=>cases h1
 | k+1,h1=>
  have h1:(bl[k]?).map (fun b=>(⟨b.1,b.2,0,none⟩:Dw.Loc))=some L:=h1
  cases hk:bl[k]? with
  | none=>rw [hk] at h1;cases h1
  | some p=>
   rw [hk] at h1
   cases h1
   exact List.mem_map.2 ⟨p,List.mem_of_getElem? hk,h3⟩
section
variable {w:World} {a:Act} {P L Bs B N:Nat} {g:Nat→Int} {b2:Nat} {x:Tryz.V6} {table:Bool} {v:Value} {s:Tryz.WS} {M:Nat} {at0 size k:Int} {inner:Bool} {seen:List Int} {ρ:Val} {A Ln F Nx cnt xx rerr e3 n3:Int} {l3:List Tryz.Sg} {aa:Nat}
theorem Tryz.FwI.vM (h:FwI w a P L Bs B N g b2 x table v s M at0 size k inner seen): ∀b,v.ownBlock=some b→b≠M:=fun b hb e=>by
 obtain ⟨_,_,cur,t,fr,hc⟩:=h.ww.row.lt b hb
 obtain ⟨arr,clock,hm,_⟩:=h.map
 rw [e,hm] at hc
 cases hc
theorem Tryz.FwI.kold (h:FwI w a P L Bs B N g b2 x table v s M at0 size k inner seen): ∀b,fwK x v M b→b<w.heap.size:=fun b hb=>by
 rcases hb with (hb|hb)|rfl
 ·exact h.ww.lt6 b hb
 ·exact (h.ww.row.lt b hb).2.1
 ·exact h.mM.2.1
theorem Tryz.FwI.nd (h:FwI w a P L Bs B N g b2 x table v s M at0 size k inner seen):((fwBl x M).map (·.1)).Nodup:=by
 have h1:=h.ww.nd
 have h2:=h.mM.2.2
 simp only [fwBl,List.map_cons,List.map_nil,V6.l,List.nodup_cons,List.mem_cons,List.not_mem_nil,or_false,not_or] at h1 h2 ⊢
 obtain ⟨⟨a1,a2,a3,a4,a5⟩,⟨b1,b2,b3,b4⟩,⟨c1,c2,c3⟩,⟨d1,d2⟩,e1,_⟩:=h1
 obtain ⟨m1,m2,m3,m4,m5,m6⟩:=h2
 refine ⟨⟨a1,a2,a3,a4,a5,fun e=>m1 e.symm⟩,⟨b1,b2,b3,b4,fun e=>m2 e.symm⟩,⟨c1,c2,c3,fun e=>m3 e.symm⟩,⟨d1,d2,fun e=>m4 e.symm⟩,⟨e1,fun e=>m5 e.symm⟩,fun e=>m6 e.symm,?_⟩
 exact ⟨fun h=>h,List.nodup_nil⟩
theorem Tryz.zJj {j:J} (h1:j 1=some ⟨x.E,0,0,none⟩) (h2:j 2=some ⟨x.Mb,0,0,none⟩) (h3:j 3=some ⟨x.Nn,0,0,none⟩) (h4:j 4=some ⟨x.Tb,0,0,none⟩) (h5:j 5=some ⟨x.Fb,0,0,none⟩) (h6:j 6=some ⟨x.Lc,0,0,none⟩):RL ρ j zm4 x.caps:=
 zab (zaY h1) (zab (zaY h2) (zab (zaY h3) (zab (zaY h4) (zab (zaY h5) (zab (zaY h6) RL.nil)))))
theorem Tryz.zkx (h:FwI w a P L Bs B N g b2 x table v s M at0 size k inner seen) (hd:zk9 ρ P at0 size k s.e s.n A Ln F Nx cnt xx rerr e3 n3 inner table v) {gh:Gho} {o:Option AV} {ov:Option Value} (ho:RO ρ (jOf (fwBl x M)) o ov) (hov:ov=if k∈seen then some (.bool true) else none):
  ShsOk ρ (jOf (fwBl x M)) (cxOf w (fwK x v M) gh) (fwBl x M) (zrE [(.int .i64 (u16v 2),o)]):=by
 have k6: ∀b∈x.l,fwK x v M b:=fun b hb=> .inl (.inl hb)
 obtain ⟨arr,clock,m1,m2,m3⟩:=h.map
 refine ⟨zbc h.ww.oE (zab (zac hd.d_e) RL.nil) (k6 _ (by simp [V6.l])),zbc h.ww.oM (zab (za5 hd.d_p rfl) RL.nil) (k6 _ (by simp [V6.l])),zbc h.ww.oN (zab (zac hd.d_n) RL.nil) (k6 _ (by simp [V6.l])),zbc h.ww.oT (zab (zaO hd.d_b1) RL.nil) (k6 _ (by simp [V6.l])),
  zbc h.ww.oF (zab (zbX RL.nil (zJj rfl rfl rfl rfl rfl rfl)) RL.nil) (k6 _ (by simp [V6.l])),zbc h.ww.oL (zab (za5 hd.d_v h.ww.row.one) RL.nil) (k6 _ (by simp [V6.l])),⟨.inr rfl,rfl,arr,clock,[(k,ov)],m1,m2,⟨k,ov,[],rfl,zac hd.d_k,ho,rfl⟩,fun k' o' hm=> ?_⟩,trivial⟩
 simp only [List.mem_cons,Prod.mk.injEq,List.not_mem_nil,or_false] at hm
 obtain ⟨rfl,rfl⟩:=hm
 rw [hov];exact m3 k'
theorem Tryz.fw_G (h:FwI w a P L Bs B N g b2 x table v s M at0 size k inner seen):(fwG P L Bs B N g b2 w.heap.size v s.segs aa l3).G 0 (jOf (fwBl x M)) w:=by
 obtain ⟨l1,l2,l3',l4⟩:=h.ww.lo
 have hm:=h.ww.mem
 refine ⟨fun b=>b=P∨b=L∨b=Bs∨b=B∨v.ownBlock=some b,fun b hb=>⟨?_,fun hmn=> ?_⟩,⟨.inl rfl,.inr (.inl rfl),.inr (.inr (.inl rfl)),.inr (.inr (.inr (.inl rfl))),hm⟩,h.ww.row,fun b hb=> .inr (.inr (.inr (.inr hb)))⟩
 ·rcases hb with rfl|rfl|rfl|rfl|hb
  ·exact hm.pl
  ·exact hm.ll
  ·exact hm.sl
  ·exact hm.bl
  ·exact (h.ww.row.lt b hb).2.1
 ·have hmn:=zcK hmn
  have hx:b∈x.l∨b=M:=by
   simp only [fwBl,List.map_cons,List.map_nil,List.mem_cons,List.not_mem_nil,or_false] at hmn
   simp only [V6.l,List.mem_cons,List.not_mem_nil,or_false]
   rcases hmn with h|h|h|h|h|h|h<;>simp [h]
  rcases hx with hx|rfl
  ·obtain ⟨s1,s2,s3,s4⟩:=h.ww.sep b hx
   rcases hb with h|h|h|h|hb
   ·exact s1 h
   ·exact s2 h
   ·exact s3 h
   ·exact s4 h
   ·exact h.ww.vne b hb hx
  ·have:=h.mM.1
   rcases hb with h|h|h|h|hb
   ·omega
   ·omega
   ·omega
   ·omega
   ·exact h.vM b hb rfl
theorem Tryz.zee (h:FwI w a P L Bs B N g b2 x table v s M at0 size k inner seen) (hd:zk9 ρ P at0 size k s.e s.n A Ln F Nx cnt xx rerr e3 n3 inner table v): ∀t∈zef,Dw.R ρ (jOf (fwBl x M)) t.2 (a.tmps.getD t.1 undef):=fun t ht=>by
 simp only [zef,List.mem_cons,List.not_mem_nil,or_false] at ht
 rcases ht with rfl|rfl|rfl|rfl|rfl|rfl|rfl|rfl|rfl|rfl|rfl
 ·rw [h.t0];exact zac hd.d_at0
 ·rw [h.t1];exact zac hd.d_size
 ·rw [h.t2];exact zac hd.d_k
 ·rw [h.t3];exact zaO hd.d_b0
 ·rw [h.t4];exact zaY (L:=⟨x.E,0,0,none⟩) rfl
 ·rw [h.t5];exact zaY (L:=⟨x.Mb,0,0,none⟩) rfl
 ·rw [h.t6];exact zaY (L:=⟨x.Nn,0,0,none⟩) rfl
 ·rw [h.t7];exact zaY (L:=⟨x.Tb,0,0,none⟩) rfl
 ·rw [h.t8];exact zaY (L:=⟨x.Fb,0,0,none⟩) rfl
 ·rw [h.t9];exact zaY (L:=⟨x.Lc,0,0,none⟩) rfl
 ·rw [h.t14];exact zJV (L:=⟨M,0,0,none⟩) rfl
def Tryz.zGI (e' n':SE) (lv:AV):List (Nat×List AV):= [(1,[.int .i64 e']),(2,[.cst 0 none]),(3,[.int .i64 n']),(4,[.bool (.var 1)]),(5,[fwFn]),(6,[lv])]
theorem Tryz.zcZ (h:FwI w a P L Bs B N g b2 x table v s M at0 size k inner seen) (hd:zk9 ρ P at0 size k s.e s.n A Ln F Nx cnt xx rerr e3 n3 inner table v) {gh:Gho} {l:Leaf} {e:Ending} {w':World} {j:J} {e' n':SE} {lv:AV}
  (he:zhl ρ w (fwK x v M) gh (fwBl x M) l e w' j) (hrows:l.rows=zGI e' n' lv) {v':Value} {s':WS} (hv:lv.val ρ (lcOf j)=v') (h1:e'.den ρ=s'.e) (h2:n'.den ρ=s'.n) (hm:GM w' P L Bs B N g) (h3:OwnSeg w' b2 v' s'.segs)
  (h4: ∀b,v'.ownBlock=some b→v.ownBlock=some b∨w.heap.size≤b) (h5: ∀y∈s'.segs,y.ok) (h6:0≤s'.n):WW w' P L Bs B N g b2 x table v' s':=by
 have k6: ∀b∈x.l,fwK x v M b:=fun b hb=> .inl (.inl hb)
 have hj: ∀i L,jOf (fwBl x M) i=some L→j i=some L:=fun i L=>he.sub i L
 have lc1:=zag (hj 1 _ rfl)
 have lc2:=zag (hj 2 _ rfl)
 have lc3:=zag (hj 3 _ rfl)
 have lc4:=zag (hj 4 _ rfl)
 have lc5:=zag (hj 5 _ rfl)
 have lc6:=zag (hj 6 _ rfl)
 have hr: ∀ {n:Nat} {row:List AV} {b:Nat},(n,row)∈zGI e' n' lv→jOf (fwBl x M) n=some ⟨b,0,0,none⟩→b∈x.l→Own w' b (AV.valL ρ (lcOf j) row):=fun {n row b} hm hjn hb=>by
  rw [←hrows] at hm
  exact (zdx he.rows hm _ (hj n _ hjn)).2 (.inr (k6 b hb)) rfl
 have r1:=hr (n:=1) (.head _) rfl (by simp [V6.l])
 have r2:=hr (n:=2) (.tail _ (.head _)) rfl (by simp [V6.l])
 have r3:=hr (n:=3) (.tail _ (.tail _ (.head _))) rfl (by simp [V6.l])
 have r4:=hr (n:=4) (.tail _ (.tail _ (.tail _ (.head _)))) rfl (by simp [V6.l])
 have r5:=hr (n:=5) (.tail _ (.tail _ (.tail _ (.tail _ (.head _))))) rfl (by simp [V6.l])
 have r6:=hr (n:=6) (.tail _ (.tail _ (.tail _ (.tail _ (.tail _ (.head _)))))) rfl (by simp [V6.l])
 simp only [AV.valL,AV.val,fwFn,zm4,lc1,lc2,lc3,lc4,lc5,lc6,hv,h1,h2,hd.d_p,zaM,hd.d_b1] at r1 r2 r3 r4 r5 r6
 refine ⟨hm,h.ww.lo,h.ww.nd,h.ww.sep,r1,r2,r3,r4,r5,r6,h3,fun b hb hx=> ?_,h5,Nat.le_trans h.ww.hb he.mv.size,h6⟩
 rcases h4 b hb with h'|h'
 ·exact h.ww.vne b h' hx
 ·have:=h.ww.lt6 b hx
  omega
theorem Tryz.zb3 {ρ:Val} {j:J} {w:World} {b:Nat} {row:List AV} {vs:List Value} (h:Own w b vs) (hx:AV.exactL row=true) (hr:RL ρ j row vs):Own w b (AV.valL ρ (lcOf j) row):=(RL_val hx hr)▸h
end
end Go.Proofs
namespace Go.Proofs
open Go.Dw Go.RowKit
def Tryz.zhk (P L Bs B N:Nat) (g:Nat→Int) (b2:Nat) (table:Bool):Prop:=
 ∀ (x:V6) (v:Value) (s:WS) (w:World) (A cnt:Int),WW w P L Bs B N g b2 x table v s→(s.segs.length:Int)≤s.n→0≤A→A<18446744073709551616→1≤cnt→cnt≤64→s.n≤150000→
  Calls prog 159 (([.int .u64 A,.int .i64 cnt,.int .i64 0,.bool true]:List Value)++x.caps).toArray w fun e w'=>e= .returned (.tuple #[])∧
   ∃ v',WW w' P L Bs B N g b2 x table v' (zbt N g znE (cnt.toNat+1) A cnt 0 [] s)∧(∀b,v'.ownBlock=some b→v.ownBlock=some b∨w.heap.size≤b)∧Dw.Mv (wK x v) w w'
def Tryz.fwQ (w:World) (P L Bs B N:Nat) (g:Nat→Int) (b2:Nat) (x:V6) (table:Bool) (v:Value) (M:Nat) (at0 size k:Int) (inner:Bool) (seen:List Int) (f:Nat) (tab:Int→Int→Int→WS→WS) (s:WS):Exit→Act→World→Prop:=fun ex a' w'=>
 match ex with
 | .normal=> ∃v' s' k',FwI w' a' P L Bs B N g b2 x table v' s' M at0 size k' inner (k::seen)∧(∀b,v'.ownBlock=some b→v.ownBlock=some b∨w.heap.size≤b)∧Dw.Mv (fwK x v M) w w'∧
   zbt N g tab (f+1) at0 size k seen s=zbt N g tab f at0 size k' (k::seen) s'∧0≤k'∧k'<65536∧s'.n=s.n+1∧k∉seen∧k<size
 | ex=>ex= .ret∧a'.defers= []∧ ∃v',WW w' P L Bs B N g b2 x table v' (zbt N g tab (f+1) at0 size k seen s)∧(∀b,v'.ownBlock=some b→v.ownBlock=some b∨w.heap.size≤b)∧Dw.Mv (fwK x v M) w w'
section
variable {w:World} {a:Act} {P L Bs B N:Nat} {g:Nat→Int} {b2:Nat} {x:Tryz.V6} {table:Bool} {v:Value} {s:Tryz.WS} {M:Nat} {at0 size k:Int} {inner:Bool} {seen:List Int} {f:Nat} {tab:Int→Int→Int→Tryz.WS→Tryz.WS}
theorem Tryz.zc0 {a':Act} {w':World} {v':Value} {s':WS} (hdf:a'.defers= []) (hs:zbt N g tab (f+1) at0 size k seen s=s') (h1:WW w' P L Bs B N g b2 x table v' s') (h2: ∀b,v'.ownBlock=some b→v.ownBlock=some b∨w.heap.size≤b) (h3:Dw.Mv (fwK x v M) w w'):
  fwQ w P L Bs B N g b2 x table v M at0 size k inner seen f tab s .ret a' w':=⟨rfl,hdf,v',hs▸h1,h2,h3⟩
set_option maxRecDepth 10000 in
theorem Tryz.zBJ {ρ:Val} {aa:Nat} {Nx rerr:Int} {R3:WS} (h:FwI w a P L Bs B N g b2 x table v s M at0 size k false seen)
  (hd:zk9 ρ P at0 size k s.e s.n (zai g aa 8) (zai g (aa+8) 4) (zai g (aa+12) 2) Nx (entN N (zai g aa 8) (zai g (aa+8) 4)).1 (entN N (zai g aa 8) (zai g (aa+8) 4)).2 rerr R3.e R3.n false table v)
  (hR3:zbt N g znE ((entN N (zai g aa 8) (zai g (aa+8) 4)).1.toNat+1) (zai g aa 8) (entN N (zai g aa 8) (zai g (aa+8) 4)).1 0 [] ⟨s.segs,s.n+1,0⟩=R3)
  (hx:(entN N (zai g aa 8) (zai g (aa+8) 4)).2=0) (bA:0≤zai g aa 8∧zai g aa 8<18446744073709551616) (hn:s.n≤100000) (hwn:IntKind.wrap .i64 (s.n+1)=s.n+1) (hinn:zhk P L Bs B N g b2 table):
  zLi prog ρ w (fwK x v M) (fwG P L Bs B N g b2 w.heap.size v s.segs aa R3.segs) innerW:=by
 refine ⟨Dw.enters_of (by kernel_rfl),fun j w1 vals F n hv hnone hb hF hsz hrows hne hf=> ?_⟩
 have hb:n=10:=hb (by decide)
 subst hb
 obtain ⟨⟨f1,f2,f3,f4,hm⟩,⟨f5,f6⟩,_⟩:=hf
 have hcnt:1≤(entN N (zai g aa 8) (zai g (aa+8) 4)).1∧(entN N (zai g aa 8) (zai g (aa+8) 4)).1≤64:=by
  unfold entN at hx ⊢
  by_cases h1:zai g (aa+8) 4=0∨ ¬zai g (aa+8) 4%16=0∨64<zai g (aa+8) 4/16
  ·rw [if_pos h1] at hx;cases hx
  ·rw [if_neg h1] at hx ⊢
   by_cases h2:zai g aa 8+zai g (aa+8) 4≤N
   ·rw [if_pos h2]
    have:=(zb2 g h.ww.mem.byte (aa+8) 4).1
    show 1≤zai g (aa+8) 4/16∧zai g (aa+8) 4/16≤64
    omega
   ·rw [if_neg h2] at hx;cases hx
 obtain ⟨L1,vs1,j1,o1,K1,F1,r1,w1'⟩:=hrows (1,[.int .i64 (.var 15)],[.int .i64 (.var 20)]) (by simp [innerW])
 obtain ⟨L2,vs2,j2,o2,K2,F2,r2,w2'⟩:=hrows (2,[.cst 0 none],[.cst 0 none]) (by simp [innerW])
 obtain ⟨L3,vs3,j3,o3,K3,F3,r3,w3'⟩:=hrows (3,[.int .i64 (.bin .add .i64 (lnv 4) (.lit 1))],[.int .i64 (.var 21)]) (by simp [innerW])
 obtain ⟨L4,vs4,j4,o4,K4,F4,r4,w4'⟩:=hrows (4,[.bool (.var 1)],[.bool (.var 1)]) (by simp [innerW])
 obtain ⟨L5,vs5,j5,o5,K5,F5,r5,w5'⟩:=hrows (5,[fwFn],[fwFn]) (by simp [innerW])
 obtain ⟨L6,vs6,j6,o6,K6,F6,r6,w6'⟩:=hrows (6,[.cst 1 none],[.opq 10 none]) (by simp [innerW])
 have j1:j 1=some L1:=j1
 have j2:j 2=some L2:=j2
 have j3:j 3=some L3:=j3
 have j4:j 4=some L4:=j4
 have j5:j 5=some L5:=j5
 have j6:j 6=some L6:=j6
 have lc1:=zag j1
 have lc2:=zag j2
 have lc3:=zag j3
 have lc4:=zag j4
 have lc5:=zag j5
 have lc6:=zag j6
 have w1':=zb3 w1' (by decide) r1
 have w2':=zb3 w2' (by decide) r2
 have w3':=zb3 w3' (by decide) r3
 have w4':=zb3 w4' (by decide) r4
 have w5':=zb3 w5' (by decide) r5
 have w6':=zb3 w6' (by decide) r6
 simp only [AV.valL,AV.val,fwFn,zm4,lc1,lc2,lc3,lc4,lc5,lc6,o1,o2,o3,o4,o5,o6,Nat.add_zero,hd.d_p,hd.d_v,zaM,hd.d_b1,zay,hd.d_x,hx,den_add,hd.d_n,zaf,hwn] at w1' w2' w3' w4' w5' w6'
 have hpair: ∀ {p q:Nat} {Lp Lq:Dw.Loc},p∈ [1,2,3,4,5,6]→q∈ [1,2,3,4,5,6]→p≠q→j p=some Lp→j q=some Lq→Lp.blk≠Lq.blk:=fun {p q Lp Lq} hp hq hpq h1 h2=>by
  have hin: ∀t∈ [1,2,3,4,5,6],∃r∈innerW.rows,r.1=t:=fun t ht=>by
   simp only [List.mem_cons,List.not_mem_nil,or_false] at ht
   rcases ht with rfl|rfl|rfl|rfl|rfl|rfl
   ·exact ⟨(1,[.int .i64 (.var 15)],[.int .i64 (.var 20)]),by simp [innerW],rfl⟩
   ·exact ⟨(2,[.cst 0 none],[.cst 0 none]),by simp [innerW],rfl⟩
   ·exact ⟨(3,[.int .i64 (.bin .add .i64 (lnv 4) (.lit 1))],[.int .i64 (.var 21)]),by simp [innerW],rfl⟩
   ·exact ⟨(4,[.bool (.var 1)],[.bool (.var 1)]),by simp [innerW],rfl⟩
   ·exact ⟨(5,[fwFn],[fwFn]),by simp [innerW],rfl⟩
   ·exact ⟨(6,[.cst 1 none],[.opq 10 none]),by simp [innerW],rfl⟩
  obtain ⟨r,hr,rfl⟩:=hin p hp
  obtain ⟨r',hr',rfl⟩:=hin q hq
  exact hne r hr r' hr' hpq Lp Lq h1 h2
 let x1:V6:=⟨L1.blk,L2.blk,L3.blk,L4.blk,L5.blk,L6.blk⟩
 have hx1F: ∀b∈x1.l,¬F b:=fun b hb=>by
  simp only [V6.l,x1,List.mem_cons,List.not_mem_nil,or_false] at hb
  rcases hb with rfl|rfl|rfl|rfl|rfl|rfl<;>assumption
 have hnd:x1.l.Nodup:=by
  simp only [V6.l,x1,List.nodup_cons,List.mem_cons,List.not_mem_nil,or_false,not_or,List.nodup_nil,and_true,not_false_eq_true]
  exact ⟨⟨hpair (by simp) (by simp) (by decide) j1 j2,hpair (by simp) (by simp) (by decide) j1 j3,hpair (by simp) (by simp) (by decide) j1 j4,hpair (by simp) (by simp) (by decide) j1 j5,hpair (by simp) (by simp) (by decide) j1 j6⟩,
   ⟨hpair (by simp) (by simp) (by decide) j2 j3,hpair (by simp) (by simp) (by decide) j2 j4,hpair (by simp) (by simp) (by decide) j2 j5,hpair (by simp) (by simp) (by decide) j2 j6⟩,
   ⟨hpair (by simp) (by simp) (by decide) j3 j4,hpair (by simp) (by simp) (by decide) j3 j5,hpair (by simp) (by simp) (by decide) j3 j6⟩,
   ⟨hpair (by simp) (by simp) (by decide) j4 j5,hpair (by simp) (by simp) (by decide) j4 j6⟩,hpair (by simp) (by simp) (by decide) j5 j6⟩
 have hww:WW w1 P L Bs B N g b2 x1 table v ⟨s.segs,s.n+1,0⟩:=
  ⟨hm,h.ww.lo,hnd,fun b hb=>⟨fun e=>hx1F b hb (e▸f1),fun e=>hx1F b hb (e▸f2),fun e=>hx1F b hb (e▸f3),fun e=>hx1F b hb (e▸f4)⟩,w1',w2',w3',w4',w5',w6',f5,fun b hb hbx=>hx1F b hbx (f6 b hb),h.ww.ok,Nat.le_trans h.ww.hb hsz,by have:=h.ww.n0;show 0≤s.n+1;omega⟩
 have hvals:vals=([.int .u64 (zai g aa 8),.int .i64 (entN N (zai g aa 8) (zai g (aa+8) 4)).1,.int .i64 0,.bool true]:List Value)++x1.caps:=by
  have hv:=RL_val (by decide) hv
  rw [hv]
  simp only [innerW,zm4,List.cons_append,List.nil_append,AV.valL,AV.val,hd.d_A,zay,hd.d_cnt,zaf,zbA,lc1,lc2,lc3,lc4,lc5,lc6,o1,o2,o3,o4,o5,o6,Nat.add_zero]
  rfl
 subst hvals
 refine Calls.mono (hinn x1 v ⟨s.segs,s.n+1,0⟩ w1 _ _ hww (by have:=h.nl;show (s.segs.length:Int)≤s.n+1;omega) bA.1 bA.2 hcnt.1 hcnt.2 (by show s.n+1≤150000;omega)) fun en w' hh=> ?_
 obtain ⟨rfl,v',hw',hvb,hmv⟩:=hh
 rw [hR3] at hw'
 have hvlt:=hw'.row.lt
 have hsub: ∀k' L',j k'=some L'→jq j 10 [v'] k'=some L':=fun k' L' e=>by
  unfold jq
  by_cases hk':10≤k'∧k'<10+1
  ·have:=hnone k' hk'.1
   rw [this] at e;cases e
  ·rw [if_neg (by simpa using hk')];exact e
 refine ⟨_,[v'],fun b=>F b∨v'.ownBlock=some b,rfl,rfl,zcz RL.nil,⟨⟨.inl f1,.inl f2,.inl f3,.inl f4,hw'.mem⟩,v',zbo,⟨hw'.row,fun b hb=> .inr hb⟩,fun b hb=> ?_⟩,?_,fun r hr Lr hLr=> ?_,hmv.mono fun b hb=> ?_⟩
 ·rcases hvb b hb with h'|h'
  ·exact .inl h'
  ·exact .inr (Nat.le_trans hsz h')
 ·rintro b (hb|hb)
  ·exact ⟨Nat.lt_of_lt_of_le (hF b hb) hmv.size,.inl hb⟩
  ·refine ⟨(hvlt b hb).2.1,?_⟩
   rcases hvb b hb with h'|h'
   ·exact .inl (f6 b h')
   ·exact .inr h'
 ·simp only [innerW,List.mem_cons,List.not_mem_nil,or_false] at hr
  rcases hr with rfl|rfl|rfl|rfl|rfl|rfl
  ·have:=j1.symm.trans hLr;cases this
   exact ⟨_,zab (zac hd.d_e3) RL.nil,hw'.oE⟩
  ·have:=j2.symm.trans hLr;cases this
   exact ⟨_,zab (za5 hd.d_p rfl) RL.nil,hw'.oM⟩
  ·have:=j3.symm.trans hLr;cases this
   exact ⟨_,zab (zac hd.d_n3) RL.nil,hw'.oN⟩
  ·have:=j4.symm.trans hLr;cases this
   exact ⟨_,zab (zaO hd.d_b1) RL.nil,hw'.oT⟩
  ·have:=j5.symm.trans hLr;cases this
   refine ⟨_,zab (zbX RL.nil ?_) RL.nil,hw'.oF⟩
   have e: ∀(Lx:Dw.Loc),Lx.off=0→(Value.pointer (some ⟨Lx.blk,Lx.off+0,none⟩))=vp Lx.blk:=fun Lx hx=>by rw [hx];rfl
   exact zab ⟨L1,hsub _ _ j1,(e L1 o1).symm⟩ (zab ⟨L2,hsub _ _ j2,(e L2 o2).symm⟩ (zab ⟨L3,hsub _ _ j3,(e L3 o3).symm⟩ (zab ⟨L4,hsub _ _ j4,(e L4 o4).symm⟩ (zab ⟨L5,hsub _ _ j5,(e L5 o5).symm⟩ (zab ⟨L6,hsub _ _ j6,(e L6 o6).symm⟩ RL.nil)))))
  ·have:=j6.symm.trans hLr;cases this
   refine ⟨_,zab ⟨⟨⟨0,0,0,some v'⟩,?_,rfl⟩,hw'.row.one,fun _ h=>by cases h⟩ RL.nil,hw'.oL⟩
   show jq j 10 _ 10=_
   unfold jq
   rw [if_pos ⟨Nat.le_refl _,by simp⟩]
   simp
 ·rcases hb with hb|hb
  ·right
   simp only [V6.l,x1,List.mem_cons,List.not_mem_nil,or_false] at hb
   rcases hb with rfl|rfl|rfl|rfl|rfl|rfl
   ·exact ⟨(1,[.int .i64 (.var 15)],[.int .i64 (.var 20)]),by simp [innerW],L1,j1,rfl⟩
   ·exact ⟨(2,[.cst 0 none],[.cst 0 none]),by simp [innerW],L2,j2,rfl⟩
   ·exact ⟨(3,[.int .i64 (.bin .add .i64 (lnv 4) (.lit 1))],[.int .i64 (.var 21)]),by simp [innerW],L3,j3,rfl⟩
   ·exact ⟨(4,[.bool (.var 1)],[.bool (.var 1)]),by simp [innerW],L4,j4,rfl⟩
   ·exact ⟨(5,[fwFn],[fwFn]),by simp [innerW],L5,j5,rfl⟩
   ·exact ⟨(6,[.cst 1 none],[.opq 10 none]),by simp [innerW],L6,j6,rfl⟩
  ·exact .inl ⟨f6 b hb,.inr (.inl (.inr hb))⟩
theorem Tryz.zcA {ρ:Val} {j:J} {n:Nat} {u:Value} (hu:opqs j n=some u):(AV.opq n none).val ρ (lcOf j)=u:=by
 unfold opqs at hu
 show (lcOf j n).q.getD undef=u
 unfold lcOf
 cases hj:j n with
 | none=>rw [hj] at hu;cases hu
 | some Lq=>
  rw [hj] at hu
  have hu:Lq.q=some u:=hu
  show Lq.q.getD undef=u
  rw [hu];rfl
def Tryz.WS.good (s:WS):Prop:=(∀y∈s.segs,y.ok)∧0≤s.n
theorem Tryz.zhd {N:Nat} {g:Nat→Int} (hg: ∀j,0≤g j∧g j<256) {tab:Int→Int→Int→WS→WS} (ht: ∀A Ln F s,WS.good s→WS.good (tab A Ln F s)): ∀ {f:Nat} {at0 size k:Int} {seen:List Int} {s:WS},WS.good s→WS.good (zbt N g tab f at0 size k seen s)
 | 0,_,_,_,_,s,h=>h
 | f+1,at0,size,k,seen,s,h=>by
  have hs2:WS.good ⟨s.segs++ [zex g ((at0+16*k)%18446744073709551616).toNat],s.n+1,s.e⟩:=⟨fun y hy=>by
   rcases List.mem_append.1 hy with hy|hy
   ·exact h.1 y hy
   ·rw [List.mem_singleton] at hy;subst hy;exact zvQ hg _,by have:=h.2;show 0≤s.n+1;omega⟩
  rw [zbt]
  split
  ·exact h
  ·split
   ·exact h
   ·split
    ·exact ht _ _ _ _ ⟨h.1,by have:=h.2;show 0≤s.n+1;omega⟩
    ·split
     ·exact hs2
     ·exact zhd hg ht hs2
set_option maxRecDepth 10000 in
theorem Tryz.zFd (h:FwI w a P L Bs B N g b2 x table v s M at0 size k inner seen) (hN:N≤1048576) (hN1:1≤N) (hat:0≤at0∧at0<18446744073709551616) (hsize:1≤size∧size≤32768) (hk:0≤k∧k<65536) (hn:s.n≤200000)
  (htab:(inner=true∧tab=znE)∨(inner=false∧tab=zcR N g table∧s.n≤100000∧zhk P L Bs B N g b2 table)):
  (zaI prog [0,0,1,159]).wp prog (fwQ w P L Bs B N g b2 x table v M at0 size k inner seen f tab s) a w:=by
 have hg:=h.ww.mem.byte
 have hn0:=h.ww.n0
 have hvold: ∀b,v.ownBlock=some b→v.ownBlock=some b∨w.heap.size≤b:=fun b hb=> .inl hb
 by_cases hs:k∈seen
 ·obtain ⟨ρ,hd⟩:=zeg (P:=P) (e:=s.e) (A:=0) (Ln:=0) (F:=0) (Nx:=0) (cnt:=0) (x:=0) (rerr:=0) (e3:=0) (n3:=0) (inner:=inner) (table:=table) (v:=v) hat hsize hk ⟨hn0,by omega⟩ (by omega) (by omega) (by omega) (by omega)
  refine wp_mono (zax (ρ:=ρ) (K:=fwK x v M) (g:=fwG P L Bs B N g b2 w.heap.size v s.segs 0 []) (bl:=fwBl x M) mixed zyd zB2 h.kold
   (zkx h hd (o:=some (.bool (.lit true))) (ov:=some (.bool true)) ⟨_,rfl,zaO rfl⟩ (by rw [if_pos hs])) (zbR h.nd) (fw_G h) trivial trivial trivial h.tsize h.dfr (zee h hd) (zad.2 trivial)) fun ex a' w' hh=> ?_
  obtain ⟨q,hq,hto,lf,hlf,rfl,hsz,j,hdf,he⟩:=hh
  have hmv:=he.mv
  unfold zrH at hq
  simp only [List.mem_cons,List.not_mem_nil,or_false] at hq
  subst hq
  cases hlf
  obtain ⟨Fs,_,⟨_,_,_,_,hm'⟩,hf'⟩:=he.gho
  exact zc0 hdf (s':= { s with e:=4 }) (by rw [zbt,if_pos (.inl hs)]) (zcZ h hd he (e':= .lit 4) (n':=lnv 4) (lv:= .cst 1 none) rfl hd.d_v rfl hd.d_n hm' hf'.1 hvold h.ww.ok hn0) hvold hmv
 by_cases hout:size≤k
 ·obtain ⟨ρ,hd⟩:=zeg (P:=P) (e:=s.e) (A:=0) (Ln:=0) (F:=0) (Nx:=0) (cnt:=0) (x:=0) (rerr:=0) (e3:=0) (n3:=0) (inner:=inner) (table:=table) (v:=v) hat hsize hk ⟨hn0,by omega⟩ (by omega) (by omega) (by omega) (by omega)
  refine wp_mono (zax (ρ:=ρ) (K:=fwK x v M) (g:=fwG P L Bs B N g b2 w.heap.size v s.segs 0 []) (bl:=fwBl x M) mixed zB3 zFg h.kold
   (zkx h hd (o:=none) (ov:=none) rfl (by rw [if_neg hs])) (zbR h.nd) (fw_G h) trivial trivial trivial h.tsize h.dfr (zee h hd) (zaa.2 ⟨by rw [zcH,hd.d_k,hd.d_size];simpa using hout,zad.2 trivial⟩)) fun ex a' w' hh=> ?_
  obtain ⟨q,hq,hto,lf,hlf,rfl,hsz,j,hdf,he⟩:=hh
  have hmv:=he.mv
  unfold zwd at hq
  simp only [List.mem_cons,List.not_mem_nil,or_false] at hq
  subst hq
  cases hlf
  obtain ⟨Fs,_,⟨_,_,_,_,hm'⟩,hf'⟩:=he.gho
  exact zc0 hdf (s':= { s with e:=4 }) (by rw [zbt,if_pos (.inr hout)]) (zcZ h hd he (e':= .lit 4) (n':=lnv 4) (lv:= .cst 1 none) rfl hd.d_v rfl hd.d_n hm' hf'.1 hvold h.ww.ok hn0) hvold hmv
 have hno: ¬(k∈seen∨size≤k):=fun hh=>hh.elim hs hout
 by_cases hin:(at0+16*k)%18446744073709551616+16≤N
 case neg=>
  obtain ⟨ρ,hd⟩:=zeg (P:=P) (e:=s.e) (A:=0) (Ln:=0) (F:=0) (Nx:=0) (cnt:=0) (x:=0) (rerr:=5) (e3:=0) (n3:=0) (inner:=inner) (table:=table) (v:=v) hat hsize hk ⟨hn0,by omega⟩ (by omega) (by omega) (by omega) (by omega)
  refine wp_mono (zax (ρ:=ρ) (K:=fwK x v M) (g:=fwG P L Bs B N g b2 w.heap.size v s.segs 0 []) (bl:=fwBl x M) mixed zB7 zFi h.kold
   (zkx h hd (o:=none) (ov:=none) rfl (by rw [if_neg hs])) (zbR h.nd) (fw_G h) ⟨zxI hd hk hN hN1 hin,trivial⟩ trivial trivial h.tsize h.dfr (zee h hd) (zaa.2 ⟨by rw [zcH,hd.d_k,hd.d_size];simpa using hout,zaa.2 ⟨by rw [zbs,zay,hd.d_rerr];rfl,zad.2 trivial⟩⟩)) fun ex a' w' hh=> ?_
  obtain ⟨q,hq,hto,lf,hlf,rfl,hsz,j,hdf,he⟩:=hh
  have hmv:=he.mv
  unfold zwh at hq
  simp only [List.mem_cons,List.not_mem_nil,or_false] at hq
  subst hq
  cases hlf
  obtain ⟨Fs,_,⟨_,_,_,_,hm'⟩,hf'⟩:=he.gho
  exact zc0 hdf (s':= { s with e:=5 }) (by rw [zbt,if_neg hno,if_pos hin]) (zcZ h hd he (e':= .lit 5) (n':=lnv 4) (lv:= .cst 1 none) rfl hd.d_v rfl hd.d_n hm' hf'.1 hvold h.ww.ok hn0) hvold hmv
 case pos=>
 obtain ⟨aa,haa⟩: ∃aa:Nat,(at0+16*k)%18446744073709551616=aa:=⟨((at0+16*k)%18446744073709551616).toNat,by omega⟩
 have haN:aa+16≤N:=by omega
 have ht:((at0+16*k)%18446744073709551616).toNat=aa:=by omega
 have hch:zbt N g tab (f+1) at0 size k seen s=if zai g (aa+12) 2/4%2=1 then tab (zai g aa 8) (zai g (aa+8) 4) (zai g (aa+12) 2) { s with n:=s.n+1 }
   else if zai g (aa+12) 2%2=0 then ⟨s.segs++ [zex g aa],s.n+1,s.e⟩ else zbt N g tab f at0 size (zai g (aa+14) 2) (k::seen) ⟨s.segs++ [zex g aa],s.n+1,s.e⟩:=by
  rw [zbt,if_neg hno,if_neg (by rw [haa] at hin ⊢;exact fun hh=>hh (by omega)),ht]
 have bA:=zb2 g hg aa 8
 have bL:=zb2 g hg (aa+8) 4
 have bF:=zb2 g hg (aa+12) 2
 have bN:=zb2 g hg (aa+14) 2
 have hwn:IntKind.wrap .i64 (s.n+1)=s.n+1:=zdt (by omega) (by omega)
 have bA':0≤zai g aa 8∧zai g aa 8<18446744073709551616:=⟨bA.1,bA.2⟩
 have bL':0≤zai g (aa+8) 4∧zai g (aa+8) 4<4294967296:=⟨bL.1,bL.2⟩
 have bF':0≤zai g (aa+12) 2∧zai g (aa+12) 2<65536:=⟨bF.1,bF.2⟩
 have bN':0≤zai g (aa+14) 2∧zai g (aa+14) 2<65536:=⟨bN.1,bN.2⟩
 clear bA bL bF bN
 by_cases hT:zai g (aa+12) 2/4%2=1
 ·rw [if_pos hT] at hch
  rcases htab with ⟨rfl,rfl⟩|⟨rfl,rfl,hn',hinn⟩
  ·obtain ⟨ρ,hd⟩:=zeg (P:=P) (e:=s.e) (A:=zai g aa 8) (Ln:=zai g (aa+8) 4) (F:=zai g (aa+12) 2) (Nx:=zai g (aa+14) 2) (cnt:=0) (x:=0) (rerr:=0) (e3:=0) (n3:=0) (inner:=true) (table:=table) (v:=v) hat hsize hk ⟨hn0,by omega⟩ bA' bL' bF' bN'
   refine wp_mono (zax (ρ:=ρ) (K:=fwK x v M) (g:=fwG P L Bs B N g b2 w.heap.size v s.segs aa []) (bl:=fwBl x M) mixed zB5 zFh h.kold
    (zkx h hd (o:=none) (ov:=none) rfl (by rw [if_neg hs])) (zbR h.nd) (fw_G h) ⟨zfh hd hk haa hN haN,ziP hd hg,trivial⟩ trivial trivial h.tsize h.dfr (zee h hd) (zaa.2 ⟨by rw [zcH,hd.d_k,hd.d_size];simpa using hout,zaa.2 ⟨by rw [zbs,zay,hd.d_rerr];rfl,zaa.2 ⟨by rw [zbs,hd.d_F2,hT];rfl,zaa.2 ⟨by rw [zaM,hd.d_b0],zad.2 trivial⟩⟩⟩⟩)) fun ex a' w' hh=> ?_
   obtain ⟨q,hq,hto,lf,hlf,rfl,hsz,j,hdf,he⟩:=hh
   have hmv:=he.mv
   unfold zwf at hq
   simp only [List.mem_cons,List.not_mem_nil,or_false] at hq
   subst hq
   cases hlf
   obtain ⟨Fs,_,⟨_,_,_,_,hm'⟩,hf',_⟩:=he.gho
   exact zc0 hdf (s':=⟨s.segs,s.n+1,4⟩) (by rw [hch];rfl) (zcZ h hd he (e':= .lit 4) (n':= .bin .add .i64 (lnv 4) (.lit 1)) (lv:= .cst 1 none) rfl hd.d_v rfl (by rw [den_add,hd.d_n,zaf,hwn]) hm' hf'.1 hvold h.ww.ok (by show 0≤s.n+1;omega)) hvold hmv
  ·by_cases hx:(entN N (zai g aa 8) (zai g (aa+8) 4)).2=0
   ·obtain ⟨R3,hR3⟩: ∃R3,zbt N g znE ((entN N (zai g aa 8) (zai g (aa+8) 4)).1.toNat+1) (zai g aa 8) (entN N (zai g aa 8) (zai g (aa+8) 4)).1 0 [] ⟨s.segs,s.n+1,0⟩=R3:=⟨_,rfl⟩
    obtain ⟨ρ,hd⟩:=zeg (P:=P) (e:=s.e) (A:=zai g aa 8) (Ln:=zai g (aa+8) 4) (F:=zai g (aa+12) 2) (Nx:=zai g (aa+14) 2) (cnt:=(entN N (zai g aa 8) (zai g (aa+8) 4)).1) (x:=(entN N (zai g aa 8) (zai g (aa+8) 4)).2) (rerr:=0) (e3:=R3.e) (n3:=R3.n) (inner:=false) (table:=table) (v:=v) hat hsize hk ⟨hn0,by omega⟩ bA' bL' bF' bN'
    refine wp_mono (zxQ (ρ:=ρ) (K:=fwK x v M) (g:=fwG P L Bs B N g b2 w.heap.size v s.segs aa R3.segs) (bl:=fwBl x M) mixed zBX zFe h.kold
     (zkx h hd (o:=none) (ov:=none) rfl (by rw [if_neg hs])) (zbR h.nd) (fw_G h) ⟨zfh hd hk haa hN haN,ziP hd hg,zkU hd hN hN1 bA' bL',trivial⟩ ⟨zBJ h hd hR3 hx bA' hn' hwn hinn,trivial⟩ trivial trivial h.tsize h.dfr (zee h hd) (zaa.2 ⟨by rw [zcH,hd.d_k,hd.d_size];simpa using hout,zaa.2 ⟨by rw [zbs,zay,hd.d_rerr];rfl,zaa.2 ⟨by rw [zbs,hd.d_F2,hT];rfl,zaa.2 ⟨by rw [zaM,hd.d_b0],zaa.2 ⟨by rw [zbW,zay,hd.d_x,hx];rfl,zad.2 trivial⟩⟩⟩⟩⟩)) fun ex a' w' hh=> ?_
    obtain ⟨q,hq,hto,lf,hlf,rfl,hsz,j,hdf,he⟩:=hh
    have hmv:=he.mv
    unfold zv9 at hq
    simp only [List.mem_cons,List.not_mem_nil,or_false] at hq
    rcases hq with rfl|rfl|rfl
    all_goals
     simp only [zaa,zad,zbW,zbs,zaM,hd.d_b1,hd.d_F0,zay,hd.d_x,zaf,and_true,beq_iff_eq,bne_iff_ne,beq_eq_false_iff_ne,bne_eq_false_iff_eq,ne_eq] at hto
     cases hlf
     obtain ⟨Fs,_,⟨_,_,_,_,hm'⟩,hf'⟩:=he.gho
    ·exact zc0 hdf (s':=⟨s.segs,s.n+1,4⟩) (by rw [hch,zcR,if_pos (.inl hto)]) (zcZ h hd he (e':= .lit 4) (n':= .bin .add .i64 (lnv 4) (.lit 1)) (lv:= .cst 1 none) rfl hd.d_v rfl (by rw [den_add,hd.d_n,zaf,hwn]) hm' hf'.1.1 hvold h.ww.ok (by show 0≤s.n+1;omega)) hvold hmv
    ·exact zc0 hdf (s':=⟨s.segs,s.n+1,4⟩) (by rw [hch,zcR,if_pos (.inr hto.2)]) (zcZ h hd he (e':= .lit 4) (n':= .bin .add .i64 (lnv 4) (.lit 1)) (lv:= .cst 1 none) rfl hd.d_v rfl (by rw [den_add,hd.d_n,zaf,hwn]) hm' hf'.1.1 hvold h.ww.ok (by show 0≤s.n+1;omega)) hvold hmv
    ·obtain ⟨u,hu,hf',hub⟩:=hf'
     have hval:(AV.opq 10 none).val ρ (lcOf j)=u:=zcA hu
     have hs3:zbt N g (zcR N g table) (f+1) at0 size k seen s=R3:=by
      rw [hch,zcR,if_neg (by rintro (h1|h1);exact absurd (h1.symm.trans hto.1) (by decide);exact h1 hto.2),if_pos hx];exact hR3
     have hok3:=zhd hg (f:=(entN N (zai g aa 8) (zai g (aa+8) 4)).1.toNat+1) (at0:=zai g aa 8) (size:=(entN N (zai g aa 8) (zai g (aa+8) 4)).1) (k:=0) (seen:= []) (N:=N) (tab:=znE) (s:=⟨s.segs,s.n+1,0⟩) (fun _ _ _ s h=>h) ⟨h.ww.ok,by show 0≤s.n+1;omega⟩
     rw [hR3] at hok3
     exact zc0 hdf hs3 (zcZ h hd he (e':= .var 20) (n':= .var 21) (lv:= .opq 10 none) rfl hval hd.d_e3 hd.d_n3 hm' hf'.1 hub hok3.1 hok3.2) hub hmv
   ·obtain ⟨ρ,hd⟩:=zeg (P:=P) (e:=s.e) (A:=zai g aa 8) (Ln:=zai g (aa+8) 4) (F:=zai g (aa+12) 2) (Nx:=zai g (aa+14) 2) (cnt:=(entN N (zai g aa 8) (zai g (aa+8) 4)).1) (x:=(entN N (zai g aa 8) (zai g (aa+8) 4)).2) (rerr:=0) (e3:=0) (n3:=0) (inner:=false) (table:=table) (v:=v) hat hsize hk ⟨hn0,by omega⟩ bA' bL' bF' bN'
    refine wp_mono (zax (ρ:=ρ) (K:=fwK x v M) (g:=fwG P L Bs B N g b2 w.heap.size v s.segs aa []) (bl:=fwBl x M) mixed zyb zBZ h.kold
     (zkx h hd (o:=none) (ov:=none) rfl (by rw [if_neg hs])) (zbR h.nd) (fw_G h) ⟨zfh hd hk haa hN haN,ziP hd hg,zkU hd hN hN1 bA' bL',trivial⟩ trivial trivial h.tsize h.dfr (zee h hd) (zaa.2 ⟨by rw [zcH,hd.d_k,hd.d_size];simpa using hout,zaa.2 ⟨by rw [zbs,zay,hd.d_rerr];rfl,zaa.2 ⟨by rw [zbs,hd.d_F2,hT];rfl,zaa.2 ⟨by rw [zaM,hd.d_b0],zaa.2 ⟨by rw [zbW,zay,hd.d_x,zaf];simpa using hx,zad.2 trivial⟩⟩⟩⟩⟩)) fun ex a' w' hh=> ?_
    obtain ⟨q,hq,hto,lf,hlf,rfl,hsz,j,hdf,he⟩:=hh
    have hmv:=he.mv
    unfold zrC at hq
    simp only [List.mem_cons,List.not_mem_nil,or_false] at hq
    rcases hq with rfl|rfl|rfl
    all_goals
     simp only [zaa,zad,zbW,zbs,zaM,hd.d_b1,hd.d_F0,zay,hd.d_x,zaf,and_true,beq_iff_eq,bne_iff_ne,beq_eq_false_iff_ne,bne_eq_false_iff_eq,ne_eq] at hto
     cases hlf
     obtain ⟨Fs,_,⟨_,_,_,_,hm'⟩,hf'⟩:=he.gho
    ·exact zc0 hdf (s':=⟨s.segs,s.n+1,4⟩) (by rw [hch,zcR,if_pos (.inl hto)]) (zcZ h hd he (e':= .lit 4) (n':= .bin .add .i64 (lnv 4) (.lit 1)) (lv:= .cst 1 none) rfl hd.d_v rfl (by rw [den_add,hd.d_n,zaf,hwn]) hm' hf'.1.1 hvold h.ww.ok (by show 0≤s.n+1;omega)) hvold hmv
    ·exact zc0 hdf (s':=⟨s.segs,s.n+1,4⟩) (by rw [hch,zcR,if_pos (.inr hto.2)]) (zcZ h hd he (e':= .lit 4) (n':= .bin .add .i64 (lnv 4) (.lit 1)) (lv:= .cst 1 none) rfl hd.d_v rfl (by rw [den_add,hd.d_n,zaf,hwn]) hm' hf'.1.1 hvold h.ww.ok (by show 0≤s.n+1;omega)) hvold hmv
    ·exact zc0 hdf (s':=⟨s.segs,s.n+1,(entN N (zai g aa 8) (zai g (aa+8) 4)).2⟩) (by rw [hch,zcR,if_neg (by rintro (h1|h1);exact absurd (h1.symm.trans hto.1) (by decide);exact h1 hto.2),if_neg hx]) (zcZ h hd he (e':= .var 15) (n':= .bin .add .i64 (lnv 4) (.lit 1)) (lv:= .cst 1 none) rfl hd.d_v hd.d_x (by rw [den_add,hd.d_n,zaf,hwn]) hm' hf'.1.1 hvold h.ww.ok (by show 0≤s.n+1;omega)) hvold hmv
 ·rw [if_neg hT] at hch
  have hT0:zai g (aa+12) 2/4%2=0:=by omega
  obtain ⟨ρ,hd⟩:=zeg (P:=P) (e:=s.e) (A:=zai g aa 8) (Ln:=zai g (aa+8) 4) (F:=zai g (aa+12) 2) (Nx:=zai g (aa+14) 2) (cnt:=0) (x:=0) (rerr:=0) (e3:=0) (n3:=0) (inner:=inner) (table:=table) (v:=v) hat hsize hk ⟨hn0,by omega⟩ bA' bL' bF' bN'
  refine wp_mono (zax (ρ:=ρ) (K:=fwK x v M) (g:=fwG P L Bs B N g b2 w.heap.size v s.segs aa []) (bl:=fwBl x M) mixed zB0 zFf h.kold
   (zkx h hd (o:=none) (ov:=none) rfl (by rw [if_neg hs])) (zbR h.nd) (fw_G h) ⟨zfh hd hk haa hN haN,ziP hd hg,trivial⟩ trivial ⟨zH4 hd h.ww.lo rfl h.ww.hb (fun b hb=> .inl (.inr hb)) (by have:=h.nl;omega),trivial⟩ h.tsize h.dfr (zee h hd) (zaa.2 ⟨by rw [zcH,hd.d_k,hd.d_size];simpa using hout,zaa.2 ⟨by rw [zbs,zay,hd.d_rerr];rfl,zaa.2 ⟨by rw [zbs,hd.d_F2,hT0];rfl,zad.2 trivial⟩⟩⟩)) fun ex a' w' hh=> ?_
  obtain ⟨q,hq,hto,lf,hlf,rfl,hsz,j,hdf,he⟩:=hh
  have hmv:=he.mv
  unfold zwb at hq
  simp only [List.mem_cons,List.not_mem_nil,or_false] at hq
  rcases hq with rfl|rfl
  all_goals
   simp only [zaa,zad,zbW,hd.d_F0,zaf,and_true,beq_iff_eq,beq_eq_false_iff_ne,ne_eq] at hto
   cases hlf
   obtain ⟨Fs,_,⟨_,_,_,_,hm'⟩,u,hu,hf',hub⟩:=he.gho
   have hval:(AV.opq 12 none).val ρ (lcOf j)=u:=zcA hu
   have hokS: ∀y∈s.segs++ [zex g aa],y.ok:=fun y hy=>by
    rcases List.mem_append.1 hy with hy|hy
    ·exact h.ww.ok y hy
    ·rw [List.mem_singleton] at hy;subst hy;exact zvQ hg aa
   have hpost:=zcZ (s':=⟨s.segs++ [zex g aa],s.n+1,s.e⟩) h hd he (e':= .var 3) (n':= .bin .add .i64 (lnv 4) (.lit 1)) (lv:= .opq 12 none) rfl hval hd.d_e (by rw [den_add,hd.d_n,zaf,hwn]) hm' hf'.1 hub hokS (by show 0≤s.n+1;omega)
  ·rw [if_pos hto] at hch
   exact zc0 hdf hch hpost hub hmv
  ·rw [if_neg hto] at hch
   have hsl:=zaE he.ret
   have hj: ∀i L,jOf (fwBl x M) i=some L→j i=some L:=fun i L=>he.sub i L
   simp only [AV.valL,AV.val,zag (hj 1 _ rfl),zag (hj 2 _ rfl),zag (hj 3 _ rfl),zag (hj 4 _ rfl),zag (hj 5 _ rfl),zag (hj 6 _ rfl),zag (hj 7 _ rfl),hd.d_at0,hd.d_size,hd.d_Nx,zaM,hd.d_b0,List.map_cons,List.map_nil,List.cons.injEq,and_true] at hsl
   obtain ⟨q0,q1,q2,q3,q4,q5,q6,q7,q8,q9,q14⟩:=hsl
   refine ⟨u,⟨s.segs++ [zex g aa],s.n+1,s.e⟩,zai g (aa+14) 2,⟨hpost,by have:=h.nl;simp only [List.length_append,List.length_singleton];push_cast;omega,⟨h.mM.1,Nat.lt_of_lt_of_le h.mM.2.1 hmv.size,h.mM.2.2⟩,?_,hsz,hdf,q0,q1,q2,q3,q4,q5,q6,q7,q8,q9,q14⟩,hub,hmv,hch,bN'.1,bN'.2,rfl,hs,by omega⟩
   obtain ⟨arr,clock,arr0,clock0,m1,m2,m3,m4⟩:=zhB he.maps (.head _) _ (hj 7 _ rfl)
   obtain ⟨arr',clock',n1,n2,n3⟩:=h.map
   have m2:w.heap[M]? =some (.map arr0 clock0):=m2
   rw [n1] at m2
   cases m2
   refine ⟨arr,clock,m1,m3,fun n=> ?_⟩
   rw [m4 n]
   simp only [zgQ,AV.val,hd.d_k,Dw.intOf,Option.map_some,zbA,mlog]
   by_cases hnk:n=k
   ·subst hnk;simp
   ·rw [if_neg hnk,n3 n]
    simp [hnk]
end
end Go.Proofs
namespace Go.Proofs
open Go.Dw Go.RowKit Go.Maps Go.Sort
theorem Tryz.znX: ∀(n:Nat) (l:List Nat),l.Nodup→(∀y∈l,y<n)→l.length≤n
 | 0,l,_,h=>by
  cases l with
  | nil=>simp
  | cons y r=>have:=h y (by simp);omega
 | n+1,l,hd,h=>by
  by_cases hn:n∈l
  ·have h1:=znX n (l.erase n) (hd.erase n) fun y hy=>by
    have hy':=(List.Nodup.mem_erase_iff hd).1 hy
    have:=h y hy'.2
    have:=hy'.1
    omega
   rw [List.length_erase_of_mem hn] at h1
   omega
  ·have h1:=znX n l hd fun y hy=>by
    have:=h y hy
    have:y≠n:=fun e=>hn (e▸hy)
    omega
   omega
theorem Tryz.zDO {seen:List Int} {size:Int} (hd:seen.Nodup) (h: ∀y∈seen,0≤y∧y<size):seen.length≤size.toNat:=by
 have h1:=znX size.toNat (seen.map Int.toNat) ?_ fun y hy=>by
  obtain ⟨z,hz,rfl⟩:=List.mem_map.1 hy
  have:=h z hz
  omega
 ·simpa using h1
 ·unfold List.Nodup at hd ⊢
  rw [List.pairwise_map]
  refine hd.imp_of_mem fun {a b} ha hb hab e=>hab ?_
  have:=h a ha
  have:=h b hb
  omega
set_option maxRecDepth 100000 in
theorem Tryz.zm6 {w:World} {P L Bs B N:Nat} {g:Nat→Int} {b2:Nat} {x:V6} {table:Bool} {v:Value} {s:WS} {at0 size k:Int} {inner:Bool} {tab:Int→Int→Int→WS→WS}
  (h:WW w P L Bs B N g b2 x table v s) (hnl:(s.segs.length:Int)≤s.n) (hN:N≤1048576) (hN1:1≤N) (hat:0≤at0∧at0<18446744073709551616) (hsize:1≤size∧size≤32768) (hk:0≤k∧k<65536)
  (hn:s.n+size+1≤(if inner=true then 200000 else 90000))
  (htab:(inner=true∧tab=znE)∨(inner=false∧tab=zcR N g table∧zhk P L Bs B N g b2 table)):
  Calls prog 159 (([.int .u64 at0,.int .i64 size,.int .i64 k,.bool inner]:List Value)++x.caps).toArray w fun e w'=>e= .returned (.tuple #[])∧
   ∃ v',WW w' P L Bs B N g b2 x table v' (zbt N g tab (size.toNat+1) at0 size k [] s)∧(∀b,v'.ownBlock=some b→v.ownBlock=some b∨w.heap.size≤b)∧Dw.Mv (wK x v) w w':=by
 obtain ⟨RES,hRES⟩: ∃RES,zbt N g tab (size.toNat+1) at0 size k [] s=RES:=⟨_,rfl⟩
 rw [hRES]
 simp only [V6.caps,List.cons_append,List.nil_append]
 have hmk: ∀(t:TypeId) (w:World),(Instr.makeMap t none).run prog w= .ok (.map (some w.heap.size)) (w.alloc (.map #[] 0)):=fun _ _=>rfl
 have hW1:(w.alloc (.map #[] 0)).heap.size=w.heap.size+1:=World.size_alloc _ _
 have hW2:(w.alloc (.map #[] 0)).heap[w.heap.size]? =some (.map #[] 0):=by unfold World.alloc;exact Array.getElem?_push_size
 have hW3:RowKit.Below w.heap.size w (w.alloc (.map #[] 0)):=(Below.refl w.heap.size w).alloc (Nat.le_refl _) _
 have hkk: ∀b,b<w.heap.size→(w.alloc (.map #[] 0)).heap[b]? =w.heap[b]? :=fun b hb=>hW3.block b hb
 have hlt6:=h.lt6
 have k6: ∀b∈x.l,(w.alloc (.map #[] 0)).heap[b]? =w.heap[b]? :=fun b hb=>hkk b (hlt6 b hb)
 have hM:w.heap.size∉x.l:=fun hm=>by have:=hlt6 _ hm;omega
 have hww:WW (w.alloc (.map #[] 0)) P L Bs B N g b2 x table v s:=
  ⟨h.mem.below hW3,h.lo,h.nd,h.sep,h.oE.kept (k6 _ (by simp [V6.l])),h.oM.kept (k6 _ (by simp [V6.l])),h.oN.kept (k6 _ (by simp [V6.l])),h.oT.kept (k6 _ (by simp [V6.l])),h.oF.kept (k6 _ (by simp [V6.l])),h.oL.kept (k6 _ (by simp [V6.l])),
   h.row.kept fun b hb=>hkk b (h.row.lt b hb).2.1,h.vne,h.ok,Nat.le_trans h.hb (by omega),h.n0⟩
 go_enter func159,ntmps159
 go_wp2
 generalize w.alloc (.map #[] 0)=W at*
 refine zbH (c':= .loop (zaI prog [0,0,1,159])) (by kernel_rfl) ?_
 refine zbl (α:=Nat×Int×List Int×WS×Value) (fun st a w'=>FwI w' a P L Bs B N g b2 x table st.2.2.2.2 st.2.2.2.1 w.heap.size at0 size st.2.1 inner st.2.2.1∧st.1+st.2.2.1.length=size.toNat+1∧st.2.2.1.Nodup∧(∀y∈st.2.2.1,0≤y∧y<size)∧0≤st.2.1∧st.2.1<65536∧
   zbt N g tab st.1 at0 size st.2.1 st.2.2.1 st.2.2.2.1=RES∧(∀b,st.2.2.2.2.ownBlock=some b→v.ownBlock=some b∨w.heap.size≤b)∧Dw.Mv (wK x v) w w'∧st.2.2.2.1.n+st.1≤s.n+size+1)
  (fun st=>st.1) (fun st a w' hI=> ?_) (size.toNat+1,k,[],s,v) _ _ ?_
 ·obtain ⟨f,k',seen,s',v'⟩:=st
  obtain ⟨hI,hf,hnd,hsn,hk0,hk1,hres,hvb,hmv,hnb⟩:=hI
  simp only at hI hf hnd hsn hk0 hk1 hres hvb hmv hnb
  have hsl:=zDO hnd hsn
  obtain ⟨f',rfl⟩: ∃f',f=f'+1:=⟨f-1,by omega⟩
  refine wp_mono (zFd (f:=f') (tab:=tab) hI hN hN1 hat hsize ⟨hk0,hk1⟩ (by split at hn<;>omega) ?_) fun ex a2 w2 hh=> ?_
  ·rcases htab with ⟨h1,h2⟩|⟨h1,h2,h3⟩
   ·exact .inl ⟨h1,h2⟩
   ·refine .inr ⟨h1,h2,?_,h3⟩
    rw [h1] at hn
    simp only [Bool.false_eq_true,if_false] at hn
    omega
  ·have step: ∀ {v2:Value} {w2:World},(∀b,v2.ownBlock=some b→v'.ownBlock=some b∨w'.heap.size≤b)→Dw.Mv (fwK x v' w.heap.size) w' w2→(∀b,v2.ownBlock=some b→v.ownBlock=some b∨w.heap.size≤b)∧Dw.Mv (wK x v) w w2:=fun {v2 w2} h1 h2=>by
    refine ⟨fun b hb=> ?_,⟨h2.os.trans hmv.os,h2.tape.trans hmv.tape,h2.output.trans hmv.output,Nat.le_trans hmv.size h2.size,fun b hb hnb=> ?_⟩⟩
    ·rcases h1 b hb with h'|h'
     ·exact hvb b h'
     ·exact .inr (Nat.le_trans hmv.size h')
    ·refine (h2.block b (Nat.lt_of_lt_of_le hb hmv.size) ?_).trans (hmv.block b hb hnb)
     rintro ((hb'|hb')|rfl)
     ·exact hnb (.inl hb')
     ·rcases hvb b hb' with h'|h'
      ·exact hnb (.inr h')
      ·omega
     ·omega
   cases ex with
   | normal=>
    obtain ⟨v2,s2,k2,hI2,hv2,hmv2,hch,hk20,hk21,hsn2,hks,hklt⟩:=hh
    obtain ⟨q1,q2⟩:=step hv2 hmv2
    refine ⟨(f',k2,k'::seen,s2,v2),Nat.lt_succ_self _,hI2,?_,List.nodup_cons.2 ⟨hks,hnd⟩,fun y hy=> ?_,hk20,hk21,hch.symm.trans hres,q1,q2,?_⟩
    ·simp only [List.length_cons];omega
    ·rcases List.mem_cons.1 hy with rfl|hy
     ·exact ⟨hk0,hklt⟩
     ·exact hsn y hy
    ·show s2.n+f'≤_
     rw [hsn2];push_cast at hnb;omega
   | ret=>
    obtain ⟨_,hdf2,v2,hw2,hv2,hmv2⟩:=hh
    obtain ⟨q1,q2⟩:=step hv2 hmv2
    rw [hres] at hw2
    simp only [Exit.inBlock,Exit.then]
    refine ⟨hdf2,.tuple #[],?_,rfl,v2,hw2,q1,q2⟩
    simp [results,results159,go_sem]
   | _=>exact absurd hh.1 (by simp)
 ·refine ⟨⟨hww,hnl,⟨h.hb,by omega,hM⟩,⟨#[],0,hW2,⟨⟨fun e he=>(by simp at he),List.Pairwise.nil⟩,⟨fun e he=>(by simp at he),by simp⟩⟩,fun n=>rfl⟩,rfl,rfl,rfl,rfl,rfl,rfl,rfl,rfl,rfl,rfl,rfl,rfl,rfl⟩,by simp,List.nodup_nil,fun y hy=>(by cases hy),hk.1,hk.2,hRES,fun b hb=> .inl hb,Dw.Mv.of_below hW3,?_⟩
  show s.n+((size.toNat+1:Nat):Int)≤_
  omega
end Go.Proofs
namespace Go.Proofs
open Go.Dw Go.RowKit
theorem Tryz.zx9 (P L Bs B N:Nat) (g:Nat→Int) (b2:Nat) (table:Bool) (hN:N≤1048576) (hN1:1≤N):zhk P L Bs B N g b2 table:=fun x v s w A cnt h hnl a0 a1 c0 c1 hn=>
 zm6 h hnl hN hN1 ⟨a0,a1⟩ ⟨c0,by omega⟩ ⟨Int.le_refl _,by decide⟩ (by simp;omega) (.inl ⟨rfl,rfl⟩)
theorem Tryz.zFl {N:Nat} {A n:Int} (hn:0≤n):0≤(entN N A n).1∧(entN N A n).1≤64:=by
 unfold entN
 split
 ·decide
 ·split
  ·show 0≤n/16∧n/16≤64;omega
  ·decide
theorem Tryz.zhJ {N:Nat} {g:Nat→Int} {tab:Int→Int→Int→WS→WS} {c:Nat} (ht: ∀A Ln F s,0≤Ln→(tab A Ln F s).segs.length≤s.segs.length+c) (hg: ∀j,0≤g j∧g j<256): ∀ {f:Nat} {at0 size k:Int} {seen:List Int} {s:WS},(zbt N g tab f at0 size k seen s).segs.length≤s.segs.length+f+c
 | 0,_,_,_,_,s=>by rw [zbt];omega
 | f+1,at0,size,k,seen,s=>by
  rw [zbt]
  split
  ·show s.segs.length≤_;omega
  ·split
   ·show s.segs.length≤_;omega
   ·split
    ·refine Nat.le_trans (ht _ _ _ _ (zb2 g hg _ 4).1) ?_
     show s.segs.length+c≤_;omega
    ·split
     ·show (s.segs++ [_]).length≤_;simp;omega
     ·refine Nat.le_trans (zhJ ht hg) ?_
      show (s.segs++ [_]).length+f+c≤_
      simp;omega
theorem Tryz.zw9 {N:Nat} {g:Nat→Int} {table:Bool} (hg: ∀j,0≤g j∧g j<256) (A Ln F:Int) (s:WS) (hL:0≤Ln):(zcR N g table A Ln F s).segs.length≤s.segs.length+65:=by
 unfold zcR
 have:=zFl (N:=N) (A:=A) hL
 split
 ·show s.segs.length≤_;omega
 ·split
  ·refine Nat.le_trans (zhJ (tab:=znE) (c:=0) (fun _ _ _ _ _=>Nat.le_refl _) hg) ?_
   show s.segs.length+_+0≤_
   omega
  ·show s.segs.length≤_;omega
theorem Tryz.zsy {N:Nat} {g:Nat→Int} {table:Bool} (hg: ∀j,0≤g j∧g j<256) (A Ln F:Int) (s:WS) (h:WS.good s):WS.good (zcR N g table A Ln F s):=by
 unfold zcR
 split
 ·exact h
 ·split
  ·exact zhd (tab:=znE) hg (fun _ _ _ _ h=>h) h
  ·exact h
def Tryz.zdc (N:Nat) (g:Nat→Int) (r:Rg) (head:Int) (table:Bool):WS:=zbt N g (zcR N g table) (r.n.toNat+1) r.d r.n head [] ⟨[],0,0⟩
theorem Tryz.zlV {N:Nat} {g:Nat→Int} {r:Rg} {head:Int} {table:Bool} (hg: ∀j,0≤g j∧g j<256) (hr:RgOk r):(zdc N g r head table).segs.length≤40000:=by
 have:=hr.bnd
 refine Nat.le_trans (zhJ (zw9 hg) hg) ?_
 show ([]:List Sg).length+_+65≤_
 simp;omega
theorem Tryz.zjq {N:Nat} {g:Nat→Int} {r:Rg} {head:Int} {table:Bool} (hg: ∀j,0≤g j∧g j<256):WS.good (zdc N g r head table):=
 zhd hg (zsy hg) ⟨fun y hy=>(by cases hy),Int.le_refl _⟩
def Tryz.zbg (N:Nat) (g:Nat→Int) (r:Rg) (head:Int) (table:Bool):List Sg×Int:=
 if (zdc N g r head table).e=0 then (if zf2 N (zdc N g r head table).segs=0 then ((zdc N g r head table).segs,0) else ([],zf2 N (zdc N g r head table).segs)) else ([],(zdc N g r head table).e)
def Tryz.spG (P L Bs B N:Nat) (g:Nat→Int) (b2:Nat) (l:List Sg):Gho where
 fact k q F w:=(F P∧F L∧F Bs∧F B∧GM w P L Bs B N g)∧(match k with|0=>True|_=> ∃u,q 8=some u∧fwOwn b2 u l F w)
 loc:=fun k q q' F w w' h hq hb hs=>by
  obtain ⟨⟨h1,h2,h3,h4,h5⟩,h6⟩:=h
  refine ⟨⟨h1,h2,h3,h4,h5.kept (fun b _ hb'=>by rcases hb' with rfl|rfl|rfl|rfl<;>exact hb _ (by assumption)) hs⟩,?_⟩
  match k,h6 with
  | 0,_=>trivial
  | k+1,⟨u,h7,h8⟩=>exact ⟨u,hq _ _ h7,fwOwn.kept h8 hb⟩
def Tryz.zeH (r:Rg) (head n e e2:Int) (table:Bool) (p:Value):Val:=rho r [0,0,0,head,0,0,0,0,0,0,0,0,0,0,0,0,e,n,e2] [false,table] [p]
set_option maxRecDepth 10000 in
theorem Tryz.zzD {w:World} {P L Bs B N:Nat} {g:Nat→Int} {r:Rg} {head:Int} {table:Bool} (hm:GM w P L Bs B N g) (hN:N≤1048576) (hN1:1≤N) (hr:RgOk r) (hh:0≤head∧head<65536):
  Calls prog 148 #[vp P,r.val,.int .i64 head,.bool table] w fun e w'=> ∃u,e= .returned (.tuple #[u,.int .i64 (zdc N g r head table).n,.int .i64 (zdc N g r head table).e])∧
   OwnSeg w' w.heap.size u (zdc N g r head table).segs∧Below w.heap.size w w':=by
 obtain ⟨RES,hRES⟩: ∃RES,zdc N g r head table=RES:=⟨_,rfl⟩
 rw [hRES]
 have hbd:=hr.bnd
 have hR: ∀j,Dw.R (zeH r head RES.n RES.e 0 table (vp P)) j rg r.val:=fun j=>R_rg hr
 have dn:(szv 0).den (zeH r head RES.n RES.e 0 table (vp P))=r.n:=zds hr
 have dd:(u64v 1).den (zeH r head RES.n RES.e 0 table (vp P))=r.d:=zen hr
 have dh:(u16v 7).den (zeH r head RES.n RES.e 0 table (vp P))=head:=zbj hh.1 hh.2
 have dN:(zeH r head RES.n RES.e 0 table (vp P)).i 21=RES.n:=rfl
 have dE:(zeH r head RES.n RES.e 0 table (vp P)).i 20=RES.e:=rfl
 have db:(zeH r head RES.n RES.e 0 table (vp P)).b 1=table:=rfl
 have dp:(zeH r head RES.n RES.e 0 table (vp P)).v 0=vp P:=rfl
 generalize zeH r head RES.n RES.e 0 table (vp P)=ρ at*
 have hbd1:=hr.dE
 refine Calls.mono (zxP (ρ:=ρ) (K:=fun _=>False) (g:=spG P L Bs B N g w.heap.size RES.segs) (bl:= []) (vals:= [vp P,r.val,.int .i64 head,.bool table]) mixed zw1 zyw (fun b h=>h.elim) trivial trivial
  ⟨fun b=>b=P∨b=L∨b=Bs∨b=B,fun b hb=>⟨by rcases hb with rfl|rfl|rfl|rfl;exact hm.pl;exact hm.ll;exact hm.sl;exact hm.bl,fun h=>by obtain ⟨k,_,h1,_⟩:=h;cases k<;>cases h1⟩,⟨.inl rfl,.inr (.inl rfl),.inr (.inr (.inl rfl)),.inr (.inr (.inr rfl)),hm⟩,trivial⟩
  trivial ⟨?_,trivial⟩ trivial trivial (zab (za5 dp rfl) (zab (hR _) (zab (zac dh) (zab (zaO db) RL.nil)))) (zad.2 trivial)) fun e w' hh'=> ?_
 ·refine ⟨Dw.enters_of (by kernel_rfl),fun j w1 vals F n hv hnone hb hF hsz hrows hne hf=> ?_⟩
  have hb:n=8:=hb (by decide)
  subst hb
  obtain ⟨⟨f1,f2,f3,f4,hm1⟩,_⟩:=hf
  obtain ⟨L1,vs1,j1,o1,K1,F1,r1,w1'⟩:=hrows (6,[.int .i64 (.lit 0)],[.int .i64 (.var 20)]) (by simp [outerW])
  obtain ⟨L2,vs2,j2,o2,K2,F2,r2,w2'⟩:=hrows (1,[.cst 0 none],[.cst 0 none]) (by simp [outerW])
  obtain ⟨L3,vs3,j3,o3,K3,F3,r3,w3'⟩:=hrows (5,[.int .i64 (.lit 0)],[.int .i64 (.var 21)]) (by simp [outerW])
  obtain ⟨L4,vs4,j4,o4,K4,F4,r4,w4'⟩:=hrows (3,[.bool (.var 1)],[.bool (.var 1)]) (by simp [outerW])
  obtain ⟨L5,vs5,j5,o5,K5,F5,r5,w5'⟩:=hrows (7,[spFn],[spFn]) (by simp [outerW])
  obtain ⟨L6,vs6,j6,o6,K6,F6,r6,w6'⟩:=hrows (4,[.nils],[.opq 8 none]) (by simp [outerW])
  have j1:j 6=some L1:=j1
  have j2:j 1=some L2:=j2
  have j3:j 5=some L3:=j3
  have j4:j 3=some L4:=j4
  have j5:j 7=some L5:=j5
  have j6:j 4=some L6:=j6
  have lc1:=zag j1
  have lc2:=zag j2
  have lc3:=zag j3
  have lc4:=zag j4
  have lc5:=zag j5
  have lc6:=zag j6
  have w1':=zb3 w1' (by decide) r1
  have w2':=zb3 w2' (by decide) r2
  have w3':=zb3 w3' (by decide) r3
  have w4':=zb3 w4' (by decide) r4
  have w5':=zb3 w5' (by decide) r5
  have w6':=zb3 w6' (by decide) r6
  simp only [AV.valL,AV.val,spFn,zuP,lc1,lc2,lc3,lc4,lc5,lc6,o1,o2,o3,o4,o5,o6,Nat.add_zero,dp,zaM,db,zaf] at w1' w2' w3' w4' w5' w6'
  have hpair: ∀ {p q:Nat} {Lp Lq:Dw.Loc},p∈ [1,3,4,5,6,7]→q∈ [1,3,4,5,6,7]→p≠q→j p=some Lp→j q=some Lq→Lp.blk≠Lq.blk:=fun {p q Lp Lq} hp hq hpq h1 h2=>by
   have hin: ∀t∈ [1,3,4,5,6,7],∃r∈outerW.rows,r.1=t:=fun t ht=>by
    simp only [List.mem_cons,List.not_mem_nil,or_false] at ht
    rcases ht with rfl|rfl|rfl|rfl|rfl|rfl
    ·exact ⟨(1,[.cst 0 none],[.cst 0 none]),by simp [outerW],rfl⟩
    ·exact ⟨(3,[.bool (.var 1)],[.bool (.var 1)]),by simp [outerW],rfl⟩
    ·exact ⟨(4,[.nils],[.opq 8 none]),by simp [outerW],rfl⟩
    ·exact ⟨(5,[.int .i64 (.lit 0)],[.int .i64 (.var 21)]),by simp [outerW],rfl⟩
    ·exact ⟨(6,[.int .i64 (.lit 0)],[.int .i64 (.var 20)]),by simp [outerW],rfl⟩
    ·exact ⟨(7,[spFn],[spFn]),by simp [outerW],rfl⟩
   obtain ⟨r,hr,rfl⟩:=hin p hp
   obtain ⟨r',hr',rfl⟩:=hin q hq
   exact hne r hr r' hr' hpq Lp Lq h1 h2
  let x1:V6:=⟨L1.blk,L2.blk,L3.blk,L4.blk,L5.blk,L6.blk⟩
  have hx1F: ∀b∈x1.l,¬F b:=fun b hb=>by
   simp only [V6.l,x1,List.mem_cons,List.not_mem_nil,or_false] at hb
   rcases hb with rfl|rfl|rfl|rfl|rfl|rfl<;>assumption
  have hnd:x1.l.Nodup:=by
   simp only [V6.l,x1,List.nodup_cons,List.mem_cons,List.not_mem_nil,or_false,not_or,List.nodup_nil,and_true,not_false_eq_true]
   exact ⟨⟨hpair (by simp) (by simp) (by decide) j1 j2,hpair (by simp) (by simp) (by decide) j1 j3,hpair (by simp) (by simp) (by decide) j1 j4,hpair (by simp) (by simp) (by decide) j1 j5,hpair (by simp) (by simp) (by decide) j1 j6⟩,
    ⟨hpair (by simp) (by simp) (by decide) j2 j3,hpair (by simp) (by simp) (by decide) j2 j4,hpair (by simp) (by simp) (by decide) j2 j5,hpair (by simp) (by simp) (by decide) j2 j6⟩,
    ⟨hpair (by simp) (by simp) (by decide) j3 j4,hpair (by simp) (by simp) (by decide) j3 j5,hpair (by simp) (by simp) (by decide) j3 j6⟩,
    ⟨hpair (by simp) (by simp) (by decide) j4 j5,hpair (by simp) (by simp) (by decide) j4 j6⟩,hpair (by simp) (by simp) (by decide) j5 j6⟩
  have hww:WW w1 P L Bs B N g w.heap.size x1 table (.slice none 0 0) ⟨[],0,0⟩:=
   ⟨hm1,⟨hm.pl,hm.ll,hm.sl,hm.bl⟩,hnd,fun b hb=>⟨fun e=>hx1F b hb (e▸f1),fun e=>hx1F b hb (e▸f2),fun e=>hx1F b hb (e▸f3),fun e=>hx1F b hb (e▸f4)⟩,w1',w2',w3',w4',w5',w6',⟨rfl,.inl ⟨rfl,rfl⟩⟩,fun b hb=>(by cases hb),fun y hy=>(by cases hy),hsz,Int.le_refl _⟩
  have hvals:vals=([.int .u64 r.d,.int .i64 r.n,.int .i64 head,.bool false]:List Value)++x1.caps:=by
   have hv:=RL_val (by decide) hv
   rw [hv]
   simp only [outerW,zuP,List.cons_append,List.nil_append,AV.valL,AV.val,dd,dn,dh,zbA,lc1,lc2,lc3,lc4,lc5,lc6,o1,o2,o3,o4,o5,o6,Nat.add_zero]
   rfl
  subst hvals
  refine Calls.mono (zm6 hww (Int.le_refl _) hN hN1 ⟨hr.d0,by omega⟩ hbd hh (by simp;omega) (.inr ⟨rfl,rfl,zx9 P L Bs B N g w.heap.size table hN hN1⟩)) fun en w' hh=> ?_
  obtain ⟨rfl,v',hw',hvb,hmv⟩:=hh
  have hRES:zbt N g (zcR N g table) (r.n.toNat+1) r.d r.n head [] ⟨[],0,0⟩=RES:=hRES
  rw [hRES] at hw'
  have hvlt:=hw'.row.lt
  have hsub: ∀k' L',j k'=some L'→jq j 8 [v'] k'=some L':=fun k' L' e=>by
   unfold jq
   by_cases hk':8≤k'∧k'<8+1
   ·have:=hnone k' hk'.1
    rw [this] at e;cases e
   ·rw [if_neg (by simpa using hk')];exact e
  refine ⟨_,[v'],fun b=>F b∨v'.ownBlock=some b,rfl,rfl,zcz RL.nil,⟨⟨.inl f1,.inl f2,.inl f3,.inl f4,hw'.mem⟩,v',zbo,⟨hw'.row,fun b hb=> .inr hb⟩⟩,?_,fun rr hr Lr hLr=> ?_,hmv.mono fun b hb=> ?_⟩
  ·rintro b (hb|hb)
   ·exact ⟨Nat.lt_of_lt_of_le (hF b hb) hmv.size,.inl hb⟩
   ·refine ⟨(hvlt b hb).2.1,?_⟩
    rcases hvb b hb with h'|h'
    ·cases h'
    ·exact .inr h'
  ·simp only [outerW,List.mem_cons,List.not_mem_nil,or_false] at hr
   rcases hr with rfl|rfl|rfl|rfl|rfl|rfl
   ·have:=j1.symm.trans hLr;cases this
    exact ⟨_,zab (zac dE) RL.nil,hw'.oE⟩
   ·have:=j2.symm.trans hLr;cases this
    exact ⟨_,zab (za5 dp rfl) RL.nil,hw'.oM⟩
   ·have:=j3.symm.trans hLr;cases this
    exact ⟨_,zab (zac dN) RL.nil,hw'.oN⟩
   ·have:=j4.symm.trans hLr;cases this
    exact ⟨_,zab (zaO db) RL.nil,hw'.oT⟩
   ·have:=j5.symm.trans hLr;cases this
    refine ⟨_,zab (zbX RL.nil ?_) RL.nil,hw'.oF⟩
    have e: ∀(Lx:Dw.Loc),Lx.off=0→(Value.pointer (some ⟨Lx.blk,Lx.off+0,none⟩))=vp Lx.blk:=fun Lx hx=>by rw [hx];rfl
    exact zab ⟨L1,hsub _ _ j1,(e L1 o1).symm⟩ (zab ⟨L2,hsub _ _ j2,(e L2 o2).symm⟩ (zab ⟨L3,hsub _ _ j3,(e L3 o3).symm⟩ (zab ⟨L4,hsub _ _ j4,(e L4 o4).symm⟩ (zab ⟨L5,hsub _ _ j5,(e L5 o5).symm⟩ (zab ⟨L6,hsub _ _ j6,(e L6 o6).symm⟩ RL.nil)))))
   ·have:=j6.symm.trans hLr;cases this
    refine ⟨_,zab ⟨⟨⟨0,0,0,some v'⟩,?_,rfl⟩,hw'.row.one,fun _ h=>by cases h⟩ RL.nil,hw'.oL⟩
    show jq j 8 _ 8=_
    unfold jq
    rw [if_pos ⟨Nat.le_refl _,by simp⟩]
    simp
  ·rcases hb with hb|hb
   ·right
    simp only [V6.l,x1,List.mem_cons,List.not_mem_nil,or_false] at hb
    rcases hb with rfl|rfl|rfl|rfl|rfl|rfl
    ·exact ⟨(6,[.int .i64 (.lit 0)],[.int .i64 (.var 20)]),by simp [outerW],L1,j1,rfl⟩
    ·exact ⟨(1,[.cst 0 none],[.cst 0 none]),by simp [outerW],L2,j2,rfl⟩
    ·exact ⟨(5,[.int .i64 (.lit 0)],[.int .i64 (.var 21)]),by simp [outerW],L3,j3,rfl⟩
    ·exact ⟨(3,[.bool (.var 1)],[.bool (.var 1)]),by simp [outerW],L4,j4,rfl⟩
    ·exact ⟨(7,[spFn],[spFn]),by simp [outerW],L5,j5,rfl⟩
    ·exact ⟨(4,[.nils],[.opq 8 none]),by simp [outerW],L6,j6,rfl⟩
   ·cases hb
 ·obtain ⟨_,j,he⟩:=zbd hh'
  obtain ⟨Fs,_,_,u,hu,hf',_⟩:=he.gho
  refine ⟨u,he.ret.trans ?_,hf',zam he (fun _ h=>h)⟩
  simp only [AV.val,AV.valL,zay,dN,dE]
  have hu':(lcOf j 8).q.getD undef=u:=zcA (ρ:=ρ) hu
  rw [hu']
def Tryz.SpG (P L Bs B N:Nat) (g:Nat→Int) (b2:Nat) (l l':List Sg):Gho where
 fact k q F w:=(F P∧F L∧F Bs∧F B∧GM w P L Bs B N g)∧(match k with|0=>True|1=> ∃u,q 2=some u∧fwOwn b2 u l F w|_=> ∃u,q 3=some u∧fwOwn b2 u l' F w)
 loc:=fun k q q' F w w' h hq hb hs=>by
  obtain ⟨⟨h1,h2,h3,h4,h5⟩,h6⟩:=h
  refine ⟨⟨h1,h2,h3,h4,h5.kept (fun b _ hb'=>by rcases hb' with rfl|rfl|rfl|rfl<;>exact hb _ (by assumption)) hs⟩,?_⟩
  match k,h6 with
  | 0,_=>trivial
  | 1,⟨u,h7,h8⟩=>exact ⟨u,hq _ _ h7,fwOwn.kept h8 hb⟩
  | k+2,⟨u,h7,h8⟩=>exact ⟨u,hq _ _ h7,fwOwn.kept h8 hb⟩
theorem Tryz.OwnSeg.nil (w:World) (b2:Nat):OwnSeg w b2 (.slice none 0 0) []:=⟨rfl,.inl ⟨rfl,rfl⟩⟩
theorem Tryz.OwnSeg.mono {w:World} {b1 b2:Nat} {v:Value} {l:List Sg} (h:OwnSeg w b2 v l) (hb:b1≤b2):OwnSeg w b1 v l:=by
 obtain ⟨h1,h2⟩:=h
 refine ⟨h1,?_⟩
 rcases h2 with h2|⟨G,cap,cur,e,h3,h4⟩
 ·exact .inl h2
 ·exact .inr ⟨G,cap,cur,e,Nat.le_trans hb h3,h4⟩
theorem Tryz.OwnSeg.slice {w:World} {b2:Nat} {v:Value} {l:List Sg} (h:OwnSeg w b2 v l): ∃sa c,v= .slice sa l.length c∧ ∀R o,sa=some ⟨R,o,none⟩→v.ownBlock=some R:=by
 obtain ⟨h1,h2⟩:=h
 rcases h2 with ⟨rfl,h2⟩|⟨G,cap,cur,rfl,_⟩
 ·exact ⟨none,0,by rw [h2],fun R o h=>by cases h⟩
 ·exact ⟨_,cap,rfl,fun R o h=>by cases h;rfl⟩
set_option maxRecDepth 10000 in
theorem Tryz.zC2 {w:World} {P L Bs B N:Nat} {g:Nat→Int} {r:Rg} {head:Int} {table:Bool} (hm:GM w P L Bs B N g) (hN:N≤1048576) (hN1:1≤N) (hr:RgOk r) (hh:0≤head∧head<65536):
  Calls prog 128 #[vp P,r.val,.int .i64 head,.bool table] w fun e w'=> ∃u,e= .returned (.tuple #[u,.int .i64 (zbg N g r head table).2])∧
   OwnSeg w' w.heap.size u (zbg N g r head table).1∧Below w.heap.size w w':=by
 have hg:=hm.byte
 have hlen:=zlV (N:=N) (head:=head) (table:=table) hg hr
 have hgood:=zjq (N:=N) (r:=r) (head:=head) (table:=table) hg
 unfold zbg
 have hsp:=fun w (hm:GM w P L Bs B N g)=>zzD (table:=table) hm hN hN1 hr hh
 generalize zdc N g r head table=RES at*
 obtain ⟨LE,hLE⟩: ∃LE,zf2 N RES.segs=LE:=⟨_,rfl⟩
 have hR: ∀j,Dw.R (zeH r head RES.n RES.e LE table (vp P)) j rg r.val:=fun j=>R_rg hr
 have dh:(u16v 7).den (zeH r head RES.n RES.e LE table (vp P))=head:=zbj hh.1 hh.2
 have dN:(zeH r head RES.n RES.e LE table (vp P)).i 21=RES.n:=rfl
 have dE:(zeH r head RES.n RES.e LE table (vp P)).i 20=RES.e:=rfl
 have dL:(zeH r head RES.n RES.e LE table (vp P)).i 22=LE:=rfl
 have db:(zeH r head RES.n RES.e LE table (vp P)).b 1=table:=rfl
 have dp:(zeH r head RES.n RES.e LE table (vp P)).v 0=vp P:=rfl
 generalize zeH r head RES.n RES.e LE table (vp P)=ρ at*
 rw [hLE]
 obtain ⟨l',hl'⟩: ∃l',(if LE=0 then RES.segs else [])=l':=⟨_,rfl⟩
 refine Calls.mono (zav (ρ:=ρ) (K:=fun _=>False) (g:=SpG P L Bs B N g w.heap.size RES.segs l') (bl:= []) (vals:= [vp P,r.val,.int .i64 head,.bool table]) mixed zw5 zyO (fun b h=>h.elim) trivial trivial
  ⟨fun b=>b=P∨b=L∨b=Bs∨b=B,fun b hb=>⟨by rcases hb with rfl|rfl|rfl|rfl;exact hm.pl;exact hm.ll;exact hm.sl;exact hm.bl,fun h=>by obtain ⟨k,_,h1,_⟩:=h;cases k<;>cases h1⟩,⟨.inl rfl,.inr (.inl rfl),.inr (.inr (.inl rfl)),.inr (.inr (.inr rfl)),hm⟩,trivial⟩
  ⟨?_,?_,?_,trivial⟩ (zab (za5 dp rfl) (zab (hR _) (zab (zac dh) (zab (zaO db) RL.nil)))) (zad.2 trivial)) fun e w' hh'=> ?_
 ·exact zas (Dw.enters_of (by kernel_rfl)) (by decide) [vp P,r.val,.bool false] (.int .i64 0) (fun j=>zab (za5 dp rfl) (zab (hR j) (zab (zaO rfl) RL.nil))) (fun j=>zac rfl) fun w F q hf=>zxH hf.1.2.2.2.2 hr
 ·refine ⟨Dw.enters_of (by kernel_rfl),fun j w1 vals F n hv hnone hb hF hsz hf _=> ?_⟩
  have hb:n=2:=hb (by decide)
  subst hb
  have hv:=zcF (by decide) hv (zab (za5 dp rfl) (zab (hR j) (zab (zac dh) (zab (zaO db) RL.nil))))
  subst hv
  obtain ⟨⟨f1,f2,f3,f4,hm1⟩,_⟩:=hf
  refine Calls.mono (hsp w1 hm1) fun en w' hh=> ?_
  obtain ⟨u,rfl,hu,hbl⟩:=hh
  have hlt:=hu.lt
  refine ⟨_,[u],fun b=>F b∨u.ownBlock=some b,rfl,rfl,zcz (zab ⟨⟨⟨0,0,0,some u⟩,?_,rfl⟩,hu.one,fun _ h=>(by cases h)⟩ (zab (zac dN) (zab (zac dE) RL.nil))),⟨⟨.inl f1,.inl f2,.inl f3,.inl f4,hm1.below hbl⟩,u,zbo,hu.mono hsz,fun b hb=> .inr hb⟩,?_,Dw.Mv.of_below hbl⟩
  ·show jq j 2 _ 2=_
   unfold jq
   rw [if_pos ⟨Nat.le_refl _,by simp⟩]
   simp
  ·rintro b (hb|hb)
   ·exact ⟨Nat.lt_of_lt_of_le (hF b hb) hbl.size,.inl hb⟩
   ·exact ⟨(hlt b hb).2.1,.inr (hlt b hb).1⟩
 ·refine ⟨Dw.enters_of (by kernel_rfl),fun j w1 vals F n hv hnone hb hF hsz hf _=> ?_⟩
  have hb:n=3:=hb (by decide)
  subst hb
  obtain ⟨⟨f1,f2,f3,f4,hm1⟩,u,hq,hu,huF⟩:=hf
  obtain ⟨v1,m1,rfl,hv1,v2,m2,rfl,⟨⟨Lq,hj,hLq⟩,_⟩,hm2⟩:=hv
  have hm2:m2= []:=hm2
  subst hm2
  have hv1:=zLk (by decide) hv1 (za5 (ρ:=ρ) (j:=j) dp rfl)
  subst hv1
  have hv2:v2=u:=by
   unfold opqs at hq
   rw [hj] at hq
   simp only [Option.bind_some] at hq
   rw [hLq] at hq
   exact Option.some.inj hq
  subst hv2
  obtain ⟨sa,c,he2,hsa⟩:=hu.slice
  have hlt:=hu.lt
  have hseg:=hu.segV hgood.1 (A:=fun _=>False) fun _ _ h=>h
  rw [he2] at hseg
  have hlk:=zxW hm1 hN hN1 hseg (by omega) fun R o e=>by
   have h1:=(hlt R (hsa R o e)).1
   have:=hm.pl;have:=hm.ll;have:=hm.sl;have:=hm.bl
   omega
  rw [hLE] at hlk
  rw [he2]
  refine Calls.mono hlk fun en w' hh=> ?_
  obtain ⟨rfl,hbl⟩:=hh
  have hu':OwnSeg w' w.heap.size (if LE=0 then .slice sa RES.segs.length c else .slice none 0 0) l':=by
   rw [←hl']
   by_cases h0:LE=0
   ·rw [if_pos h0,if_pos h0,←he2]
    exact hu.kept fun b hb=>hbl.block b (hlt b hb).2.1
   ·rw [if_neg h0,if_neg h0];exact OwnSeg.nil _ _
  have hub: ∀b,(if LE=0 then Value.slice sa RES.segs.length c else .slice none 0 0).ownBlock=some b→v2.ownBlock=some b:=fun b hb=>by
   by_cases h0:LE=0
   ·rw [if_pos h0,←he2] at hb;exact hb
   ·rw [if_neg h0] at hb;cases hb
  refine ⟨_,[if LE=0 then .slice sa RES.segs.length c else .slice none 0 0],F,rfl,rfl,zcz (zab ⟨⟨⟨0,0,0,some _⟩,?_,rfl⟩,hu'.one,fun _ h=>(by cases h)⟩ (zab (zac dL) RL.nil)),⟨⟨f1,f2,f3,f4,hm1.below hbl⟩,_,zbo,hu',fun b hb=>huF b (hub b hb)⟩,fun b hb=>⟨Nat.lt_of_lt_of_le (hF b hb) hbl.size,.inl hb⟩,Dw.Mv.of_below hbl⟩
  show jq j 3 _ 3=_
  unfold jq
  rw [if_pos ⟨Nat.le_refl _,by simp⟩]
  simp
 ·obtain ⟨p,hpm,hto,lf,hlf,j,he⟩:=hh'
  have hb:=zam he (fun _ h=>h)
  unfold zoJ at hpm
  simp only [List.mem_cons,List.not_mem_nil,or_false] at hpm
  rcases hpm with rfl|rfl
  all_goals
   simp only [zaa,zad,zbs,zay,zaf,dE,and_true,bne_iff_ne,ne_eq,bne_eq_false_iff_eq] at hto
   cases hlf
  ·rw [if_neg hto]
   refine ⟨.slice none 0 0,he.ret.trans ?_,OwnSeg.nil _ _,hb⟩
   simp only [AV.val,AV.valL,zay,dE]
  ·rw [if_pos hto]
   obtain ⟨Fs,_,_,u,hu,hf',_⟩:=he.gho
   have hu':(lcOf j 3).q.getD undef=u:=zcA (ρ:=ρ) hu
   have e1:(if LE=0 then (RES.segs,(0:Int)) else ([],LE))=(l',LE):=by
    rw [←hl']
    by_cases h0:LE=0
    ·rw [if_pos h0,if_pos h0,h0]
    ·rw [if_neg h0,if_neg h0]
   rw [e1]
   refine ⟨u,he.ret.trans ?_,hf',hb⟩
   simp only [AV.val,AV.valL,zay,dL]
   rw [hu']
open Go.Maps Go.Sort
set_option maxRecDepth 100000 in
theorem Tryz.znk {A:Nat→Prop} {w:World} {v:Value} {l:List Sg} (h:SegV A w v l) (hl:l.length≤1000000):
    Calls prog 57 #[v] w fun e w'=> ∃u,e= .returned u∧OwnSeg w' w.heap.size u l∧Below w.heap.size w w':=by
  obtain ⟨sa,c,rfl,hok,hr⟩:=h
  have hinfo:=zBK
  cases hi:prog.info? 48 with
  | none=>rw [hi] at hinfo;cases hinfo
  | some i=>
  rw [hi] at hinfo
  simp only [Option.map_some,Option.some.injEq,Prod.mk.injEq] at hinfo
  obtain ⟨i1,i2,i3⟩:=hinfo
  have hseg1:=zpW l
  cases sa with
  | none=>
    have h0:l= []:=by
      rcases hr with h|⟨R,o,h,_⟩
      · exact h
      · cases h
    subst h0
    go_enter func57,ntmps57
    go_wp2
    go_ret
    exact ⟨_,rfl,OwnSeg.nil _ _,Below.refl _ _⟩
  | some ad=>
    have hnews: ∀j u,(zaP l)[j]? =some u→w.cell? (ad.add j)=some u:=fun j u hj=>by
      rcases hr with h|⟨R,o,h,_,hr⟩
      · subst h;cases hj
      · cases h
        rw [Dw.addr_add]
        exact hr j u hj
    have hlen:=zcd l
    go_enter func57,ntmps57
    go_wp2_with (first
      | (at_builtin;go_loud (refine wpList_append_own_at _ rfl _ _ 36 rfl w.heap.size 48 i _ 3 16 (by kernel_rfl) hi i1 i2 i3 rfl (by decide) (.slice none 0 0) 0 [] rfl ⟨rfl,.inl ⟨rfl,rfl⟩⟩ ad l.length c (zaP l) rfl (by omega) hnews hseg1 (by unfold maxLen;omega) (by omega) (Nat.le_refl _) ?_);intro u w' h2 h3 h4 h5;go_frame)
      | go_in)
    go_ret
    refine ⟨_,rfl,?_,⟨h3.os,h3.tape,h3.output,h3.size,fun b hb=>h3.block b hb (by simp [Value.ownBlock])⟩⟩
    unfold OwnSeg
    simpa using h2
def Tryz.chG (P L Bs B N:Nat) (g:Nat→Int) (b2:Nat) (l:List Sg):Gho where
 fact k q F w:=(F P∧F L∧F Bs∧F B∧GM w P L Bs B N g)∧(match k with|0=>True|1=> ∃u,q 6=some u∧fwOwn b2 u l F w|_=> ∃u u2,q 6=some u∧q 7=some u2∧fwOwn b2 u l F w∧fwOwn b2 u2 l F w)
 loc:=fun k q q' F w w' h hq hb hs=>by
  obtain ⟨⟨h1,h2,h3,h4,h5⟩,h6⟩:=h
  refine ⟨⟨h1,h2,h3,h4,h5.kept (fun b _ hb'=>by rcases hb' with rfl|rfl|rfl|rfl<;>exact hb _ (by assumption)) hs⟩,?_⟩
  match k,h6 with
  | 0,_=>trivial
  | 1,⟨u,h7,h8⟩=>exact ⟨u,hq _ _ h7,fwOwn.kept h8 hb⟩
  | k+2,⟨u,u2,h7,h8,h9,h10⟩=>exact ⟨u,u2,hq _ _ h7,hq _ _ h8,fwOwn.kept h9 hb,fwOwn.kept h10 hb⟩
def Tryz.chnS (N:Nat) (r:Rg) (g:Nat→Int) (s:SS):Int×SS:=
 if zbz s.hd s.tk=none∧(zbg N g r s.hd s.tb).2=0 then (0,({ s with tk:=s.tk++ [(s.hd,(zbg N g r s.hd s.tb).1)],sg:=(zbg N g r s.hd s.tb).1,nx:=(s.nx+1)%65536 }:SS).stop) else (4,s.brk)
theorem Tryz.ztV {N:Nat} {g:Nat→Int} {r:Rg} {head:Int} {table:Bool} (hg: ∀j,0≤g j∧g j<256) (hr:RgOk r):(∀y∈(zbg N g r head table).1,y.ok)∧(zbg N g r head table).1.length≤40000:=by
 have h1:=zjq (N:=N) (r:=r) (head:=head) (table:=table) hg
 have h2:=zlV (N:=N) (head:=head) (table:=table) hg hr
 unfold zbg
 split
 ·split
  ·exact ⟨h1.1,h2⟩
  ·exact ⟨fun y hy=>(by cases hy),by simp⟩
 ·exact ⟨fun y hy=>(by cases hy),by simp⟩
theorem Tryz.zjr {ρ:Val} {w0:World} {K:Nat→Prop} {P L Bs B N:Nat} {g:Nat→Int} {r:Rg} {head:Int} {table:Bool} {e:SE} (hN:N≤1048576) (hN1:1≤N) (hr:RgOk r) (hR: ∀j,Dw.R ρ j rg r.val) (hp:ρ.v 0=vp P) (hh:0≤head∧head<65536) (dh:(u16v 7).den ρ=head) (db:ρ.b 1=table) (de:e.den ρ=(zbg N g r head table).2):
  za3 prog ρ w0 K (chG P L Bs B N g w0.heap.size (zbg N g r head table).1) (zuO e):=by
 refine ⟨Dw.enters_of (by kernel_rfl),fun j w1 vals F n hv hnone hb hF hsz hf _=> ?_⟩
 have hb:n=6:=hb (by show (1:Nat)≠0;decide)
 subst hb
 have hv:RL ρ j [.cst 0 none,rg,.int .i64 (u16v 7),.bool (.var 1)] vals:=hv
 have hv:=zcF (by decide) hv (zab (za5 hp rfl) (zab (hR j) (zab (zac dh) (zab (zaO db) RL.nil))))
 subst hv
 obtain ⟨⟨f1,f2,f3,f4,hm1⟩,_⟩:=hf
 refine Calls.mono (zC2 hm1 hN hN1 hr hh) fun en w' hh=> ?_
 obtain ⟨u,rfl,hu,hbl⟩:=hh
 have hlt:=hu.lt
 refine ⟨_,[u],fun b=>F b∨u.ownBlock=some b,rfl,rfl,zcz (zab ⟨⟨⟨0,0,0,some u⟩,?_,rfl⟩,hu.one,fun _ h=>(by cases h)⟩ (zab (zac de) RL.nil)),⟨⟨.inl f1,.inl f2,.inl f3,.inl f4,hm1.below hbl⟩,u,zbo,hu.mono hsz,fun b hb=> .inr hb⟩,?_,Dw.Mv.of_below hbl⟩
 ·show jq j 6 _ 6=_
  unfold jq
  rw [if_pos ⟨Nat.le_refl _,by simp⟩]
  simp
 ·rintro b (hb|hb)
  ·exact ⟨Nat.lt_of_lt_of_le (hF b hb) hbl.size,.inl hb⟩
  ·exact ⟨(hlt b hb).2.1,.inr (hlt b hb).1⟩
theorem Tryz.zyj {ρ:Val} {w0:World} {K:Nat→Prop} {P L Bs B N:Nat} {g:Nat→Int} {l:List Sg} (hok: ∀y∈l,y.ok) (hl:l.length≤1000000):za3 prog ρ w0 K (chG P L Bs B N g w0.heap.size l) zCy:=by
 refine ⟨Dw.enters_of (by kernel_rfl),fun j w1 vals F n hv hnone hb hF hsz hf _=> ?_⟩
 have hb:n=7:=hb (by decide)
 subst hb
 obtain ⟨⟨f1,f2,f3,f4,hm1⟩,u,hq,hu,huF⟩:=hf
 obtain ⟨v2,m2,rfl,⟨⟨Lq,hj,hLq⟩,_⟩,hm2⟩:=hv
 have hm2:m2= []:=hm2
 subst hm2
 have hv2:v2=u:=by
  unfold opqs at hq
  rw [hj] at hq
  simp only [Option.bind_some] at hq
  rw [hLq] at hq
  exact Option.some.inj hq
 subst hv2
 refine Calls.mono (znk (hu.segV hok (A:=fun _=>False) fun _ _ h=>h) hl) fun en w' hh=> ?_
 obtain ⟨u2,rfl,hu2,hbl⟩:=hh
 have hlt:=hu2.lt
 have hq6:opqs (jq j 7 [u2]) 6=some v2:=by
  unfold opqs at hq ⊢
  have e:jq j 7 [u2] 6=j 6:=by unfold jq;rw [if_neg (by simp)]
  rw [e];exact hq
 refine ⟨_,[u2],fun b=>F b∨u2.ownBlock=some b,rfl,rfl,⟨⟨⟨0,0,0,some u2⟩,?_,rfl⟩,hu2.one,fun _ h=>(by cases h)⟩,⟨⟨.inl f1,.inl f2,.inl f3,.inl f4,hm1.below hbl⟩,v2,u2,hq6,zbo,⟨hu.kept fun b hb=>hbl.block b (hu.lt b hb).2.1,fun b hb=> .inl (huF b hb)⟩,hu2.mono hsz,fun b hb=> .inr hb⟩,?_,Dw.Mv.of_below hbl⟩
 ·show jq j 7 _ 7=_
  unfold jq
  rw [if_pos ⟨Nat.le_refl _,by simp⟩]
  simp
 ·rintro b (hb|hb)
  ·exact ⟨Nat.lt_of_lt_of_le (hF b hb) hbl.size,.inl hb⟩
  ·exact ⟨(hlt b hb).2.1,.inr (hlt b hb).1⟩
theorem Tryz.zsJ {A:Nat→Prop} {w:World} {S P M:Nat} {r:Rg} {s:SS} {ρ:Val} {j:J} {K:Nat→Prop} {g:Gho} (h:SrvW A w S P M r s) (hK:K M) {k:Int} {o:Option AV} {ov:Option Value} (hk:(u16v 7).den ρ=k) (ho:RO ρ j o ov) (hv: ∀arr clock,w.heap[M]? =some (.map arr clock)→zbb arr k=ov):ShOk ρ j (cxOf w K g) (M,0) (.mapx [(.int .i64 (u16v 7),o)]):=by
 obtain ⟨arr,clock,h1,h2,_⟩:=h.tk.map
 refine ⟨hK,rfl,arr,clock,[(k,ov)],h1,h2,⟨k,ov,[],rfl,zac hk,ho,rfl⟩,fun k' o' hm=> ?_⟩
 simp only [List.mem_cons,Prod.mk.injEq,List.not_mem_nil,or_false] at hm
 obtain ⟨rfl,rfl⟩:=hm
 exact hv arr clock h1
theorem Tryz.zkY {P L Bs B N:Nat} {g:Nat→Int} {b2:Nat} {l:List Sg} {bl:List (Nat×Nat)} {w:World} (h:GM w P L Bs B N g) (hn: ∀b,b=P∨b=L∨b=Bs∨b=B→ ¬Mine (jOf bl) b):(chG P L Bs B N g b2 l).G 0 (jOf bl) w:=
 ⟨fun b=>b=P∨b=L∨b=Bs∨b=B,fun b hb=>⟨by rcases hb with rfl|rfl|rfl|rfl;exact h.pl;exact h.ll;exact h.sl;exact h.bl,hn b hb⟩,⟨.inl rfl,.inr (.inl rfl),.inr (.inr (.inl rfl)),.inr (.inr (.inr rfl)),h⟩,trivial⟩
set_option maxRecDepth 10000 in
theorem Tryz.zCL {A:Nat→Prop} {w:World} {S P L Bs B M N:Nat} {r:Rg} {s:SS} {g:Nat→Int} (h:SW A w S P L Bs B M N r s g) (hb:s.br=false) (hp:s.ph=7):
  Calls prog 28 #[.pointer (some ⟨S,0,none⟩)] w fun e w'=>e= .returned (.tuple #[accV 1 0 0,.int .i64 (chnS N r g s).1])∧SW A w' S P L Bs B M N r (chnS N r g s).2 g∧Dw.Mv (sK S M B) w w':=by
 obtain ⟨nv,sv,ho,hn,hsv⟩:=h.srv.obj
 have hrg:=h.srv.rg
 have hg:=h.mem.byte
 have hN1:1≤N:=by have:=h.fit;have:=hrg.bnd;have:=hrg.d0;omega
 obtain ⟨hgs,hgl⟩:=ztV (N:=N) (head:=s.hd) (table:=s.tb) hg hrg
 have hnv:nv=zin S 113:=by
  rw [hp] at hn
  cases hn with
  | idle h _=>cases h
  | meth f h hv=>cases h;exact hv
  | fence f _ _ h=>cases h
 subst hnv
 have hj2:jOf [(S,0),(M,0)] 2=some ⟨M,0,0,none⟩:=rfl
 have hj1:jOf [(S,0),(M,0)] 1=some ⟨S,0,0,none⟩:=rfl
 have hAb: ∀b,w.heap.size≤b→ ¬A b:=fun b hb ha=>by have:=h.lt b ha;omega
 have hview: ∀(arr:Array MapEntry) (clock:Nat),w.heap[M]? =some (.map arr clock)→(zbz s.hd s.tk=none→zbb arr s.hd=none)∧ ∀l,zbz s.hd s.tk=some l→ ∃v,zbb arr s.hd=some v∧SegV A w v l:=fun arr clock hm=>by
  obtain ⟨arr1,clock1,g1,g2,g3⟩:=h.srv.tk.map
  rw [g1] at hm;cases hm
  exact g3 s.hd
 have fail: ∀ {ρ:Val} {e:Ending} {w':World} {j:J} {ls:Leaf},SDen ρ r s (vp P) sv→zhl ρ w (sK S M B) (chG P L Bs B N g w.heap.size (zbg N g r s.hd s.tb).1) [(S,0),(M,0)] ls e w' j→
   ls=⟨.tup [.agg [.int .i64 (.lit 1),.int .i64 (.lit 0),.int .i64 (.lit 0)],.int .i64 (.lit 4)],[(1,[.cst 0 none,.bool (.lit false),.int .i64 (szv 0),.int .u64 (u64v 1),.int .u64 (u64v 2),.int .u64 (u64v 3),.bool (.var 0),.bool (.var 1),.bool (.var 2),.int .u16 (u16v 4),.int .u16 (u16v 5),.map 2,.nilf,.int .i64 (.lit 0),.bool (.lit false),.int .i64 (.lit 0),.nils,.int .u32 (.lit 0),.bool (.lit false),.bool (.var 5),.bool (.lit true)])],[(2,[])],1,[1]⟩→
   chnS N r g s=(4,s.brk)→e= .returned (.tuple #[accV 1 0 0,.int .i64 (chnS N r g s).1])∧SW A w' S P L Bs B M N r (chnS N r g s).2 g∧Dw.Mv (sK S M B) w w':=fun {ρ e w' j ls} hd he hls hch=>by
  subst hls
  have hj1':=he.sub _ _ hj1
  have hj2':=he.sub _ _ hj2
  have lc1:=zag hj1'
  have lc2:=zag hj2'
  have hmv:=he.mv
  have hkA:=h.kA hmv
  obtain ⟨Fs,_,⟨_,_,_,_,hgm⟩,_⟩:=he.gho
  have hO:=(he.rows.1 _ hj1').2 (.inr (.inl rfl)) rfl
  have hM:=he.maps.1 _ hj2'
  simp only [AV.val,AV.valL,lc1,lc2,hd.n,hd.d,hd.v,hd.c,hd.nx,hd.us,hd.hd,hd.wr,hd.p,hd.sv,zay,zaf,zaM,zbA,hd.op,hd.b0,hd.b1,hd.b2,hd.b3,hd.b4,hd.b5] at hO
  rw [hch]
  exact ⟨he.ret,h.next hmv hgm ⟨_,_,hO,.idle rfl rfl,SegV.none⟩ (h.srv.tk.same hkA hM) h.srv.nx h.srv.us z16 z32,hmv⟩
 cases htk:zbz s.hd s.tk with
 | some l0=>
  obtain ⟨v0,_,hv0one⟩: ∃v0,(∀arr clock,w.heap[M]? =some (.map arr clock)→zbb arr s.hd=some v0)∧v0.oneCell'=true:=by
   obtain ⟨arr1,clock1,g1,g2,g3⟩:=h.srv.tk.map
   obtain ⟨v0,h1,h2⟩:=(g3 s.hd).2 l0 htk
   exact ⟨v0,fun arr clock hm=>by rw [g1] at hm;cases hm;exact h1,h2.one⟩
  have hv0: ∀arr clock,w.heap[M]? =some (.map arr clock)→zbb arr s.hd=some v0:=by assumption
  have hd:=zbu h.srv 0 (zbg N g r s.hd s.tb).2 (vp P) sv v0
  have hR: ∀j,Dw.R (srho r s 0 (zbg N g r s.hd s.tb).2 (vp P) sv v0) j rg r.val:=fun j=>R_rg hrg
  have d11:SE.den (srho r s 0 (zbg N g r s.hd s.tb).2 (vp P) sv v0) (.var 11)=(zbg N g r s.hd s.tb).2:=rfl
  have dv2:(srho r s 0 (zbg N g r s.hd s.tb).2 (vp P) sv v0).v 2=v0:=rfl
  generalize srho r s 0 (zbg N g r s.hd s.tb).2 (vp P) sv v0=ρ at*
  refine Calls.mono (zav (ρ:=ρ) (K:=sK S M B) (g:=chG P L Bs B N g w.heap.size (zbg N g r s.hd s.tb).1) (bl:= [(S,0),(M,0)]) (vals:= [.pointer (some ⟨S,0,none⟩)]) mixed zsR zxu h.kold
   ⟨zbc ho (zcb hd hb hsv.one hj2 (zbX (zab (zaY hj1) RL.nil) RL.nil)) (.inl rfl),zsJ h.srv (.inr (.inl rfl)) hd.hd ⟨v0,rfl,za5 dv2 hv0one⟩ hv0,trivial⟩ h.apart (zkY h.mem h.mine)
   ⟨zjr h.hN hN1 hrg hR hd.p h.srv.hd hd.hd hd.b1 d11,trivial⟩ (zab (zaY hj1) RL.nil) (zad.2 trivial)) fun e w' hh=> ?_
  obtain ⟨p,hpm,hto,l,hl,j,he⟩:=hh
  unfold zmc at hpm
  simp only [List.mem_cons,List.not_mem_nil,or_false] at hpm
  have hch:chnS N r g s=(4,s.brk):=by unfold chnS;rw [if_neg (by rw [htk];rintro ⟨h1,_⟩;cases h1)]
  rcases hpm with rfl|rfl<;>cases hl<;>exact fail hd he rfl hch
 | none=>
  have hv0: ∀arr clock,w.heap[M]? =some (.map arr clock)→zbb arr s.hd=none:=fun arr clock hm=>(hview arr clock hm).1 htk
  have hd:=zbu h.srv 0 (zbg N g r s.hd s.tb).2 (vp P) sv undef
  have hR: ∀j,Dw.R (srho r s 0 (zbg N g r s.hd s.tb).2 (vp P) sv undef) j rg r.val:=fun j=>R_rg hrg
  have d11:SE.den (srho r s 0 (zbg N g r s.hd s.tb).2 (vp P) sv undef) (.var 11)=(zbg N g r s.hd s.tb).2:=rfl
  generalize srho r s 0 (zbg N g r s.hd s.tb).2 (vp P) sv undef=ρ at*
  by_cases hE:(zbg N g r s.hd s.tb).2=0
  ·refine Calls.mono (zav (ρ:=ρ) (K:=sK S M B) (g:=chG P L Bs B N g w.heap.size (zbg N g r s.hd s.tb).1) (bl:= [(S,0),(M,0)]) (vals:= [.pointer (some ⟨S,0,none⟩)]) mixed zxs zzW h.kold
    ⟨zbc ho (zcb hd hb hsv.one hj2 (zbX (zab (zaY hj1) RL.nil) RL.nil)) (.inl rfl),zsJ h.srv (.inr (.inl rfl)) hd.hd (o:=none) (ov:=none) rfl hv0,trivial⟩ h.apart (zkY h.mem h.mine)
    ⟨zjr h.hN hN1 hrg hR hd.p h.srv.hd hd.hd hd.b1 (by rw [hE];rfl),zyj hgs (by omega),trivial⟩ (zab (zaY hj1) RL.nil) (zad.2 trivial)) fun e w' hh=> ?_
   obtain ⟨_,j,he⟩:=zbd hh
   have hj1':=he.sub _ _ hj1
   have hj2':=he.sub _ _ hj2
   have lc1:=zag hj1'
   have lc2:=zag hj2'
   have hmv:=he.mv
   have hkA:=h.kA hmv
   obtain ⟨Fs,_,⟨_,_,_,_,hgm⟩,u,u2,hq6,hq7,⟨hu,_⟩,hu2,_⟩:=he.gho
   have e6:(lcOf j 6).q.getD undef=u:=zcA (ρ:=ρ) hq6
   have e7:(lcOf j 7).q.getD undef=u2:=zcA (ρ:=ρ) hq7
   have hO:=(he.rows.1 _ hj1').2 (.inr (.inl rfl)) rfl
   have hM:=he.maps.1 _ hj2'
   simp only [AV.val,AV.valL,lc1,lc2,hd.n,hd.d,hd.v,hd.c,hd.nx,hd.us,hd.hd,hd.wr,hd.p,hd.sv,den_add,zay,zaf,zaM,zbA,hd.op,hd.b0,hd.b1,hd.b2,hd.b3,hd.b4,hd.b5,e7,zaS] at hO
   have hch:chnS N r g s=(0,({ s with tk:=s.tk++ [(s.hd,(zbg N g r s.hd s.tb).1)],sg:=(zbg N g r s.hd s.tb).1,nx:=(s.nx+1)%65536 }:SS).stop):=by unfold chnS;rw [if_pos ⟨htk,hE⟩]
   rw [hch]
   refine ⟨he.ret,h.next hmv hgm ⟨_,_,hO,.idle rfl rfl,hu2.segV hgs hAb⟩ (h.srv.tk.put hkA htk h.srv.hd (hu.segV hgs hAb) ?_) ⟨by show 0≤(s.nx+1)%65536;omega,by show (s.nx+1)%65536<65536;omega⟩ h.srv.us h.srv.hd h.srv.wr,hmv⟩
   obtain ⟨arr,clock,arr0,clock0,m1,m2,m3,m4⟩:=hM
   refine ⟨arr,clock,arr0,clock0,m1,m2,m3,fun k=> ?_⟩
   rw [m4 k]
   simp only [zgQ,AV.val,hd.hd,Dw.intOf,Option.map_some,mlog,e6]
   by_cases hk:k=s.hd
   ·rw [if_pos hk,if_pos hk]
   ·rw [if_neg hk,if_neg hk,if_neg hk]
  ·refine Calls.mono (zav (ρ:=ρ) (K:=sK S M B) (g:=chG P L Bs B N g w.heap.size (zbg N g r s.hd s.tb).1) (bl:= [(S,0),(M,0)]) (vals:= [.pointer (some ⟨S,0,none⟩)]) mixed zsT zxw h.kold
    ⟨zbc ho (zcb hd hb hsv.one hj2 (zbX (zab (zaY hj1) RL.nil) RL.nil)) (.inl rfl),zsJ h.srv (.inr (.inl rfl)) hd.hd (o:=none) (ov:=none) rfl hv0,trivial⟩ h.apart (zkY h.mem h.mine)
    ⟨zjr h.hN hN1 hrg hR hd.p h.srv.hd hd.hd hd.b1 d11,trivial⟩ (zab (zaY hj1) RL.nil) (zaa.2 ⟨by rw [zbs,d11,zaf];simpa using hE,zad.2 trivial⟩)) fun e w' hh=> ?_
   obtain ⟨_,j,he⟩:=zbd hh
   have hch:chnS N r g s=(4,s.brk):=by unfold chnS;rw [if_neg (by rintro ⟨_,h2⟩;exact hE h2)]
   exact fail hd he rfl hch
end Go.Proofs
namespace Go.Proofs
open Go.Dw Go.RowKit
def Tryz.totE:Ent:=⟨60,[.cst 2 none],0,0,0,.tup [.int .u64 (u64v 22),.int .u64 (u64v 23)],0⟩
def Tryz.shsR (o:Option AV):List Sh:= [.own (srow .nilf (.var 5) (.lit false)),.mapx [(.int .i64 (.var 20),o)]]
end Go.Proofs
namespace Go.Proofs
open Go.Dw
def Tryz.zlR:List Ent:= []
def Tryz.zps:List Sh:=shsR none
def Tryz.zlS:List AV:= [.ptr 1 0,.int .i64 (.var 20),.int .u32 (u32v 21)]
def Tryz.zzA:List (SB×Bool):= []
def Tryz.zuM:List Leaf:= [
 ⟨.int .i64 (.lit 6),[(1,[.cst 0 none,.bool (.lit false),.int .i64 (szv 0),.int .u64 (u64v 1),.int .u64 (u64v 2),.int .u64 (u64v 3),.bool (.var 0),.bool (.var 1),.bool (.var 2),.int .u16 (u16v 4),.int .u16 (u16v 5),.map 2,.nilf,.int .i64 (.var 6),.bool (.var 3),.int .i64 (u16v 7),.cst 1 none,.int .u32 (u32v 8),.bool (.var 4),.bool (.var 5),.bool (.lit false)])],[(2,[])],0,[1]⟩]
def Tryz.zDB:List (List (SB×Bool)×Nat):= [
 ([], 0)]
theorem Tryz.zzz:(ev prog (zau zlR) 100000 (.call 19 zlS (zar 0 zps) (zaK zuM 0))).ways zzA=some zDB:=by kernel_rfl
theorem Tryz.zDC:(zah zps&&zae zlR&&AV.smallL zlS&&zaj zuM)=true:=by kernel_rfl
def Tryz.zlP:List Ent:= [totE]
def Tryz.zpr:List Sh:=shsR (some (.cst 2 none))
def Tryz.zlQ:List AV:= [.ptr 1 0,.int .i64 (.var 20),.int .u32 (u32v 21)]
def Tryz.zzy:List (SB×Bool):= []
def Tryz.zuL:List Leaf:= [
 ⟨.int .i64 (.lit 2),[(1,[.cst 0 none,.bool (.lit false),.int .i64 (szv 0),.int .u64 (u64v 1),.int .u64 (u64v 2),.int .u64 (u64v 3),.bool (.var 0),.bool (.var 1),.bool (.var 2),.int .u16 (u16v 4),.int .u16 (u16v 5),.map 2,.nilf,.int .i64 (.var 6),.bool (.var 3),.int .i64 (u16v 7),.cst 1 none,.int .u32 (u32v 8),.bool (.var 4),.bool (.var 5),.bool (.lit false)])],[(2,[])],0,[1]⟩,
 ⟨.int .i64 (.lit 0),[(1,[.cst 0 none,.bool (.lit false),.int .i64 (szv 0),.int .u64 (u64v 1),.int .u64 (u64v 2),.int .u64 (u64v 3),.bool (.var 0),.bool (.var 1),.bool (.var 2),.int .u16 (u16v 4),.int .u16 (u16v 5),.map 2,.func 61 [.ptr 1 0] [],.int .i64 (.lit 4),.bool (.lit false),.int .i64 (.var 20),.nils,.int .u32 (u32v 21),.bool (.lit false),.bool (.lit false),.bool (.lit false)])],[(2,[])],0,[1]⟩]
def Tryz.zuK:List (List (SB×Bool)×Nat):= [
 ([((.cmp .gtr (u32v 21) (u64v 23)),true)],0),
 ([((.cmp .gtr (u32v 21) (u64v 23)),false)],1)]
theorem Tryz.zzx:(ev prog (zau zlP) 100000 (.call 19 zlQ (zar 0 zpr) (zaK zuL 0))).ways zzy=some zuK:=by kernel_rfl
theorem Tryz.zDA:(zah zpr&&zae zlP&&AV.smallL zlQ&&zaj zuL)=true:=by kernel_rfl
def Tryz.zjo:List Ent:= []
def Tryz.zlM:List Sh:= [.own (srow .nilf (.var 5) (.lit false)),.mapx []]
def Tryz.zjp:List AV:= [.ptr 1 0]
def Tryz.zxi:List (SB×Bool):= []
def Tryz.zpk:List Leaf:= [
 ⟨.tup [.agg [.int .i64 (.lit 0),.int .i64 (.lit 0),.int .i64 (.lit 0)],.int .i64 (.lit 8)],[(1,[.cst 0 none,.bool (.lit false),.int .i64 (szv 0),.int .u64 (u64v 1),.int .u64 (u64v 2),.int .u64 (u64v 3),.bool (.var 0),.bool (.var 1),.bool (.var 2),.int .u16 (u16v 4),.int .u16 (u16v 5),.map 2,.nilf,.int .i64 (.var 6),.bool (.var 3),.int .i64 (u16v 7),.cst 1 none,.int .u32 (u32v 8),.bool (.var 4),.bool (.var 5),.bool (.lit false)])],[(2,[])],0,[1]⟩]
def Tryz.zzp:List (List (SB×Bool)×Nat):= [
 ([], 0)]
theorem Tryz.zxh:(ev prog (zau zjo) 100000 (.call 28 zjp (zar 0 zlM) (zaK zpk 0))).ways zxi=some zzp:=by kernel_rfl
theorem Tryz.zzq:(zah zlM&&zae zjo&&AV.smallL zjp&&zaj zpk)=true:=by kernel_rfl
def Tryz.zjm:List Ent:= []
def Tryz.zlL:List Sh:= [.own (srow (.cst 3 none) (.var 5) (.lit true)),.mapx []]
def Tryz.zjn:List AV:= [.ptr 1 0]
def Tryz.zxg:List (SB×Bool):= []
def Tryz.zpj:List Leaf:= [
 ⟨.tup [.agg [.int .i64 (.lit 0),.int .i64 (.lit 0),.int .i64 (.lit 0)],.int .i64 (.lit 4)],[(1,[.cst 0 none,.bool (.lit false),.int .i64 (szv 0),.int .u64 (u64v 1),.int .u64 (u64v 2),.int .u64 (u64v 3),.bool (.var 0),.bool (.var 1),.bool (.var 2),.int .u16 (u16v 4),.int .u16 (u16v 5),.map 2,.cst 3 none,.int .i64 (.var 6),.bool (.var 3),.int .i64 (u16v 7),.cst 1 none,.int .u32 (u32v 8),.bool (.var 4),.bool (.var 5),.bool (.lit true)])],[(2,[])],0,[1]⟩]
def Tryz.zzn:List (List (SB×Bool)×Nat):= [
 ([], 0)]
theorem Tryz.zxf:(ev prog (zau zjm) 100000 (.call 28 zjn (zar 0 zlL) (zaK zpj 0))).ways zxg=some zzn:=by kernel_rfl
theorem Tryz.zzo:(zah zlL&&zae zjm&&AV.smallL zjn&&zaj zpj)=true:=by kernel_rfl
open Go.RowKit Go.Maps Go.Sort
theorem Tryz.zIY (M:Nat) (w:World):(binOp .neq 123 (.map (some M)) (.map none)).run prog w= .ok (.bool true) w:=by
 rw [run_neq_map_nil w 123 3 36 (some M) underlying123]
 rfl
theorem Tryz.zJt (d:Nat) (f:Fn) (a b:Array Value) (w:World):(Op.equalIn (d+1) 124 (.func f a b) .nilFunc).run prog w= .ok false w:=by
 simp [Op.equalIn,run_underlying underlying124]
theorem Tryz.zCk (d:Nat) (w:World):(Op.equalIn (d+1) 124 .nilFunc .nilFunc).run prog w= .ok true w:=by
 simp [Op.equalIn,run_underlying underlying124]
theorem Tryz.zLt (f:Fn) (a b:Array Value) (w:World):(Op.equal 124 (.func f a b) .nilFunc).run prog w= .ok false w:=zJt 9999 f a b w
theorem Tryz.zJs (w:World):(Op.equal 124 .nilFunc .nilFunc).run prog w= .ok true w:=zCk 9999 w
theorem Tryz.zK6 (f:Fn) (a b:Array Value) (w:World):(binOp .neq 124 (.func f a b) .nilFunc).run prog w= .ok (.bool true) w:=by
 simp only [binOp]
 simp [zLt]
theorem Tryz.zJp (w:World):(binOp .neq 124 .nilFunc .nilFunc).run prog w= .ok (.bool false) w:=by
 simp only [binOp]
 simp [zJs]
section
variable {A:Nat→Prop} {w:World} {S P M:Nat} {r:Tryz.Rg} {s:Tryz.SS}
theorem Tryz.zew.fn {A:Nat→Prop} {w:World} {S ph:Nat} {v:Value} (h:zew A w S ph v):(ph=0→v= .nilFunc)∧(ph≠0→ ∃f a b,v= .func f a b):=by
 cases h with
 | idle h hv=>exact ⟨fun _=>hv,fun hn=>absurd h hn⟩
 | meth f h hv=>
  refine ⟨fun h0=> ?_,fun _=>⟨_,_,_,hv⟩⟩
  subst h0
  cases h
 | fence f X Y h hv=>
  refine ⟨fun h0=> ?_,fun _=>⟨_,_,_,hv⟩⟩
  subst h0
  cases h
set_option maxRecDepth 100000 in
theorem Tryz.ziH (h:SrvW A w S P M r s):Calls prog 56 #[.pointer (some ⟨S,0,none⟩)] w fun e w'=>e= .returned (.bool true)∧w'=w:=by
 obtain ⟨nv,sv,ho,hn,hsv⟩:=h.obj
 have c1:=zbm ho (i:=11) rfl
 have hq:=zIY M
 clear ho
 go_enter func56,ntmps56
 go_wp2
 go_ret
 exact ⟨rfl,rfl⟩
set_option maxRecDepth 100000 in
theorem Tryz.zJr (h:SrvW A w S P M r s):Calls prog 29 #[.pointer (some ⟨S,0,none⟩)] w fun e w'=>e= .returned (.int .i64 (if s.br then 4 else 0))∧w'=w:=by
  have hm:=ziH h
  obtain ⟨nv,sv,ho,hn,hsv⟩:=h.obj
  have c1:=zbm ho (i:=20) rfl
  clear ho
  cases hb:s.br<;>rw [hb] at c1
  all_goals
    go_enter func29,ntmps29
    go_wp2_with (first
      | (go_at_call 56;refine hm.mono ?_;rintro e w' ⟨rfl,hw⟩;have hw:=hw.symm;subst hw)
      | go_in)
    go_ret
    exact ⟨rfl,rfl⟩
set_option maxRecDepth 100000 in
theorem Tryz.zot (h:SrvW A w S P M r s):Calls prog 27 #[.pointer (some ⟨S,0,none⟩)] w fun e w'=>e= .returned (.bool (decide (s.ph≠0)))∧w'=w:=by
  have hm:=ziH h
  obtain ⟨nv,sv,ho,hn,hsv⟩:=h.obj
  have c1:=zbm ho (i:=12) rfl
  clear ho
  have hq:=zK6
  have hq0:=zJp
  by_cases h0:s.ph=0
  · have hnv:=hn.fn.1 h0
    rw [hnv] at c1
    rw [decide_eq_false (fun hh=>hh h0)]
    go_enter func27,ntmps27
    go_wp2_with (first
      | (go_at_call 56;refine hm.mono ?_;rintro e w' ⟨rfl,hw⟩;have hw:=hw.symm;subst hw)
      | go_in)
    go_ret
    exact ⟨rfl,rfl⟩
  · obtain ⟨f,a,b,hnv⟩:=hn.fn.2 h0
    rw [hnv] at c1
    rw [decide_eq_true h0]
    go_enter func27,ntmps27
    go_wp2_with (first
      | (go_at_call 56;refine hm.mono ?_;rintro e w' ⟨rfl,hw⟩;have hw:=hw.symm;subst hw)
      | go_in)
    go_ret
    exact ⟨rfl,rfl⟩
set_option maxRecDepth 100000 in
theorem Tryz.zqk (h:SrvW A w S P M r s) (hnr:s.br=true∨s.ph≠0):Calls prog 53 #[.pointer (some ⟨S,0,none⟩)] w fun e w'=>e= .returned (.int .i64 (if s.br then 4 else 8))∧w'=w:=by
  have he:=zJr h
  have hi:=zot h
  cases hb:s.br with
  | true=>
    rw [hb,if_pos rfl] at he
    go_enter func53,ntmps53
    go_wp2_with (first
      | (go_at_call 29;refine he.mono ?_;rintro e w' ⟨rfl,hw⟩;have hw:=hw.symm;subst hw)
      | go_in)
    go_ret
    exact ⟨rfl,rfl⟩
  | false=>
    rw [hb,if_neg (by decide)] at he
    have h0:s.ph≠0:=hnr.resolve_left (by rw [hb];decide)
    rw [decide_eq_true h0] at hi
    go_enter func53,ntmps53
    go_wp2_with (first
      | (go_at_call 29;refine he.mono ?_;rintro e w' ⟨rfl,hw⟩;have hw:=hw.symm;subst hw)
      | (go_at_call 27;refine hi.mono ?_;rintro e w' ⟨rfl,hw⟩;have hw:=hw.symm;subst hw)
      | go_in)
    go_ret
    exact ⟨rfl,rfl⟩
set_option maxRecDepth 100000 in
theorem Tryz.zIB (h:SrvW A w S P M r s) (hnr:s.br=true∨s.ph≠0):Calls prog 13 #[.pointer (some ⟨S,0,none⟩)] w fun e w'=>e= .returned (.int .i64 (if s.br then 4 else 8))∧w'=w:=by
  have he:=zqk h hnr
  cases hb:s.br<;>rw [hb] at he
  all_goals
    simp only [if_true,Bool.false_eq_true,if_false] at he
    go_enter func13,ntmps13
    go_wp2_with (first
      | (go_at_call 53;refine he.mono ?_;rintro e w' ⟨rfl,hw⟩;have hw:=hw.symm;subst hw)
      | go_in)
    go_ret
    exact ⟨rfl,rfl⟩
set_option maxRecDepth 100000 in
theorem Tryz.zKG (h:SrvW A w S P M r s) (hnr:s.br=true∨s.ph≠0) (hd wr:Int):Calls prog 19 #[.pointer (some ⟨S,0,none⟩),.int .i64 hd,.int .u32 wr] w fun e w'=>e= .returned (.int .i64 (if s.br then 4 else 8))∧w'=w:=by
  have he:=zqk h hnr
  cases hb:s.br<;>rw [hb] at he
  all_goals
    simp only [if_true,Bool.false_eq_true,if_false] at he
    go_enter func19,ntmps19
    go_wp2_with (first
      | (go_at_call 53;refine he.mono ?_;rintro e w' ⟨rfl,hw⟩;have hw:=hw.symm;subst hw)
      | go_in)
    go_ret
    exact ⟨rfl,rfl⟩
end
end Go.Proofs
namespace Go.Proofs
open Go.Dw Go.RowKit
def Tryz.zHQ (N:Nat) (r:Rg) (s:SS) (g:Nat→Int) (ph:Nat):Value×Int×SS×(Nat→Int):=
 match ph with
 | 1=>(accV 2 3 0,(zcf r g s).1,(zcf r g s).2,g)
 | 2=>(accV 3 9 0,0,s.goto 3,putW g (r.c+4+8*r.n).toNat 2 s.nx)
 | 3=>(accV 4 0 0,0,s.goto 4,g)
 | 4=>(accV 2 3 0,(zcy r g s).1,(zcy r g s).2,g)
 | 5=>(accV 4 0 0,0,s.goto 6,g)
 | 6=>(accV 2 4 (s.nx.tmod r.n),0,zs1 r g s,g)
 | 7=>(accV 1 0 0,(chnS N r g s).1,(chnS N r g s).2,g)
 | 11=>(accV 3 8 (s.us.tmod r.n),0,s.goto 12,putW g (r.c+4+8*s.us.tmod r.n).toNat 8 (s.hd+s.wr*4294967296))
 | 12=>(accV 4 0 0,0,s.goto 13,g)
 | 13=>(accV 3 7 0,0,({ s with us:=(s.us+1)%65536 }:SS).goto 14,putW g (r.c+2).toNat 2 ((s.us+1)%65536))
 | 14=>(accV 4 0 0,0,s.goto 15,g)
 | 15=>(accV 2 (if s.ev=true then 5 else 2) 0,0,zo3 r g s,g)
 | _=>(accV 0 0 0,8,s,g)
def Tryz.zaT (N:Nat) (r:Rg) (s:SS) (g:Nat→Int):Value×Int×SS×(Nat→Int):=if s.br=true then (accV 0 0 0,4,s,g) else zHQ N r s g s.ph
section
variable {A:Nat→Prop} {w:World} {S P L Bs B M N:Nat} {r:Tryz.Rg} {s:Tryz.SS} {g:Nat→Int}
theorem Tryz.SW.same (h:SW A w S P L Bs B M N r s g) {w':World} (hm:Dw.Mv (fun b=>b=S∨b=M) w w') (ho: ∃nv sv,Own w' S (s.row r P M nv sv)∧zew A w' S s.ph nv∧SegV A w' sv s.sg) (hM: ∃arr clock arr0 clock0,w'.heap[M]? =some (.map arr clock)∧w.heap[M]? =some (.map arr0 clock0)∧(zc8 arr∧Born arr clock)∧ ∀k,zbb arr k=zbb arr0 k):SW A w' S P L Bs B M N r s g:=by
 have hmv:Dw.Mv (sK S M B) w w':=hm.mono fun b hb=>hb.imp_right .inl
 have hgm:=h.mem.kept (fun k hk hk'=>hm.block k hk (h.kmem k hk')) hm.size
 exact h.next hmv hgm ho (h.srv.tk.same (h.kA hmv) hM) h.srv.nx h.srv.us h.srv.hd h.srv.wr
theorem Tryz.SW.phs (h:SW A w S P L Bs B M N r s g):s.ph=0∨s.ph=1∨s.ph=2∨s.ph=3∨s.ph=4∨s.ph=5∨s.ph=6∨s.ph=7∨s.ph=11∨s.ph=12∨s.ph=13∨s.ph=14∨s.ph=15:=by
 obtain ⟨nv,sv,_,hn,_⟩:=h.srv.obj
 cases hn with
 | idle h0 _=>exact .inl h0
 | meth f h0 _=>unfold sFn at h0;split at h0<;>first|omega|cases h0
 | fence f X Y h0 _=>unfold zz2 at h0;split at h0<;>first|omega|cases h0
theorem Tryz.zzj (h:SW A w S P L Bs B M N r s g) (hb:s.br=false) (hp:s.ph=0):
  Calls prog 28 #[.pointer (some ⟨S,0,none⟩)] w fun e w'=>e= .returned (.tuple #[accV 0 0 0,.int .i64 8])∧SW A w' S P L Bs B M N r s g∧Dw.Mv (sK S M B) w w':=by
 obtain ⟨nv,sv,ho,hn,hsv⟩:=h.srv.obj
 have hnv:=hn.fn.1 hp
 subst hnv
 have hd:=zbu h.srv 0 0 (vp P) sv undef
 generalize srho r s 0 0 (vp P) sv undef=ρ at*
 have hj2:jOf [(S,0),(M,0)] 2=some ⟨M,0,0,none⟩:=rfl
 have hj1:jOf [(S,0),(M,0)] 1=some ⟨S,0,0,none⟩:=rfl
 refine Calls.mono (zav (ρ:=ρ) (K:=fun b=>b=S∨b=M) (g:=Gho.none) (bl:= [(S,0),(M,0)]) (vals:= [.pointer (some ⟨S,0,none⟩)]) mixed zxh zzq (fun b hb=>h.kold b (hb.imp_right .inl))
  ⟨zbc ho (zcb hd hb hsv.one hj2 rfl) (.inl rfl),zcS h.srv (.inr rfl),trivial⟩ h.apart zaB trivial (zab (zaY hj1) RL.nil) (zad.2 trivial)) fun e w' hh=> ?_
 obtain ⟨_,j,he⟩:=zbd hh
 have hj1':=he.sub _ _ hj1
 have hj2':=he.sub _ _ hj2
 have lc1:=zag hj1'
 have lc2:=zag hj2'
 have hO:=(he.rows.1 _ hj1').2 (.inr (.inl rfl)) rfl
 have hM:=he.maps.1 _ hj2'
 simp only [AV.val,AV.valL,lc1,lc2,hd.n,hd.d,hd.v,hd.c,hd.nx,hd.us,hd.hd,hd.wr,hd.p,hd.sv,zay,zaf,zaM,zbA,hd.op,hd.b0,hd.b1,hd.b2,hd.b3,hd.b4,hd.b5] at hO
 have hO':Own w' S (s.row r P M .nilFunc sv):=by
  unfold SS.row
  rw [hb]
  exact hO
 have hkA: ∀k,k<w.heap.size→ ¬A k→w'.heap[k]? =w.heap[k]? :=fun k hk ha=>he.mv.block k hk (by rintro (rfl|rfl);exact ha h.srv.aS;exact ha h.srv.aM)
 exact ⟨he.ret,h.same he.mv ⟨_,_,hO',.idle hp rfl,hsv.kept hkA⟩ hM,he.mv.mono fun b hb=>hb.imp_right .inl⟩
theorem Tryz.zsz (h:SW A w S P L Bs B M N r s g) (hb:s.br=true):
  Calls prog 28 #[.pointer (some ⟨S,0,none⟩)] w fun e w'=>e= .returned (.tuple #[accV 0 0 0,.int .i64 4])∧SW A w' S P L Bs B M N r s g∧Dw.Mv (sK S M B) w w':=by
 obtain ⟨nv,sv,ho,hn,hsv⟩:=h.srv.obj
 have hnv1:nv.oneCell'=true:=by
  by_cases h0:s.ph=0
  ·rw [hn.fn.1 h0];rfl
  ·obtain ⟨f,a,b,e⟩:=hn.fn.2 h0;rw [e];rfl
 obtain ⟨ρ,hd,hv3⟩: ∃ρ:Val,SDen ρ r s (vp P) sv∧ρ.v 3=nv:=⟨rho r [s.nx,s.us,s.op,s.hd,s.wr,0,0,0] [s.ev,s.tb,s.pk,s.nn,s.it,s.dn] [vp P,sv,undef,nv],
  ⟨zds h.srv.rg,zen h.srv.rg,zey h.srv.rg,zez h.srv.rg,zbj h.srv.nx.1 h.srv.nx.2,zbj h.srv.us.1 h.srv.us.2,rfl,zbj h.srv.hd.1 h.srv.hd.2,zbL h.srv.wr.1 h.srv.wr.2,rfl,rfl,rfl,rfl,rfl,rfl,rfl,rfl⟩,rfl⟩
 have hj2:jOf [(S,0),(M,0)] 2=some ⟨M,0,0,none⟩:=rfl
 have hj1:jOf [(S,0),(M,0)] 1=some ⟨S,0,0,none⟩:=rfl
 have hrow:RL ρ (jOf [(S,0),(M,0)]) (srow (.cst 3 none) (.var 5) (.lit true)) (s.row r P M nv sv):=by
  refine zab (za5 hd.p rfl) (zab (zaO rfl) (zab (zac hd.n) (zab (zac hd.d) (zab (zac hd.v) (zab (zac hd.c) (zab (zaO hd.b0) (zab (zaO hd.b1) (zab (zaO hd.b2) (zab (zac hd.nx) (zab (zac hd.us) (zab (zJV hj2) (zab (za5 hv3 hnv1)
   (zab (zac hd.op) (zab (zaO hd.b3) (zab (zac hd.hd) (zab (za5 hd.sv hsv.one) (zab (zac hd.wr) (zab (zaO hd.b4) (zab (zaO hd.b5) (zab (zaO ?_) RL.nil))))))))))))))))))))
  exact hb.symm
 refine Calls.mono (zav (ρ:=ρ) (K:=fun b=>b=S∨b=M) (g:=Gho.none) (bl:= [(S,0),(M,0)]) (vals:= [.pointer (some ⟨S,0,none⟩)]) mixed zxf zzo (fun b hb=>h.kold b (hb.imp_right .inl))
  ⟨zbc ho hrow (.inl rfl),zcS h.srv (.inr rfl),trivial⟩ h.apart zaB trivial (zab (zaY hj1) RL.nil) (zad.2 trivial)) fun e w' hh=> ?_
 obtain ⟨_,j,he⟩:=zbd hh
 have hj1':=he.sub _ _ hj1
 have hj2':=he.sub _ _ hj2
 have lc1:=zag hj1'
 have lc2:=zag hj2'
 have hO:=(he.rows.1 _ hj1').2 (.inr (.inl rfl)) rfl
 have hM:=he.maps.1 _ hj2'
 simp only [AV.val,AV.valL,lc1,lc2,hd.n,hd.d,hd.v,hd.c,hd.nx,hd.us,hd.hd,hd.wr,hd.p,hd.sv,hv3,zay,zaf,zaM,zbA,hd.op,hd.b0,hd.b1,hd.b2,hd.b3,hd.b4,hd.b5] at hO
 have hO':Own w' S (s.row r P M nv sv):=by
  unfold SS.row
  rw [hb]
  exact hO
 have hkA: ∀k,k<w.heap.size→ ¬A k→w'.heap[k]? =w.heap[k]? :=fun k hk ha=>he.mv.block k hk (by rintro (rfl|rfl);exact ha h.srv.aS;exact ha h.srv.aM)
 exact ⟨he.ret,h.same he.mv ⟨_,_,hO',hn.kept hkA,hsv.kept hkA⟩ hM,he.mv.mono fun b hb=>hb.imp_right .inl⟩
theorem Tryz.zDx (h:SW A w S P L Bs B M N r s g):
  Calls prog 28 #[.pointer (some ⟨S,0,none⟩)] w fun e w'=>e= .returned (.tuple #[(zaT N r s g).1,.int .i64 (zaT N r s g).2.1])∧SW A w' S P L Bs B M N r (zaT N r s g).2.2.1 (zaT N r s g).2.2.2∧Dw.Mv (sK S M B) w w':=by
 cases hb:s.br with
 | true=>
  have e:zaT N r s g=(accV 0 0 0,4,s,g):=by unfold zaT;rw [if_pos hb]
  rw [e];exact zsz h hb
 | false=>
  have e0: ¬s.br=true:=by rw [hb];decide
  have hph:=h.phs
  rcases hph with hp|hp|hp|hp|hp|hp|hp|hp|hp|hp|hp|hp|hp
  ·have e:zaT N r s g=(accV 0 0 0,8,s,g):=by unfold zaT;rw [if_neg e0,hp];rfl
   rw [e];exact zzj h hb hp
  ·have e:zaT N r s g=(accV 2 3 0,(zcf r g s).1,(zcf r g s).2,g):=by unfold zaT;rw [if_neg e0,hp];rfl
   rw [e];exact zEY h hb hp
  ·have e:zaT N r s g=(accV 3 9 0,0,s.goto 3,putW g (r.c+4+8*r.n).toNat 2 s.nx):=by unfold zaT;rw [if_neg e0,hp];rfl
   rw [e];exact zCj h hb hp
  ·have e:zaT N r s g=(accV 4 0 0,0,s.goto 4,g):=by unfold zaT;rw [if_neg e0,hp];rfl
   rw [e];exact zyi h hb hp
  ·have e:zaT N r s g=(accV 2 3 0,(zcy r g s).1,(zcy r g s).2,g):=by unfold zaT;rw [if_neg e0,hp];rfl
   rw [e];exact zC1 h hb hp
  ·have e:zaT N r s g=(accV 4 0 0,0,s.goto 6,g):=by unfold zaT;rw [if_neg e0,hp];rfl
   rw [e];exact zyh h hb hp
  ·have e:zaT N r s g=(accV 2 4 (s.nx.tmod r.n),0,zs1 r g s,g):=by unfold zaT;rw [if_neg e0,hp];rfl
   rw [e];exact zEg h hb hp
  ·have e:zaT N r s g=(accV 1 0 0,(chnS N r g s).1,(chnS N r g s).2,g):=by unfold zaT;rw [if_neg e0,hp];rfl
   rw [e];exact zCL h hb hp
  ·have e:zaT N r s g=(accV 3 8 (s.us.tmod r.n),0,s.goto 12,putW g (r.c+4+8*s.us.tmod r.n).toNat 8 (s.hd+s.wr*4294967296)):=by unfold zaT;rw [if_neg e0,hp];rfl
   rw [e];exact ztJ h hb hp
  ·have e:zaT N r s g=(accV 4 0 0,0,s.goto 13,g):=by unfold zaT;rw [if_neg e0,hp];rfl
   rw [e];exact ztH h hb hp
  ·have e:zaT N r s g=(accV 3 7 0,0,({ s with us:=(s.us+1)%65536 }:SS).goto 14,putW g (r.c+2).toNat 2 ((s.us+1)%65536)):=by unfold zaT;rw [if_neg e0,hp];rfl
   rw [e];exact zBL h hb hp
  ·have e:zaT N r s g=(accV 4 0 0,0,s.goto 15,g):=by unfold zaT;rw [if_neg e0,hp];rfl
   rw [e];exact ztG h hb hp
  ·have e:zaT N r s g=(accV 2 (if s.ev=true then 5 else 2) 0,0,zo3 r g s,g):=by unfold zaT;rw [if_neg e0,hp];rfl
   rw [e]
   cases hev:s.ev with
   | true=>simp only [if_true];exact zzb h hb hp hev
   | false=>simp only [Bool.false_eq_true,if_false];exact zza h hb hp hev
def Tryz.zda (s:SS):Int×SS:=if s.br=true then (4,s) else if s.ph≠0 then (8,s) else (0,({ s with op:=3,nn:=false,hd:=0,sg:= [],wr:=0,it:=false }:SS).goto 1)
theorem Tryz.zvz (h:SW A w S P L Bs B M N r s g):
  Calls prog 13 #[.pointer (some ⟨S,0,none⟩)] w fun e w'=>e= .returned (.int .i64 (zda s).1)∧SW A w' S P L Bs B M N r (zda s).2 g∧Dw.Mv (sK S M B) w w':=by
 by_cases hno:s.br=true∨s.ph≠0
 ·have e:zda s=((if s.br=true then 4 else 8),s):=by
   unfold zda
   by_cases hb:s.br=true
   ·rw [if_pos hb,if_pos hb]
   ·rw [if_neg hb,if_neg hb,if_pos (hno.resolve_left hb)]
  rw [e]
  exact (zIB h.srv hno).mono fun en w' hh=>⟨hh.1,hh.2▸h,hh.2▸Dw.Mv.refl _ _⟩
 have hb:s.br=false:=by
  cases hb:s.br with
  | false=>rfl
  | true=>exact absurd (.inl hb) hno
 have hp:s.ph=0:=Decidable.byContradiction fun hp=>hno (.inr hp)
 have e:zda s=(0,({ s with op:=3,nn:=false,hd:=0,sg:= [],wr:=0,it:=false }:SS).goto 1):=by
  unfold zda;rw [if_neg (by rw [hb];decide),if_neg (fun hh=>hh hp)]
 rw [e]
 obtain ⟨nv,sv,ho,hn,hsv⟩:=h.srv.obj
 have hnv:=hn.fn.1 hp
 subst hnv
 have hd:=zbu h.srv 0 0 (vp P) sv undef
 generalize srho r s 0 0 (vp P) sv undef=ρ at*
 have hj2:jOf [(S,0),(M,0)] 2=some ⟨M,0,0,none⟩:=rfl
 have hj1:jOf [(S,0),(M,0)] 1=some ⟨S,0,0,none⟩:=rfl
 refine Calls.mono (zav (ρ:=ρ) (K:=fun b=>b=S∨b=M) (g:=Gho.none) (bl:= [(S,0),(M,0)]) (vals:= [.pointer (some ⟨S,0,none⟩)]) mixed zzB zDE (fun b hb=>h.kold b (hb.imp_right .inl))
  ⟨zbc ho (zcb hd hb hsv.one hj2 rfl) (.inl rfl),zcS h.srv (.inr rfl),trivial⟩ h.apart zaB trivial (zab (zaY hj1) RL.nil) (zad.2 trivial)) fun e w' hh=> ?_
 obtain ⟨_,j,he⟩:=zbd hh
 have hj1':=he.sub _ _ hj1
 have hj2':=he.sub _ _ hj2
 have lc1:=zag hj1'
 have lc2:=zag hj2'
 have hO:=(he.rows.1 _ hj1').2 (.inr (.inl rfl)) rfl
 have hM:=he.maps.1 _ hj2'
 simp only [AV.val,AV.valL,lc1,lc2,hd.n,hd.d,hd.v,hd.c,hd.nx,hd.us,hd.hd,hd.wr,hd.p,hd.sv,zay,zaf,zaM,zbA,hd.op,hd.b0,hd.b1,hd.b2,hd.b3,hd.b4,hd.b5] at hO
 have hmv:Dw.Mv (sK S M B) w w':=he.mv.mono fun b hb=>hb.imp_right .inl
 have hgm:=h.mem.kept (fun k hk hk'=>he.mv.block k hk (h.kmem k hk')) he.mv.size
 exact ⟨he.ret,h.next hmv hgm ⟨_,_,hO,.meth _ rfl rfl,SegV.none⟩ (h.srv.tk.same (h.kA hmv) hM) h.srv.nx h.srv.us z16 z32,hmv⟩
def Tryz.retS (s:SS) (head wr:Int):Int×SS:=
 if s.br=true then (4,s) else if s.ph≠0 then (8,s) else
 match zbz head s.tk with
 | none=>(6,s)
 | some l=>if (zbS l).2<wr then (2,s) else (0,({ s with op:=4,nn:=false,hd:=head,sg:= [],wr:=wr,it:=false }:SS).goto 11)
theorem Tryz.zhZ {l:List Sg} (hok: ∀x∈l,x.ok):0≤(zbS l).1∧(zbS l).1<18446744073709551616∧0≤(zbS l).2∧(zbS l).2<18446744073709551616:=by
 unfold zbS
 by_cases hE:zaZ l=0
 ·rw [if_pos hE]
  have hl:=zhp hE
  have h1:=zck false l hok
  have h2:=zck true l hok
  refine ⟨h1.1,?_,h2.1,?_⟩
  ·show zaD false l<_;omega
  ·show zaD true l<_;omega
 ·rw [if_neg hE];decide
theorem Tryz.zIn (h:SW A w S P L Bs B M N r s g) (head wr:Int) (hw:0≤wr∧wr<4294967296) (hlen: ∀e∈s.tk,e.2.length≤1000000):
  Calls prog 19 #[.pointer (some ⟨S,0,none⟩),.int .i64 head,.int .u32 wr] w fun e w'=>e= .returned (.int .i64 (retS s head wr).1)∧SW A w' S P L Bs B M N r (retS s head wr).2 g∧Dw.Mv (sK S M B) w w':=by
 by_cases hno:s.br=true∨s.ph≠0
 ·have e:retS s head wr=((if s.br=true then 4 else 8),s):=by
   unfold retS
   by_cases hb:s.br=true
   ·rw [if_pos hb,if_pos hb]
   ·rw [if_neg hb,if_neg hb,if_pos (hno.resolve_left hb)]
  rw [e]
  exact (zKG h.srv hno head wr).mono fun en w' hh=>⟨hh.1,hh.2▸h,hh.2▸Dw.Mv.refl _ _⟩
 have hb:s.br=false:=by
  cases hb:s.br with
  | false=>rfl
  | true=>exact absurd (.inl hb) hno
 have hp:s.ph=0:=Decidable.byContradiction fun hp=>hno (.inr hp)
 obtain ⟨nv,sv,ho,hn,hsv⟩:=h.srv.obj
 have hnv:=hn.fn.1 hp
 subst hnv
 have hj2:jOf [(S,0),(M,0)] 2=some ⟨M,0,0,none⟩:=rfl
 have hj1:jOf [(S,0),(M,0)] 1=some ⟨S,0,0,none⟩:=rfl
 obtain ⟨arr1,clock1,g1,g2,g3⟩:=h.srv.tk.map
 have hlt1:=SegV.one hsv
 have key: ∀(tv:Value) (t1 t2:Int),(0≤t1∧t1<18446744073709551616)→(0≤t2∧t2<18446744073709551616)→ ∃ρ:Val,SDen ρ r s (vp P) sv∧ρ.v 2=tv∧ρ.i 20=head∧(u32v 21).den ρ=wr∧(u64v 22).den ρ=t1∧(u64v 23).den ρ=t2:=fun tv t1 t2 b1 b2=>
  ⟨rho r [s.nx,s.us,s.op,s.hd,s.wr,0,0,0,0,0,0,0,0,0,0,0,head,wr,t1,t2] [s.ev,s.tb,s.pk,s.nn,s.it,s.dn] [vp P,sv,tv],
   ⟨zds h.srv.rg,zen h.srv.rg,zey h.srv.rg,zez h.srv.rg,zbj h.srv.nx.1 h.srv.nx.2,zbj h.srv.us.1 h.srv.us.2,rfl,zbj h.srv.hd.1 h.srv.hd.2,zbL h.srv.wr.1 h.srv.wr.2,rfl,rfl,rfl,rfl,rfl,rfl,rfl,rfl⟩,rfl,rfl,zbL hw.1 hw.2,zaH b1.1 b1.2,zaH b2.1 b2.2⟩
 have fin: ∀ {ρ:Val} {e:Ending} {w':World} {j:J} {l:Leaf} {x:Int},SDen ρ r s (vp P) sv→zhl ρ w (fun b=>b=S∨b=M) (segG none []) [(S,0),(M,0)] l e w' j→l.rows= [(1,srow .nilf (.var 5) (.lit false))]→l.maps= [(2,[])]→l.v= .int .i64 (.lit x)→e= .returned (.int .i64 x)∧SW A w' S P L Bs B M N r s g∧Dw.Mv (sK S M B) w w':=fun {ρ e w' j l x} hd he h1 h2 h3=>by
  have hj1':=he.sub _ _ hj1
  have hj2':=he.sub _ _ hj2
  have lc1:=zag hj1'
  have lc2:=zag hj2'
  have hO:=(zdx he.rows (n:=1) (row:=srow .nilf (.var 5) (.lit false)) (by rw [h1];exact .head _) _ hj1').2 (.inr (.inl rfl)) rfl
  have hM:=zhB he.maps (n:=2) (lg:= []) (by rw [h2];exact .head _) _ hj2'
  simp only [srow,AV.val,AV.valL,lc1,lc2,hd.n,hd.d,hd.v,hd.c,hd.nx,hd.us,hd.hd,hd.wr,hd.p,hd.sv,zay,zaf,zaM,zbA,hd.op,hd.b0,hd.b1,hd.b2,hd.b3,hd.b4,hd.b5] at hO
  have hO':Own w' S (s.row r P M .nilFunc sv):=by
   unfold SS.row
   rw [hb]
   exact hO
  have hkA: ∀k,k<w.heap.size→ ¬A k→w'.heap[k]? =w.heap[k]? :=fun k hk ha=>he.mv.block k hk (by rintro (rfl|rfl);exact ha h.srv.aS;exact ha h.srv.aM)
  exact ⟨by rw [he.ret,h3];rfl,h.same he.mv ⟨_,_,hO',.idle hp rfl,hsv.kept hkA⟩ hM,he.mv.mono fun b hb=>hb.imp_right .inl⟩
 cases htk:zbz head s.tk with
 | none=>
  have e:retS s head wr=(6,s):=by unfold retS;rw [if_neg (by rw [hb];decide),if_neg (fun hh=>hh hp),htk]
  rw [e]
  obtain ⟨ρ,hd,_,h20,h21,_,_⟩:=key undef 0 0 (by decide) (by decide)
  refine Calls.mono (zav (ρ:=ρ) (K:=fun b=>b=S∨b=M) (g:=segG none []) (bl:= [(S,0),(M,0)]) (vals:= [.pointer (some ⟨S,0,none⟩),.int .i64 head,.int .u32 wr]) mixed zzz zDC (fun b hb=>h.kold b (hb.imp_right .inl))
   ⟨zbc ho (zcb hd hb hsv.one hj2 rfl) (.inl rfl),⟨.inr rfl,rfl,arr1,clock1,[(head,none)],g1,g2,⟨head,none,[],rfl,zac h20,rfl,rfl⟩,fun k o hm=> ?_⟩,trivial⟩ h.apart ⟨fun _=>False,fun _ h=>h.elim,.inl rfl⟩ trivial (zab (zaY hj1) (zab (zac h20) (zab (zac h21) RL.nil))) (zad.2 trivial)) fun e w' hh=> ?_
  ·simp only [List.mem_cons,Prod.mk.injEq,List.not_mem_nil,or_false] at hm
   obtain ⟨rfl,rfl⟩:=hm
   exact (g3 _).1 htk
  ·obtain ⟨_,j,he⟩:=zbd hh
   exact fin hd he rfl rfl rfl
 | some l=>
  obtain ⟨tv,hv1,hv2⟩:=(g3 head).2 l htk
  have hmem:=zi8 htk
  have hll:l.length≤1000000:=hlen _ hmem
  have hh16:=h.srv.tk.u16 _ hmem
  obtain ⟨sa,c,rfl,hok,hr⟩:=hv2
  obtain ⟨b1,b2,b3,b4⟩:=zhZ hok
  have hv2:SegV A w (.slice sa l.length c) l:=⟨sa,c,rfl,hok,hr⟩
  obtain ⟨ρ,hd,hv,h20,h21,h22,h23⟩:=key (.slice sa l.length c) (zbS l).1 (zbS l).2 ⟨b1,b2⟩ ⟨b3,b4⟩
  obtain ⟨F0,hF0,hF1⟩:=zb7 hv2
  have hG:(segG sa l).G 0 (jOf [(S,0),(M,0)]) w:=by
   rcases hr with h0|⟨R,o,e,hA,hr⟩
   ·exact ⟨fun _=>False,fun _ h=>h.elim,.inl h0⟩
   ·by_cases h0:l= []
    ·exact ⟨fun _=>False,fun _ h=>h.elim,.inl h0⟩
    ·refine ⟨fun b=>b=R,fun b hb=>⟨by rw [hb];exact zci hr h0,fun hm=> ?_⟩,.inr ⟨R,o,e,rfl,hr⟩⟩
     have:=zcK hm
     simp only [List.map_cons,List.map_nil,List.mem_cons,List.not_mem_nil,or_false] at this
     rw [hb] at this
     rcases this with e|e
     ·exact hA (e▸h.srv.aS)
     ·exact hA (e▸h.srv.aM)
  refine Calls.mono (zav (ρ:=ρ) (K:=fun b=>b=S∨b=M) (g:=segG sa l) (bl:= [(S,0),(M,0)]) (vals:= [.pointer (some ⟨S,0,none⟩),.int .i64 head,.int .u32 wr]) mixed zzx zDA (fun b hb=>h.kold b (hb.imp_right .inl))
   ⟨zbc ho (zcb hd hb hsv.one hj2 rfl) (.inl rfl),⟨.inr rfl,rfl,arr1,clock1,[(head,some (.slice sa l.length c))],g1,g2,⟨head,some (.slice sa l.length c),[],rfl,zac h20,⟨_,rfl,za5 hv rfl⟩,rfl⟩,fun k o hm=> ?_⟩,trivial⟩ h.apart hG
   ⟨zas (Dw.enters_of (by kernel_rfl)) (by decide) [.slice sa l.length c] (.tuple #[.int .u64 (zbS l).1,.int .u64 (zbS l).2]) (fun j=>zab (za5 hv rfl) RL.nil) (fun j=>zcz (zab (zac h22) (zab (zac h23) RL.nil))) fun w F q hf=>zpU (SegF.v hf hok c) (by omega),trivial⟩ (zab (zaY hj1) (zab (zac h20) (zab (zac h21) RL.nil))) (zad.2 trivial)) fun e w' hh=> ?_
  ·simp only [List.mem_cons,Prod.mk.injEq,List.not_mem_nil,or_false] at hm
   obtain ⟨rfl,rfl⟩:=hm
   exact hv1
  ·obtain ⟨p,hpm,hto,lf,hlf,j,he⟩:=hh
   unfold zuK at hpm
   simp only [List.mem_cons,List.not_mem_nil,or_false] at hpm
   have hj1':=he.sub _ _ hj1
   have hj2':=he.sub _ _ hj2
   have lc1:=zag hj1'
   have lc2:=zag hj2'
   have hmv:Dw.Mv (sK S M B) w w':=he.mv.mono fun b hb=>hb.imp_right .inl
   have hgm:=h.mem.kept (fun k hk hk'=>he.mv.block k hk (h.kmem k hk')) he.mv.size
   have hkA:=h.kA hmv
   rcases hpm with rfl|rfl
   all_goals
    simp only [zaa,zad,zbV,h21,h23,decide_eq_true_eq,decide_eq_false_iff_not,and_true] at hto
    cases hlf
    have hO:=(he.rows.1 _ hj1').2 (.inr (.inl rfl)) rfl
    have hM:=he.maps.1 _ hj2'
    simp only [AV.val,AV.valL,lc1,lc2,hd.n,hd.d,hd.v,hd.c,hd.nx,hd.us,hd.hd,hd.wr,hd.p,hd.sv,zay,zaf,zaM,zbA,hd.op,hd.b0,hd.b1,hd.b2,hd.b3,hd.b4,hd.b5,h20,h21] at hO
   ·have e:retS s head wr=(2,s):=by unfold retS;rw [if_neg (by rw [hb];decide),if_neg (fun hh=>hh hp),htk];simp only;rw [if_pos (by omega)]
    rw [e]
    have hO':Own w' S (s.row r P M .nilFunc sv):=by
     unfold SS.row
     rw [hb]
     exact hO
    exact ⟨he.ret,h.same he.mv ⟨_,_,hO',.idle hp rfl,hsv.kept hkA⟩ hM,hmv⟩
   ·have e:retS s head wr=(0,({ s with op:=4,nn:=false,hd:=head,sg:= [],wr:=wr,it:=false }:SS).goto 11):=by unfold retS;rw [if_neg (by rw [hb];decide),if_neg (fun hh=>hh hp),htk];simp only;rw [if_neg (by omega)]
    rw [e]
    exact ⟨he.ret,h.next hmv hgm ⟨_,_,hO,.meth _ rfl rfl,SegV.none⟩ (h.srv.tk.same hkA hM) h.srv.nx h.srv.us hh16 hw,hmv⟩
end
end Go.Proofs
namespace Go.Dw
def memN (n:Nat):List Nat→Bool
 | [] => false
 | m::l=>match Nat.beq n m with|true=>true|false=>memN n l
abbrev KE:=SE×Nat×Nat
def zkr:List ME→Option (List KE)
 | [] => some []
 | e::l=>match e.key with
  | .int .i64 x=>(match bnd x with
   | some (p,q)=>(match Nat.blt q 9223372036854775808,zkr l with
    | true,some m=>some ((x,p,q)::m)
    | _,_=>none)
   | none=>none)
  | _=>none
def insK (n:KE):List KE→Option (List KE)
 | [] => some [n]
 | m::l=>match Nat.blt n.2.2 m.2.1 with
  | true=>some (n::m::l)
  | false=>match Nat.blt m.2.2 n.2.1 with
   | true=>(match insK n l with|some k=>some (m::k)|none=>none)
   | false=>none
def zsH:List KE→Option (List KE)
 | [] => some []
 | n::l=>match zsH l with|some m=>insK n m|none=>none
def insN (n:Nat):List Nat→Option (List Nat)
 | [] => some [n]
 | m::l=>match Nat.blt n m with
  | true=>some (n::m::l)
  | false=>match Nat.blt m n with
   | true=>(match insN n l with|some k=>some (m::k)|none=>none)
   | false=>none
def zxj:List Nat→Option (List Nat)
 | [] => some []
 | n::l=>match zxj l with|some m=>insN n m|none=>none
def zk2:List ME→List Nat
 | [] => []
 | e::l=>e.born::zk2 l
def zFL (c:Nat):List Nat→Bool
 | [] => true
 | n::l=>match Nat.blt n c with|true=>zFL c l|false=>false
def zeu:List KE→List AV
 | [] => []
 | n::l=> .int .i64 n.1::zeu l
def zlW (es:List ME) (clock:Nat):Option (List KE):=
 match zkr es with
 | none=>none
 | some ks=>match zxj (zk2 es),zFL clock (zk2 es),Nat.ble ks.length 1000000 with
  | some _,true,true=>zsH ks
  | _,_,_=>none
def zJP (H:Heap) (b:Nat):Option AV:=
 match H.m.get b with
 | some (.cells v _ g closed _ own)=>(match Nat.beq g b,alive H.gw g closed,own,Nat.ble 1 v.n with
  | true,true,true,true=>some (v.get 0)
  | _,_,_,_=>none)
 | _=>none
def zzE (H:Heap) (l:List KE):List (AV×Heap):=
 match l with
 | [] => [(.nils,H)]
 | n::l=>match H with|⟨hm,nx,gw⟩=> [(.sl nx 0 (Nat.succ l.length) (.upto 0),Heap.alloc ⟨hm,nx,gw⟩ (zbh (zeu (n::l)) 1 nx))]
def zgn (c:FuncId) (gs:List Nat) (f:FuncId) (args:List AV) (H:Heap):Option (List (AV×Heap)):=
 match Nat.beq f c with
 | false=>none
 | true=>match args with
  | [.func g [] [.ptr b 0]]=>(match memN g gs,zJP H b with
   | true,some .nilm=>some [(.nils,H)]
   | true,some (.map m)=>(match H.mapAt m with
    | some (es,clock)=>(match zlW es clock with
     | some l=>some (zzE H l)
     | none=>none)
    | none=>none)
   | _,_=>none)
  | _=>none
section
variable {P:Program} {ρ:Val} {w0:Cx} {j:J} {H:Heap} {w w':World}
theorem znZ {n:Nat}: ∀ {l:List Nat},memN n l=true→n∈l
 | [], h=>by cases h
 | m::l,h=>by
  unfold memN at h
  split at h
  ·rename_i hb;rw [zaw hb];exact List.mem_cons_self ..
  ·exact List.mem_cons_of_mem _ (znZ h)
theorem Inv.behind (h:Inv ρ w0 j H w) (hb:RowKit.Below w.heap.size w w'):Inv ρ w0 j H w':=by
 have hold: ∀n L,j n=some L→L.q=none→w'.heap[L.blk]? =w.heap[L.blk]? :=fun n L e q=>hb.block _ (h.blk n L e q)
 refine ⟨h.fr.then hb.os hb.output hb.tape hb.size (fun i hi _=>hb.block i hi),h.dom,fun n L e q=>Nat.lt_of_lt_of_le (h.blk n L e q) hb.size,h.used,fun n L e=> ?_,h.sep,h.tim,h.gwt,h.grp,fun n L e q hn c t fr he=> ?_,h.off0,h.n0,h.nx0,h.z0,h.gho' (Sub.refl j) hb.size (fun b hb' _=>hb.block b hb') (fun b hb'=>Or.inl hb')⟩
 ·obtain ⟨o,h1,h2⟩:=h.obj n L e
  exact ⟨o,h1,ObjR.grow (Sub.refl j) (hold n L e) h2⟩
 ·rw [hold n L e q] at he
  exact h.fz n L e q hn c t fr he
theorem Inv.adoptAt (h:Inv ρ w0 j H w) {n gb:Nat} {o:Obj} {ob:Go.Obj} {c:Nat} (hn:H.m.get n=some o) (hj:j n=none) (hnew:NewR ρ j o ob c)
  (hg: ∀v e g cl sh,o= .cells v e g cl sh true→g=n∨ ∃Lg,j g=some Lg) (hgb:w.heap[gb]? =some ob) (h0:w0.w.heap.size≤gb) (hfree: ∀k L,j k=some L→L.q=none→L.blk≠gb) (hG:w0.G H.gs (jset j n ⟨gb,0,c,none⟩) w):
  Inv ρ w0 (jset j n ⟨gb,0,c,none⟩) H w:=by
 have hsub:=zbM (L:=⟨gb,0,c,none⟩) hj
 have hback: ∀k L,jset j n ⟨gb,0,c,none⟩ k=some L→(k=n∧L=⟨gb,0,c,none⟩)∨(k≠n∧j k=some L):=fun k L e=>by
  by_cases hk:k=n
  ·subst hk;rw [za4] at e;exact .inl ⟨rfl,(Option.some.inj e).symm⟩
  ·rw [zbB _ _ hk] at e;exact .inr ⟨hk,e⟩
 have hown:w0.own gb:=Or.inl h0
 refine ⟨h.fr,fun k L e=> ?_,fun k L e q=> ?_,h.used,fun k L e=> ?_,fun k m Lk Lm hkm e1 e2 q1 q2 hb=> ?_,h.tim,h.gwt,fun k L v e g cl sh e1 e2=> ?_,fun k L hjk hqk hi cs e fr he=> ?_,fun k L v e cl sh e1 e2=>(hback k L e1).elim (fun x=>x.2▸rfl) (fun x=>h.off0 k L v e cl sh x.2 e2),?_,h.nx0,h.z0,hG⟩
 ·rcases hback k L e with ⟨rfl,_⟩|⟨_,e⟩
  ·exact h.used _ _ hn
  ·exact h.dom k L e
 ·rcases hback k L e with ⟨_,rfl⟩|⟨_,e⟩
  ·exact (Array.getElem?_eq_some_iff.1 hgb).1
  ·exact h.blk k L e q
 ·rcases hback k L e with ⟨rfl,rfl⟩|⟨_,e⟩
  ·refine ⟨o,hn,?_⟩
   cases o with
   | cells v esz g cl sh own=>
    obtain ⟨ho,_,arr,e',rfl,h1,h2,h3⟩:=hnew
    refine ⟨rfl,by rw [if_pos ho];exact hown,fun _=>⟨arr,e',(0,0),hgb,by simpa using h1,⟨by simpa using h2.1,h2.2⟩,fun i hi=> ?_⟩⟩
    obtain ⟨x,h4,h5⟩:=h3 i hi
    exact ⟨x,by simpa using h4,h5.mono hsub⟩
   | map es clock=>
    obtain ⟨_,arr,rfl,h1⟩:=hnew
    exact ⟨rfl,hown,rfl,arr,hgb,h1.mono hsub⟩
   | iter m since seen stepped=>
    obtain ⟨_,m',sa,rfl,h1,h2⟩:=hnew
    refine ⟨rfl,hown,rfl,m',sa,hgb,h1,?_⟩
    cases m with
    | none=>exact h2
    | some n=>obtain ⟨Lm,e,x⟩:=h2;exact ⟨Lm,hsub _ _ e,x⟩
   | mapu es=>
    obtain ⟨_,arr,clock,es',rfl,h1,h2⟩:=hnew
    exact ⟨rfl,hown,rfl,arr,clock,es',hgb,h1,h2.mono hsub⟩
   | mapx=>exact hnew.elim
   | opq=>exact hnew.elim
   | gs=>exact hnew.elim
  ·obtain ⟨o',h1,h2⟩:=h.obj k L e
   exact ⟨o',h1,ObjR.grow hsub (fun _=>rfl) h2⟩
 ·rcases hback k Lk e1 with ⟨rfl,rfl⟩|⟨_,e1⟩<;>rcases hback m Lm e2 with ⟨rfl,rfl⟩|⟨_,e2⟩
  ·exact absurd rfl hkm
  ·rename_i e2;exact absurd hb.symm (hfree m Lm e2 q2)
  ·rename_i e1 _;exact absurd hb (hfree k Lk (by assumption) q1)
  ·exact h.sep k m Lk Lm hkm (by assumption) (by assumption) q1 q2 hb
 ·rcases hback k L e1 with ⟨rfl,rfl⟩|⟨_,e1⟩
  ·rw [hn] at e2
   rcases hg _ _ _ _ _ (Option.some.inj e2) with rfl|⟨Lg,e3⟩
   ·exact ⟨_,za4 _ _ _⟩
   ·exact ⟨Lg,hsub _ _ e3⟩
  ·obtain ⟨Lg,e3⟩:=h.grp k L v e g cl sh e1 e2
   exact ⟨Lg,hsub _ _ e3⟩
 ·rcases hback k L hjk with ⟨rfl,rfl⟩|⟨_,hjk⟩
  ·rw [hgb] at he
   cases o with
   | cells v esz g cl sh own=>
    obtain ⟨_,_,arr,e',rfl,_⟩:=hnew
    cases he;rfl
   | map es clock=>obtain ⟨_,arr,rfl,_⟩:=hnew;cases he
   | iter m since seen stepped=>obtain ⟨_,m',sa,rfl,_⟩:=hnew;cases he
   | mapu es=>obtain ⟨_,arr,clock,es',rfl,_⟩:=hnew;cases he
   | mapx=>exact hnew.elim
   | opq=>exact hnew.elim
   | gs=>exact hnew.elim
  ·exact h.fz k L hjk hqk hi cs e fr he
 ·by_cases hk:0=n
  ·rw [←hk] at hn
   obtain ⟨kk,rfl⟩:=h.z0 _ hn
   exact hnew.elim
  ·rw [zbB _ _ hk];exact h.n0
theorem Inv.ghoAt (h:Inv ρ w0 j H w) (hb:RowKit.Below w.heap.size w w') {n gb c:Nat} (hj:j n=none) (hgb:w.heap.size≤gb):w0.G H.gs (jset j n ⟨gb,0,c,none⟩) w':=
 h.gho' (zbM hj) hb.size (fun b hb' _=>hb.block b hb') (fun b hm=>by
  obtain ⟨k,L,e,q,rfl⟩:=hm
  by_cases hk:k=n
  ·subst hk;rw [za4] at e;cases e;exact Or.inr hgb
  ·rw [zbB _ _ hk] at e;exact Or.inl ⟨k,L,e,q,rfl⟩)
structure zGW (P:Program) (f:FuncId):Prop where
 enters:Enters P f
 runs: ∀w,Calls P f #[] w fun e w'=>e= .returned (.bool true)∧RowKit.Below w.heap.size w w'
def zpv:World:=default
theorem zxB {P:Program} (hmo:P.follows .mixedOrders=true) {orc:FuncId→List AV→Heap→Option (List (AV×Heap))} (hor: ∀w,zgf P Val.zero (Cx.plain w) orc) {n:Nat} {f:FuncId} (h:(ev P orc n (.call f [] heap0 isTrue)).good=true):zGW P f:=
  ⟨((zoj (ρ:=Val.zero) (w0:=Cx.plain zpv) (hor zpv) (fun n rec hg=>zj9 hmo hg) n).call f [] heap0 isTrue (Ob.den_of_good h)).1,
   fun w=>zyp (ρ:=Val.zero) hmo (hor w) (inv0 w) RL.nil (Ob.den_of_good h)⟩
structure zwT (P:Program) (c g:FuncId):Prop where
 enters:Enters P c
 sorted: ∀(w:World) (Bm b:Nat) (es:Array MapEntry) (clock:Nat) (ks:List Int),Bm<w.heap.size→w.cell? ⟨Bm,0,none⟩=some (.map (some b))→w.heap[b]? =some (.map es clock)→MapKept.Stamped es clock→
  es.toList.map (·.key)=ks.map encZ→(∀x∈ks,(Lit.int .i64 x).wf=true)→ks.length≤1000000→
  Calls P c #[.func (.func g) #[] #[.pointer (some ⟨Bm,0,none⟩)]] w fun e w'=> ∃v ss t,e= .returned v∧ss.Perm ks∧w'.ownsRow w.heap.size t 1 v ss.length ((ss.mergeSort leI).map encZ)∧(v= .slice none 0 0↔ss= [])∧RowKit.Below w.heap.size w w'
 nil: ∀(w:World) (Bm:Nat),Bm<w.heap.size→w.cell? ⟨Bm,0,none⟩=some (.map none)→
  Calls P c #[.func (.func g) #[] #[.pointer (some ⟨Bm,0,none⟩)]] w fun e w'=>e= .returned (.slice none 0 0)∧RowKit.Below w.heap.size w w'
def denK (ρ:Val) (n:KE):Int:=n.1.den ρ
def okK (ρ:Val) (n:KE):Prop:= ∃x:Nat,denK ρ n=Int.ofNat x∧n.2.1≤x∧x≤n.2.2∧n.2.2<9223372036854775808
theorem zmL: ∀ {es:List ME} {ks:List KE} {xs:List MapEntry},zkr es=some ks→RM ρ j es xs→xs.map (·.key)=(ks.map (denK ρ)).map encZ∧(∀n∈ks,okK ρ n)
 | [], ks,xs,h,hr=>by
  have e:xs= []:=hr
  subst e
  unfold zkr at h;cases h
  exact ⟨rfl,by simp⟩
 | e::es,ks,xs,h,hr=>by
  obtain ⟨x,xs,rfl,hk,_,_,hr⟩:=hr
  unfold zkr at h
  split at h
  case h_2=>cases h
  rename_i n hkey
  split at h
  case h_2=>cases h
  rename_i p q hb
  split at h
  case h_2=>cases h
  rename_i m hlt hm
  cases h
  obtain ⟨h1,h2⟩:=zmL hm hr
  rw [hkey] at hk
  have hk:x.key= .int .i64 (n.den ρ):=hk
  rw [Nat.blt_eq] at hlt
  obtain ⟨y,e1,e2,e3⟩:=ze4 (ρ:=ρ) hb
  refine ⟨by simp only [List.map_cons,h1,hk];rfl,fun z hz=> ?_⟩
  rcases List.mem_cons.1 hz with rfl|hz
  ·exact ⟨y,e1,e2,e3,hlt⟩
  ·exact h2 z hz
theorem zKP {n:KE} (h:okK ρ n):(Lit.int .i64 (denK ρ n)).wf=true:=by
 obtain ⟨x,e,_,h2,h3⟩:=h
 rw [e]
 simp [Lit.wf,IntKind.min,IntKind.max,IntKind.signed,IntKind.bits]
 omega
theorem znw: ∀ {es:List ME} {xs:List MapEntry},RM ρ j es xs→xs.map (·.born)=zk2 es
 | [], xs,hr=>by have e:xs= []:=hr;subst e;rfl
 | e::es,xs,hr=>by
  obtain ⟨x,xs,rfl,_,_,hb,hr⟩:=hr
  simp only [List.map_cons,zk2,znw hr,hb]
theorem zwS {c:Nat}: ∀ {l:List Nat},zFL c l=true→ ∀x∈l,x<c
 | [], _,x,hx=>by cases hx
 | n::l,h,x,hx=>by
  unfold zFL at h
  split at h
  ·rename_i hb
   rw [Nat.blt_eq] at hb
   rcases List.mem_cons.1 hx with rfl|hx
   ·exact hb
   ·exact zwS h x hx
  ·cases h
theorem zrn {n:Nat}: ∀ {l m:List Nat},insN n l=some m→l.Pairwise (· < ·)→m.Pairwise (· < ·)∧m.Perm (n::l)
 | [], m,h,_=>by unfold insN at h;cases h;exact ⟨List.pairwise_singleton _ _,List.Perm.refl _⟩
 | x::l,m,h,hl=>by
  unfold insN at h
  obtain ⟨h1,h2⟩:=List.pairwise_cons.1 hl
  split at h
  ·rename_i hb
   rw [Nat.blt_eq] at hb
   cases h
   refine ⟨List.pairwise_cons.2 ⟨fun y hy=> ?_,hl⟩,List.Perm.refl _⟩
   rcases List.mem_cons.1 hy with rfl|hy
   ·exact hb
   ·have:=h1 y hy;omega
  ·split at h
   ·rename_i hb
    rw [Nat.blt_eq] at hb
    split at h
    ·rename_i k hk
     cases h
     obtain ⟨h3,h4⟩:=zrn hk h2
     refine ⟨List.pairwise_cons.2 ⟨fun y hy=> ?_,h3⟩,(List.Perm.cons x h4).trans (List.Perm.swap n x l)⟩
     rcases List.mem_cons.1 (h4.mem_iff.1 hy) with rfl|hy
     ·exact hb
     ·exact h1 y hy
    ·cases h
   ·cases h
theorem zlX: ∀ {l m:List Nat},zxj l=some m→m.Pairwise (· < ·)∧m.Perm l
 | [], m,h=>by unfold zxj at h;cases h;exact ⟨List.Pairwise.nil,List.Perm.refl _⟩
 | n::l,m,h=>by
  unfold zxj at h
  split at h
  ·rename_i k hk
   obtain ⟨h1,h2⟩:=zlX hk
   obtain ⟨h3,h4⟩:=zrn h h1
   exact ⟨h3,h4.trans (List.Perm.cons n h2)⟩
  ·cases h
theorem zsE {l m:List Nat} (h:zxj l=some m):l.Nodup:=by
 obtain ⟨h1,h2⟩:=zlX h
 exact (h2.nodup_iff).1 (h1.imp fun hlt=>by omega)
theorem zro {n:KE} (hn:okK ρ n): ∀ {l m:List KE},insK n l=some m→(∀k∈l,okK ρ k)→(l.map (denK ρ)).Pairwise (· < ·)→(m.map (denK ρ)).Pairwise (· < ·)∧m.Perm (n::l)
 | [], m,h,_,_=>by unfold insK at h;cases h;exact ⟨List.pairwise_singleton _ _,List.Perm.refl _⟩
 | x::l,m,h,hk,hl=>by
  unfold insK at h
  obtain ⟨h1,h2⟩:=List.pairwise_cons.1 (show (denK ρ x::l.map (denK ρ)).Pairwise (· < ·) from hl)
  obtain ⟨a,ea,a1,a2,_⟩:=hn
  obtain ⟨b,eb,b1,b2,_⟩:=hk x (List.mem_cons_self ..)
  have hk': ∀k∈l,okK ρ k:=fun k h=>hk k (List.mem_cons_of_mem _ h)
  split at h
  ·rename_i hb
   rw [Nat.blt_eq] at hb
   cases h
   have hlt:denK ρ n<denK ρ x:=by rw [ea,eb];exact Int.ofNat_lt.2 (by omega)
   refine ⟨List.pairwise_cons.2 ⟨fun y hy=> ?_,hl⟩,List.Perm.refl _⟩
   rcases List.mem_cons.1 hy with rfl|hy
   ·exact hlt
   ·exact Int.lt_trans hlt (h1 y hy)
  ·split at h
   ·rename_i hb
    rw [Nat.blt_eq] at hb
    split at h
    ·rename_i k hkk
     cases h
     obtain ⟨h3,h4⟩:=zro ⟨a,ea,a1,a2,by assumption⟩ hkk hk' h2
     have hlt:denK ρ x<denK ρ n:=by rw [ea,eb];exact Int.ofNat_lt.2 (by omega)
     refine ⟨List.pairwise_cons.2 ⟨fun y hy=> ?_,h3⟩,(List.Perm.cons x h4).trans (List.Perm.swap n x l)⟩
     rcases List.mem_cons.1 ((h4.map (denK ρ)).mem_iff.1 hy) with rfl|hy
     ·exact hlt
     ·exact h1 y hy
    ·cases h
   ·cases h
theorem zfb: ∀ {l m:List KE},zsH l=some m→(∀k∈l,okK ρ k)→(m.map (denK ρ)).Pairwise (· < ·)∧m.Perm l
 | [], m,h,_=>by unfold zsH at h;cases h;exact ⟨List.Pairwise.nil,List.Perm.refl _⟩
 | n::l,m,h,hk=>by
  unfold zsH at h
  split at h
  ·rename_i k hkk
   obtain ⟨h1,h2⟩:=zfb hkk (fun x hx=>hk x (List.mem_cons_of_mem _ hx))
   obtain ⟨h3,h4⟩:=zro (hk n (List.mem_cons_self ..)) h (fun x hx=>hk x (List.mem_cons_of_mem _ (h2.mem_iff.1 hx))) h1
   exact ⟨h3,h4.trans (List.Perm.cons n h2)⟩
  ·cases h
theorem zsG {l m:List KE} (h:zsH l=some m) (hk: ∀k∈l,okK ρ k):(l.map (denK ρ)).Nodup:=by
 obtain ⟨h1,h2⟩:=zfb (ρ:=ρ) h hk
 exact ((h2.map (denK ρ)).nodup_iff).1 (h1.imp fun hlt=>by omega)
theorem zsF {l m:List KE} (h:zsH l=some m) (hk: ∀k∈l,okK ρ k) {ss:List Int} (hp:ss.Perm (l.map (denK ρ))):ss.mergeSort leI=m.map (denK ρ):=by
 obtain ⟨h1,h2⟩:=zfb (ρ:=ρ) h hk
 have tr: ∀a b c:Int,leI a b=true→leI b c=true→leI a c=true:=fun a b c h1 h2=>by simp only [leI,decide_eq_true_eq] at*;exact Int.le_trans h1 h2
 have tot: ∀a b:Int,(leI a b||leI b a)=true:=fun a b=>by simp only [leI,Bool.or_eq_true,decide_eq_true_eq];exact Int.le_total a b
 refine List.Perm.eq_of_pairwise (le:=fun a b=>leI a b=true) (fun a b _ _ h1 h2=> ?_) (List.pairwise_mergeSort tr tot ss) ?_ (((List.mergeSort_perm ss leI).trans hp).trans (h2.map (denK ρ)).symm)
 ·simp only [leI,decide_eq_true_eq] at h1 h2
  exact Int.le_antisymm h1 h2
 ·refine h1.imp fun hlt=> ?_
  simp only [leI,decide_eq_true_eq]
  exact Int.le_of_lt hlt
theorem zvO: ∀(l:List KE),RL ρ j (zeu l) ((l.map (denK ρ)).map encZ)
 | [] => rfl
 | n::l=>⟨_,_,rfl,rfl,zvO l⟩
theorem zgM: ∀(l:List KE),(zeu l).length=l.length
 | [] => rfl
 | n::l=>by simp [zeu,zgM l]
theorem zxO {k:TypeId} (hk:P.underlying k=some (.int .i64)) {b:Nat} {es:Array MapEntry} {clock:Nat} {ks:List Int} (hb:w.heap[b]? =some (.map es clock)) (hst:MapKept.Stamped es clock)
  (hkeys:es.toList.map (·.key)=ks.map encZ) (hwf: ∀x∈ks,(Lit.int .i64 x).wf=true) (hlen:ks.length≤1000000):
  ∃ D0:DataW Unit,w.ownsMap P k (fun _=>some (.nil,[])) b es.size D0∧(intKeys D0).Perm ks∧Maps.size D0=ks.length:=by
 have hl:es.toList.length=ks.length:=by have:=congrArg List.length hkeys;simpa using this
 have hkey: ∀x∈es.toList,∃a,x.key=encZ a∧(Lit.int .i64 a).wf=true:=fun x hx=>by
  have:x.key∈ks.map encZ:=by rw [←hkeys];exact List.mem_map_of_mem hx
  obtain ⟨a,ha,e⟩:=List.mem_map.1 this
  exact ⟨a,e.symm,hwf a ha⟩
 have hrd: ∀x∈es.toList,∀a,x.key=encZ a→(Lit.int .i64 a).wf=true→WideElems.rd P k (fun _=>some ((.nil:DataW Unit),[])) x=some (.int .i64 a,.nil):=fun x _ a e hw=>by
  unfold WideElems.rd
  rw [e,Maps.keyOf_int_mk hk hw]
  rfl
 refine ⟨_,⟨es,clock,hb,⟨?_,hst,fun x hx=> ?_⟩,Nat.le_refl _,rfl⟩,?_,?_⟩
 ·rw [←Array.length_toList,hl]
  unfold maxLen
  omega
 ·obtain ⟨a,e,hw⟩:=hkey x hx
  exact ⟨_,hrd x hx a e hw⟩
 ·have e:(es.toList.map (WideElems.rg P k (fun _=>some ((.nil:DataW Unit),[])))).map (fun p=>Go.intOf p.1)=ks:=by
   have unz: ∀l:List Int,(l.map encZ).map RowKit.intOf=l:=fun l=>by
    rw [List.map_map]
    conv=>rhs;rw [←List.map_id l]
    rfl
   rw [←unz ks,←hkeys,List.map_map,List.map_map]
   refine List.map_congr_left fun x hx=> ?_
   obtain ⟨a,e,hw⟩:=hkey x hx
   simp only [Function.comp_apply,WideElems.rg,hrd x hx a e hw,Option.getD_some,e]
   rfl
  have h:=(WideShapes.sorted_perm (es.toList.map (WideElems.rg P k (fun _=>some ((.nil:DataW Unit),[]))))).map (fun p=>Go.intOf p.1)
  rw [e] at h
  exact h
 ·show List.length _=_
  rw [(WideShapes.sorted_perm _).length_eq,List.length_map,hl]
theorem zpu {c:FuncId} {gs:List Nat} (h: ∀g∈gs,zwT P c g):zgf P ρ w0 (zgn c gs):=by
 intro f args H l hl
 unfold zgn at hl
 split at hl
 ·cases hl
 rename_i hfc
 have hfc:=zaw hfc
 subst hfc
 split at hl
 case h_2=>cases hl
 rename_i g b
 have start: ∀ {k:K} {j:J} {w:World} {vals:List Value} {x:AV},Inv ρ w0 j H w→RL ρ j [.func g [] [.ptr b 0]] vals→zJP H b=some x→
   ∃ L u,j b=some L∧vals= [.func (.func g) #[] #[.pointer (some ⟨L.blk,0,none⟩)]]∧L.blk<w.heap.size∧w.cell? ⟨L.blk,0,none⟩=some u∧R ρ j x u:=by
  intro k j w vals x hi hv hbox
  obtain ⟨u,m,rfl,hu,hm⟩:=hv
  have e:m= []:=hm
  subst e
  obtain ⟨l',m',rfl,hl',hm'⟩:=hu
  have e:l'= []:=hl'
  subst e
  obtain ⟨p,m2,rfl,hp,hm2⟩:=hm'
  have e:m2= []:=hm2
  subst e
  obtain ⟨L,hj,rfl⟩:=hp
  unfold zJP at hbox
  split at hbox
  case h_2=>cases hbox
  rename_i v esz g' closed sh own hget
  split at hbox
  case h_2=>cases hbox
  rename_i hg hal hone
  cases hbox
  have hg:=zaw hg
  subst hg
  have hoff:=hi.off0 _ L v esz closed sh hj hget
  obtain ⟨o,h1,h2⟩:=hi.obj _ L hj
  rw [hget] at h1;cases h1
  obtain ⟨arr,e,fr,h3,_,_,h5⟩:=h2.2.2 hal
  obtain ⟨y,h6,h7⟩:=h5 0 (Nat.le_of_ble_eq_true hone)
  rw [hoff] at h6
  refine ⟨L,y,hj,by rw [hoff],(Array.getElem?_eq_some_iff.1 h3).1,?_,h7⟩
  simp [World.cell?,h3]
  simpa using h6
 split at hl
 ·rename_i hm hbox
  cases hl
  have ho:=h g (znZ hm)
  refine ⟨ho.enters,fun k hk j w vals hi hv=> ?_⟩
  obtain ⟨L,u,hj,rfl,hlt,hcell,hu⟩:=start (k:=k) hi hv hbox
  have e:u= .map none:=hu
  subst e
  refine Calls.mono (ho.nil w L.blk hlt hcell) fun e w' ⟨he,hb⟩=>⟨_,he,.nils,H,j,rfl,hi.behind hb,St.refl j H,hk⟩
 ·rename_i m hm hbox
  have ho:=h g (znZ hm)
  split at hl
  case h_2=>cases hl
  rename_i es clock hmap
  split at hl
  case h_2=>cases hl
  rename_i ls hsorted
  cases hl
  refine ⟨ho.enters,fun k hk j w vals hi hv=> ?_⟩
  obtain ⟨L,u,hj,rfl,hlt,hcell,hu⟩:=start (k:=k) hi hv hbox
  obtain ⟨Lm,hjm,rfl⟩:=hu
  obtain ⟨arr,harr,hrm⟩:=hi.mapAt hjm hmap
  unfold zlW at hsorted
  split at hsorted
  ·cases hsorted
  rename_i ks hks
  split at hsorted
  case h_2=>cases hsorted
  rename_i bs hbs hall hlen
  obtain ⟨hkeys,hok⟩:=zmL hks hrm
  have hwf: ∀x∈ks.map (denK ρ),(Lit.int .i64 x).wf=true:=fun x hx=>by
   obtain ⟨k,hk,rfl⟩:=List.mem_map.1 hx
   exact zKP (hok k hk)
  have hborn:=znw hrm
  have hnd:=zsG (ρ:=ρ) hsorted hok
  have hst:MapKept.Stamped arr clock:=by
   refine ⟨fun x hx=>zwS hall _ (by rw [←hborn];exact List.mem_map_of_mem hx),by rw [hborn];exact zsE hbs,?_⟩
   rw [hkeys]
   exact List.pairwise_map.2 (hnd.imp fun hne e=>hne (encZ_inj e))
  refine Calls.mono (ho.sorted w L.blk Lm.blk arr clock (ks.map (denK ρ)) hlt hcell harr hst hkeys hwf (by simpa using Nat.le_of_ble_eq_true hlen)) fun e w' ⟨v,ss,t,he,hperm,hrow,hnil,hb⟩=> ?_
  refine ⟨v,he,?_⟩
  have hsort:=zsF (ρ:=ρ) hsorted hok hperm
  have hsslen:ss.length=ls.length:=by rw [hperm.length_eq,List.length_map,(zfb (ρ:=ρ) hsorted hok).2.length_eq]
  rw [hsort,hsslen] at hrow
  have hi':=hi.behind hb
  cases ls with
  | nil=>
   have e:v= .slice none 0 0:=hnil.2 (List.eq_nil_of_length_eq_zero (by rw [hsslen];rfl))
   subst e
   exact ⟨.nils,H,j,rfl,hi',St.refl j H,hk⟩
  | cons n l=>
   rcases hrow.2 with ⟨_,h0⟩|⟨gb,cap,cur,rfl,hbase,hgb,r1,r2,r3,r4⟩
   ·simp at h0
   have hk:Ob.den ρ (k (.sl H.nx 0 (Nat.succ l.length) (.upto 0)) (H.alloc (zbh (zeu (n::l)) 1 H.nx))):=hk
   have hj0:j H.nx=none:=hi.fresh
   have hlenN:(zeu (n::l)).length=l.length+1:=by rw [zgM];rfl
   simp only [List.length_cons,Nat.mul_one] at r1 r3 r4
   have hext:Inv ρ w0 j (H.alloc (zbh (zeu (n::l)) 1 H.nx)) w':=hi'.extend _ (fun v e g t sh ow hob=>by unfold zbh at hob;cases hob)
   have hget:(H.alloc (zbh (zeu (n::l)) 1 H.nx)).m.get H.nx=some (zbh (zeu (n::l)) 1 H.nx):=by rw [Heap.alloc_eq];exact T.get_set_same _ _ _
   have hnew:NewR ρ j (zbh (zeu (n::l)) 1 H.nx) (.cells cur t (0,0)) cap:=by
    refine ⟨rfl,rfl,cur,t,rfl,by rw [Vec.n_ofList,hlenN];omega,⟨by omega,fun _=>by rw [Vec.n_ofList,hlenN];omega⟩,fun i hin=> ?_⟩
    rw [Vec.n_ofList] at hin
    rw [Vec.get_ofList _ i hin]
    obtain ⟨x,h1,h2⟩:=(zvO (ρ:=ρ) (j:=j) (n::l)).get i _ (List.getElem?_eq_getElem hin)
    refine ⟨x,?_,h2⟩
    rw [←r4,List.getElem?_take_of_lt (by omega)] at h1
    simpa using h1
   refine ⟨.sl H.nx 0 (Nat.succ l.length) (.upto 0),_,jset j H.nx ⟨gb,0,cap,none⟩,⟨_,za4 _ _ _,⟨by show 0+(l.length+1)≤cap;omega,by show 0<cap;omega⟩,rfl⟩,
    hext.adoptAt hget hj0 hnew (fun v e g cl sh hob=>by unfold zbh at hob;cases hob;exact .inl rfl) hgb (Nat.le_trans hi.fr.size hbase) (fun q Lq e hqq he=>by have:=hi.blk q Lq e hqq;omega) (by rw [show (H.alloc (zbh (zeu (n::l)) 1 H.nx)).gs=H.gs from by rw [Heap.alloc_eq];exact zry H _ (by have:=hi.nx0;omega)];exact hi.ghoAt hb hj0 hbase),
    ⟨zbM hj0,fun q Lq e e0=> ?_,(St.extend hi' _).keep,(St.extend hi' _).nx⟩,hk⟩
   by_cases hq:q=H.nx
   ·omega
   ·rw [zbB _ _ hq,e0] at e;cases e
 ·cases hl
end
end Go.Dw
namespace Go.Proofs
open Go.Shelf Go.RowKit Go.Maps Go.Sort
def Tryz.zf4:Go.Shelf.Ren:=⟨fun|7=>59|10=>87|n=>n,fun|23=>123|26=>3|3=>36|28=>130|0=>0|27=>129|33=>135|4=>4|n=>n,fun|n=>n⟩
theorem Tryz.zBv:Go.Proofs.SlLaysZI.n7 prog zf4:= {
 mixed:=by kernel_rfl
 f7:=⟨f59.name,by decide,func59.trans (congrArg some (by kernel_rfl))⟩
 f10:=⟨f87.name,by decide,func87.trans (congrArg some (by kernel_rfl))⟩
 t0:=underlying0
 a0:=isAgg0
 z0:=sizeOf0
 v0:=zeroValue0
 t4:=underlying4
 a4:=isAgg4
 z4:=sizeOf4
 v4:=zeroValue4
 t23:=underlying123
 a23:=isAgg123
 z23:=sizeOf123
 v23:=zeroValue123
 t26:=underlying3
 a26:=isAgg3
 z26:=sizeOf3
 v26:=zeroValue3
 t27:=underlying129
 a27:=isAgg129
 z27:=sizeOf129
 v27:=zeroValue129
 t28:=underlying130
 a28:=isAgg130
 z28:=sizeOf130
 v28:=zeroValue130
 t33:=underlying135
 a33:=isAgg135
 z33:=sizeOf135
 v33:=zeroValue135 }
def Tryz.zjs:Go.Shelf.Ren:=⟨fun|6=>58|8=>85|9=>86|11=>115|13=>117|12=>116|23=>138|24=>139|14=>129|15=>130|16=>131|17=>132|18=>133|19=>134|20=>135|21=>136|22=>137|25=>150|26=>151|27=>152|28=>153|29=>154|30=>155|31=>164|n=>n,fun|26=>3|28=>130|24=>35|0=>0|3=>3|37=>26|48=>46|50=>30|4=>4|40=>190|39=>189|45=>195|5=>5|9=>9|51=>210|55=>214|57=>225|58=>118|33=>135|n=>n,fun|n=>n⟩
theorem Tryz.zzF:Go.Proofs.SlLaysZI.n6 prog zjs:= {
 mixed:=by kernel_rfl
 f6:=⟨f58.name,by decide,func58.trans (congrArg some (by kernel_rfl))⟩
 f8:=⟨f85.name,by decide,func85.trans (congrArg some (by kernel_rfl))⟩
 f11:=⟨f115.name,by decide,func115.trans (congrArg some (by kernel_rfl))⟩
 t0:=underlying0
 a0:=isAgg0
 z0:=sizeOf0
 v0:=zeroValue0
 t24:=underlying35
 a24:=isAgg35
 z24:=sizeOf35
 v24:=zeroValue35
 t26:=underlying3
 a26:=isAgg3
 z26:=sizeOf3
 v26:=zeroValue3
 t28:=underlying130
 a28:=isAgg130
 z28:=sizeOf130
 v28:=zeroValue130
 i26:=by kernel_rfl }
def Tryz.zzG:Go.Shelf.Ren:=⟨fun|5=>86|8=>117|7=>116|19=>138|20=>139|10=>129|11=>130|12=>131|13=>132|14=>133|15=>134|16=>135|17=>136|18=>137|30=>150|31=>151|32=>152|33=>153|34=>154|35=>155|40=>164|n=>n,fun|23=>35|25=>3|3=>3|32=>26|22=>35|0=>0|44=>46|46=>30|4=>4|36=>190|35=>189|41=>195|5=>5|9=>9|53=>210|57=>214|63=>225|64=>118|n=>n,fun|n=>n⟩
theorem Tryz.zKx:Go.Proofs.SlLaysM.n5 prog zzG:= {
 mixed:=by kernel_rfl
 f5:=⟨f86.name,by decide,func86.trans (congrArg some (by kernel_rfl))⟩
 f7:=⟨f116.name,by decide,func116.trans (congrArg some (by kernel_rfl))⟩
 f8:=func117.trans (congrArg some (by kernel_rfl))
 f10:=⟨f129.name,by decide,func129.trans (congrArg some (by kernel_rfl))⟩
 f11:=⟨f130.name,by decide,func130.trans (congrArg some (by kernel_rfl))⟩
 f12:=⟨f131.name,by decide,func131.trans (congrArg some (by kernel_rfl))⟩
 f13:=⟨f132.name,by decide,func132.trans (congrArg some (by kernel_rfl))⟩
 f14:=⟨f133.name,by decide,func133.trans (congrArg some (by kernel_rfl))⟩
 f15:=⟨f134.name,by decide,func134.trans (congrArg some (by kernel_rfl))⟩
 f16:=⟨f135.name,by decide,func135.trans (congrArg some (by kernel_rfl))⟩
 f17:=⟨f136.name,by decide,func136.trans (congrArg some (by kernel_rfl))⟩
 f18:=⟨f137.name,by decide,func137.trans (congrArg some (by kernel_rfl))⟩
 f19:=func138.trans (congrArg some (by kernel_rfl))
 f20:=func139.trans (congrArg some (by kernel_rfl))
 f30:=⟨f150.name,by decide,func150.trans (congrArg some (by kernel_rfl))⟩
 f31:=func151.trans (congrArg some (by kernel_rfl))
 f32:=func152.trans (congrArg some (by kernel_rfl))
 f33:=⟨f153.name,by decide,func153.trans (congrArg some (by kernel_rfl))⟩
 f34:=⟨f154.name,by decide,func154.trans (congrArg some (by kernel_rfl))⟩
 f35:=⟨f155.name,by decide,func155.trans (congrArg some (by kernel_rfl))⟩
 f40:=⟨f164.name,by decide,func164.trans (congrArg some (by kernel_rfl))⟩
 t0:=underlying0
 a0:=isAgg0
 z0:=sizeOf0
 v0:=zeroValue0
 t3:=underlying3
 a3:=isAgg3
 z3:=sizeOf3
 v3:=zeroValue3
 t4:=underlying4
 a4:=isAgg4
 z4:=sizeOf4
 v4:=zeroValue4
 t5:=underlying5
 a5:=isAgg5
 z5:=sizeOf5
 v5:=zeroValue5
 t9:=underlying9
 a9:=isAgg9
 z9:=sizeOf9
 v9:=zeroValue9
 t22:=underlying35
 a22:=isAgg35
 z22:=sizeOf35
 v22:=zeroValue35
 t23:=underlying35
 a23:=isAgg35
 z23:=sizeOf35
 v23:=zeroValue35
 t25:=underlying3
 a25:=isAgg3
 z25:=sizeOf3
 v25:=zeroValue3
 t32:=underlying26
 a32:=isAgg26
 z32:=sizeOf26
 v32:=zeroValue26
 t35:=underlying189
 a35:=isAgg189
 z35:=sizeOf189
 v35:=zeroValue189
 t36:=underlying190
 a36:=isAgg190
 z36:=sizeOf190
 v36:=zeroValue190
 t41:=underlying195
 a41:=isAgg195
 z41:=sizeOf195
 v41:=zeroValue195
 t44:=underlying46
 a44:=isAgg46
 z44:=sizeOf46
 v44:=zeroValue46
 t46:=underlying30
 a46:=isAgg30
 z46:=sizeOf30
 v46:=zeroValue30
 t53:=underlying210
 a53:=isAgg210
 z53:=sizeOf210
 v53:=zeroValue210
 t57:=underlying214
 a57:=isAgg214
 z57:=sizeOf214
 v57:=zeroValue214
 t63:=underlying225
 a63:=isAgg225
 z63:=sizeOf225
 v63:=zeroValue225
 t64:=underlying118
 a64:=isAgg118
 z64:=sizeOf118
 v64:=zeroValue118 }
theorem Tryz.zGl (m:Nat):AnyZI.SortsIn prog zjs Fence.wide m:=
  ⟨fun blk off cap ss W hH hblk hsz=>callsIn_wide.2 (AnyM.slices_Sort_int zKx blk off cap ss W hH hblk hsz),
   fun p cap W=>callsIn_wide.2 (AnyM.slices_Sort_int_none zKx p cap W)⟩
theorem Tryz.sortedOk87:Dw.zwT prog 58 87:=
  ⟨⟨f58,_,func58,rfl,by decide⟩,
   fun w Bm b es clock ks hBm hm hb hst hkeys hwf hlen=>by
    obtain ⟨D0,hown,hperm,hsize⟩:=Dw.zxO (P:=prog) underlying3 hb hst hkeys hwf hlen
    have hseq:=AnyZI.keys_gives (ρ:=zf4) { zBv with } Fence.wide 2 trivial rfl (by omega) Bm b es.size D0 w hBm hm hown
    have cS:=AnyZI.sorted_in zzF Fence.wide 5 trivial trivial trivial trivial rfl (by omega) (zGl _) (enters_of func86 (by kernel_rfl) rfl) 87 #[.pointer (some ⟨Bm,0,none⟩)] trivial (enters_of func87 (by kernel_rfl) rfl) _ _ (by rw [hsize];unfold maxLen;omega) (by rw [hsize];omega) _ hseq
    exact (callsIn_wide.1 cS).mono fun e w' ⟨v,ss,he,hS,hrow,hnil,hb⟩=>⟨v,ss,_,he,hS.trans hperm,hrow,hnil,hb⟩,
   fun w Bm hBm hm=>by
    have hseq:=AnyZI.keys_gives_nil (ρ:=zf4) { zBv with } Fence.wide 2 trivial rfl Bm w hBm hm
    have cS:=AnyZI.sorted_in zzF Fence.wide 5 trivial trivial trivial trivial rfl (by omega) (zGl _) (enters_of func86 (by kernel_rfl) rfl) 87 #[.pointer (some ⟨Bm,0,none⟩)] trivial (enters_of func87 (by kernel_rfl) rfl) _ 0 (Nat.zero_le _) (by omega) _ hseq
    exact (callsIn_wide.1 cS).mono fun e w' ⟨v,ss,he,hS,hrow,hnil,hb⟩=>⟨by rw [he,hnil.2 hS],hb⟩⟩
theorem Tryz.zHV {ρ:Dw.Val} {w:Dw.Cx}:Dw.zgf prog ρ w (Dw.zgn 58 [87]):=Dw.zpu fun g hg=>by
 simp only [List.mem_cons,List.not_mem_nil,or_false] at hg
 rcases hg with rfl
 ·exact sortedOk87
end Go.Proofs
end
