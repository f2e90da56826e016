/-
  Proved: laws on the way to 'SserveTakesProof' (texts XcX XcY XcZ XdA XdB0 XdB XdC XdD XbI XbK XbM XbN XbF XbG XbE XbO XbP XbQ XbR XcP XdE XdF XdG0 XdG XdH XdI XdJ XdK XdK0 XdL Lives6 Enter SserveTakesFacts); no condition.
-/
import Derived.Test.YtpogddachhjgaaaGreatM5
import Derived.OpenShut
import Derived.Lib.LaidU8
import Derived.Deep.RegionHeld3
import Derived.Deep.DrawnRows
import Derived.Test.YtpogddachhjgaaaGreatProg
import Derived.KernelRfl
import Derived.Test.YtpogddachhjgaaaGreatRows
import Derived.WalkKit
import Derived.ProofKit
set_option linter.unusedSimpArgs false
set_option linter.unusedVariables false
set_option maxHeartbeats 4000000
noncomputable section
namespace Go.Proofs
open Go.Dw Go.RowKit Go.Maps Go.Sort
section
variable {X:Nat→Prop} {bX:Nat} {ρ:Val} {w0:World} {K:Nat→Prop} {S P L Bs B M N:Nat} {r:Tryz.Rg} {b2:Nat} {sk:Nat→Tryz.SS} {gk:Nat→Nat→Int} {rows:Nat→List Tryz.LwR} {f:FuncId} {args:List AV} {res:AV} {k k':Nat}
theorem Tryz.zIZ {z:Value→Value} {q:Nat} {e0:LwR} (he:Dw.Enters prog f) (hx:AV.exactL args=true) (hbX:bX≤w0.heap.size) (V:List Value) (ha: ∀j,RL ρ j args V) (hb2:b2≤w0.heap.size) (hr: ∀j u,j q=some ⟨0,0,0,some u⟩→u.oneCell'=true→(∃sa c,u= .slice sa e0.n c)→Dw.R ρ j res (z u)) (hrows: ∀e∈rows k',e=e0∨e∈rows k) (hq:e0.q=some q) (hs:sk k'=sk k) (hg:gk k'=gk k)
  (h: ∀(A:Nat→Prop) (w:World),SW A w S P L Bs B M N r (sk k) (gk k)→Calls prog f V.toArray w fun e w'=> ∃(u:Value) (t:TypeId),e= .returned (z u)∧OwnR t e0.sz w' w.heap.size u e0.n e0.cs∧Below w.heap.size w w'):
  za3 prog ρ w0 K (lwG X bX S P L Bs B M N r b2 sk gk rows) ⟨f,args,k,q,1,res,k'⟩:=by
 refine ⟨he,fun j w vals F n hv hnone hb hF hsz hf _=> ?_⟩
 have hb:n=q:=hb (by show (1:Nat)≠0;decide)
 subst hb
 have hv:=zcF hx hv (ha j)
 subst hv
 obtain ⟨hXF,F0,hF0,h1,h2⟩:=hf
 refine Calls.mono (h _ w h1.sw) fun en w' hh=> ?_
 obtain ⟨u,t,rfl,hu,hbl⟩:=hh
 have hj:jq j n [u] n=some ⟨0,0,0,some u⟩:=by
  unfold jq
  rw [if_pos ⟨Nat.le_refl _,by simp⟩]
  simp
 obtain ⟨sa,c,hsl,_⟩:=OwnR.row hu
 refine ⟨z u,[u],fun b=>F b∨u.ownBlock=some b,rfl,rfl,hr _ u hj (OwnR.one hu) ⟨sa,c,hsl⟩,⟨fun b hb=> ?_,F0,fun b hb=> .inl (hF0 b hb),?_,fun e he=> ?_⟩,?_,Dw.Mv.of_below hbl⟩
 ·rcases hb with hb|hb
  ·exact hXF b hb
  ·have:=(OwnR.lt hu b hb).1
   exact .inr (by omega)
 ·show LwF S P L Bs B M N r (sk k') (gk k') _ w'
  rw [hs,hg]
  exact h1.kept (fun b hb=>hbl.block b (hF b (hF0 b hb))) hbl.size
 ·rcases hrows e he with rfl|he
  ·refine ⟨u,t,?_,OwnR.mono hu (by omega),fun b hb=>⟨.inr hb,fun hn=> ?_⟩⟩
   ·unfold LwR.is
    rw [hq]
    exact zbo
   ·have:=(OwnR.lt hu b hb).1
    have:=hF b (hF0 b hn)
    omega
  ·obtain ⟨v,t',q1,q2,q3⟩:=h2 e he
   refine ⟨v,t',?_,OwnR.kept q2 fun b hb=>hbl.block b (OwnR.lt q2 b hb).2,fun b hb=>⟨.inl (q3 b hb).1,(q3 b hb).2⟩⟩
   unfold LwR.is at q1 ⊢
   split at q1
   ·rename_i m hm
    unfold opqs jq at*
    by_cases hlt:n≤m
    ·have:=hnone m hlt
     rw [this] at q1;cases q1
    ·rw [if_neg (fun hh=>hlt hh.1)];exact q1
   ·exact q1
 ·rintro b (hb|hb)
  ·exact ⟨Nat.lt_of_lt_of_le (hF b hb) hbl.size,.inl hb⟩
  ·exact ⟨(OwnR.lt hu b hb).2,.inr (OwnR.lt hu b hb).1⟩
def Tryz.zBk (k k' q:Nat) (op wr:Int) (nn it:SB) (hd:SE):Ent:=⟨15,[.cst 2 none],k,q,1,.tup [.agg [.int .i64 (.lit op),.bool nn,.int .i64 hd,.opq q none,.int .u32 (.lit wr),.bool it],.bool (.lit true)],k'⟩
def Tryz.sgR (q:Nat) (l:List Sg):LwR:=⟨some q,undef,3,l.length,zaP l⟩
theorem Tryz.zBj {q:Nat} {op wr:Int} {nn it:SB} {hd:SE} (hv2:ρ.v 2= .pointer (some ⟨S,0,none⟩)) (hph:(sk k).ph=0) (hbr:(sk k).br=false) (hdn:(sk k).dn=true) (hln:(sk k).sg.length≤1000000) (hop:(sk k).op=op) (hwr:(sk k).wr=wr) (hnn:nn.den ρ=(sk k).nn) (hit:it.den ρ=(sk k).it) (hhd:hd.den ρ=(sk k).hd)
  (hbX:bX≤w0.heap.size) (hb2:b2≤w0.heap.size) (hrows: ∀e∈rows k',e=sgR q (sk k).sg∨e∈rows k) (hs:sk k'=sk k) (hg:gk k'=gk k):
  za3 prog ρ w0 K (lwG X bX S P L Bs B M N r b2 sk gk rows) (zBk k k' q op wr nn it hd):=
 zIZ (z:=fun u=> .tuple #[.agg #[.int .i64 op,.bool (sk k).nn,.int .i64 (sk k).hd,u,.int .u32 wr,.bool (sk k).it],.bool true]) (e0:=sgR q (sk k).sg) (Dw.enters_of (by kernel_rfl)) (show AV.exactL [.cst 2 none]=true by decide) hbX [.pointer (some ⟨S,0,none⟩)] (fun j=>zab (za5 hv2 rfl) RL.nil) hb2
  (fun j u hj ho _=>zcz (zab (zlu (zab (zac rfl) (zab (zaO hnn) (zab (zac hhd) (zab ⟨⟨_,hj,rfl⟩,ho,fun _ h=>by cases h⟩ (zab (zac rfl) (zab (zaO hit) RL.nil)))))) ) (zab (zaO rfl) RL.nil))) hrows rfl hs hg
  fun A w hsw=>Calls.mono (zwx hsw.srv hph hbr hdn hln) fun e w' ⟨u,h1,h2,h3⟩=>⟨u,48,by rw [h1,hop,hwr],h2,h3⟩
end
end Go.Proofs
namespace Go.Proofs
open Go.Dw Go.RowKit Go.Maps Go.Sort
theorem Tryz.zEL {t:TypeId} {w:World} {b2:Nat} {v:Value} {l:List Sg} (h:OwnR t 3 w b2 v l.length (zaP l)) (hok: ∀x∈l,x.ok):SegV (fun _=>False) w v l:=by
 obtain ⟨sa,c,e,hr⟩:=OwnR.row h
 refine ⟨sa,c,e,hok,?_⟩
 rcases hr with hr|⟨G,e2,_,hG⟩
 ·left
  have:=congrArg List.length hr
  rw [zcd] at this
  exact List.length_eq_zero_iff.1 (by simp at this;omega)
 ·exact .inr ⟨G,0,e2,fun h=>h,hG⟩
def Tryz.zBh (k q:Nat):Ent:=⟨16,[.opq q none,zcG],k,0,0,.bool (.lit true),k⟩
theorem Tryz.zBg {ρ:Val} {w0:World} {K:Nat→Prop} {X:Nat→Prop} {bX:Nat} {S P L Bs B M N:Nat} {r:Rg} {b2:Nat} {sk:Nat→SS} {gk:Nat→Nat→Int} {rows:Nat→List LwR} {k q:Nat} {l:List Sg} {sv:Value}
  (hv1:ρ.v 1=sv) (hsv:SegV (fun _=>False) w0 sv l) (hR: ∀R o' c',sv= .slice (some ⟨R,o',none⟩) l.length c'→ ¬K R) (hl:l.length<4000000) (he0:sgR q l∈rows k):
  za3 prog ρ w0 K (lwG X bX S P L Bs B M N r b2 sk gk rows) (zBh k q):=by
 refine ⟨Dw.enters_of (by kernel_rfl),fun j w vals F n0 hv hnone _ hF hsz hf hold=> ?_⟩
 obtain ⟨x0,_,rfl,y0,hv⟩:=hv
 obtain ⟨x1,_,rfl,y1,hv⟩:=hv
 have hv:_= []:=hv
 subst hv
 have hf0:=hf
 obtain ⟨hXF,F0,hF0,h1,h2⟩:=hf
 obtain ⟨u,t,q1,q2,q3⟩:=h2 _ he0
 have y0:x0=u:=by
  obtain ⟨⟨Lq,hj,hu⟩,_⟩:=y0
  unfold LwR.is sgR at q1
  simp only at q1
  unfold opqs at q1
  rw [hj] at q1
  simp only [Option.bind_some] at q1
  rw [hu] at q1
  injection q1
 have y1:x1=sv:=by rw [R_val rfl y1];exact hv1
 subst y0 y1
 have hok:=hsv.choose_spec.choose_spec.2.1
 have hs1:=zEL (l:=l) q2 hok
 have hs2:SegV (fun _=>False) w x1 l:=by
  obtain ⟨sa',c',e,hok,hr'⟩:=hsv
  refine ⟨sa',c',e,hok,?_⟩
  by_cases h0:l= []
  ·exact .inl h0
  ·rcases hr' with h|⟨R,o,e1,h3,h4⟩
   ·exact .inl h
   ·exact .inr ⟨R,o,e1,h3,zaJ h4 (hold R (zci h4 h0) (hR R o c' (by rw [e,e1])))⟩
 refine Calls.mono (zzX hs1 hs2 hl hl) fun en w' hh=> ?_
 obtain ⟨rfl,hbl⟩:=hh
 refine ⟨.bool (decide (l=l)),[],F,rfl,rfl,zaO (by simp [SB.den]),?_,fun b hb=>⟨Nat.lt_of_lt_of_le (hF b hb) hbl.size,.inl hb⟩,Dw.Mv.of_below hbl⟩
 exact (lwG X bX S P L Bs B M N r b2 sk gk rows).loc k _ _ F w w' hf0 (fun m v hm=>zgJ (zrd hnone) hm) (fun b hb=>hbl.block b (hF b hb)) hbl.size
end Go.Proofs
namespace Go.Proofs
open Go.Dw Go.RowKit
def Tryz.zeE:AV:= .sx 4 (lnv 7) 1 [(lnv 6,2)]
def Tryz.zDl:AV:= .cst 5 (some (lnv 5))
def Tryz.zb9:List (Nat×AV):= [(0,.int .i64 (szv 0)),(3,.cst 103 none),(9,.cst 0 none),(10,.cst 2 none),(11,.ptr 1 0),(14,zDl)]
def Tryz.zfV (bufs:AV):List (Nat×AV):= [(2,bufs),(13,.int .i64 (lnv 13)),(15,.int .i64 (lnv 6))]++zb9
def Tryz.znC:Ent:=⟨10,[zcG,.bool (.lit true)],0,0,0,.int .i64 (.var 40),0⟩
def Tryz.zuq (k k' q:Nat):Ent:=⟨12,[.cst 0 none,rg,.opq q none,zcG,.int .i64 (lnv 5)],k,0,0,.bool (.lit true),k'⟩
def Tryz.zy1 (k k':Nat):Ent:=⟨13,[.cst 2 none],k,0,0,.int .i64 (.lit 0),k'⟩
def Tryz.zbf (G Q B q:Nat):LEnt:=⟨[0,1,0,1,1,1,1,0,0,1,0,0,1,0,1,1,1,1,1,1,1,1,3],299,0,
 [(2,zeE),(13,.int .i64 (lnv 13)),(15,.int .i64 (lnv 6)),(16,.ptr Q 0),(18,.nils),(19,.bool (.cmp .eql (.var 40) (.lit 1))),(20,.int .i64 (.lit 0))]++zb9,[],
 [(2,[zcG]),(Q,[.sl G 0 1 (.upto 0),.sl B 0 1 (.upto 0)]),(G,[.int .u64 (.lit 0),.int .u64 (.lit 4000)])],q,1,
 [⟨.var 3,.exit 2,[(2,zeE),(13,.int .i64 (lnv 13)),(15,.int .i64 (lnv 6)),(18,.opq q none),(19,.bool (.lit true))]++zb9,1⟩,⟨.lit true,.exit 2,[(2,zeE),(13,.int .i64 (lnv 13)),(15,.int .i64 (lnv 6)),(18,.opq q none),(19,.bool (.lit false))]++zb9,1⟩]⟩
def Tryz.hdsA (k k' q:Nat):AEnt:=⟨35,zDl,1,[.int .i64 (lnv 13)],k,q,1,.opq q none,k'⟩
def Tryz.zKs:Ent:=⟨11,[.cst 8 none,.int .u64 (u64v 8),.int .u64 (u32v 9)],2,0,0,.bool (.var 10),2⟩
def Tryz.tiA:AEnt:=⟨35,.cst 3 none,1,[.int .i64 (.bin .add .i64 (lnv 13) (lnv 20))],1,4,1,.opq 4 none,2⟩
end Go.Proofs
namespace Go.Proofs
open Go.Dw
def Tryz.zup:List Ent:= []
def Tryz.zyX:List Sh:= [.ro zfM]
def Tryz.zi7:List (Nat×AV):=zfV (.sx 4 (lnv 7) 1 [])
def Tryz.zoQ:List LEnt:= []
def Tryz.zoR:List AEnt:= []
def Tryz.zyY:Option AV:=none
def Tryz.zHz:List (SB×Bool):= [(.cmp .lss (lnv 6) (lnv 7),false)]
def Tryz.zF4:List zbe:= [
 ⟨(.exit 0),[0,3,9,10,11,14],none,⟨.tup [.int .i64 (szv 0),.cst 103 none,.cst 0 none,.cst 2 none,.ptr 1 0,.cst 5 (some (lnv 5))],[(1,[.bool (.lit false),.int .i64 (szv 0),.int .u64 (u64v 1),.int .u64 (u64v 2),.int .u64 (u64v 3)])],[],0,[]⟩⟩]
def Tryz.zF3:List (List (SB×Bool)×Nat):= [
 ([], 0)]
theorem Tryz.zHy:(evL prog (zau zup) (zaC zoQ) (zaA zoR) 100000 (.code (zaI prog [0,0,1,0,1,1,1,1,1,1,1,1,3]) [0,0,1,0,1,1,1,1,1,1,1,1,3] 299 (envS 299 zi7 zyY) (zar 0 zyX) (zaG zF4 0))).ways zHz=some zF3:=by kernel_rfl
theorem Tryz.zKm:(zah zyX&&zae zup&&zan zoQ&&zao zoR&&zaq zi7&&zal zF4&&zaF 299 zi7&&Nat.ble 299 zaN&&zaz zyY)=true:=by kernel_rfl
def Tryz.zus:List Ent:= []
def Tryz.zy4:List Sh:= [.ro zfM,.ro [zcG]]
def Tryz.zja:List (Nat×AV):=zfV zeE
def Tryz.zoX:List LEnt:= []
def Tryz.zoY:List AEnt:= []
def Tryz.zy5:Option AV:=none
def Tryz.zHD:List (SB×Bool):= [(.cmp .lss (lnv 6) (lnv 7),true),(.cmp .eql (lnv 4) (.lit 0),true)]
def Tryz.zF8:List zbe:= [
 ⟨.normal,[2,13,15,0,3,9,10,11,14],none,⟨.tup [.sx 4 ((lnv 7)) 1 [((lnv 6),2)],.int .i64 (lnv 13),.int .i64 (.bin .add .i64 (lnv 6) (.lit 1)),.int .i64 (szv 0),.cst 103 none,.cst 0 none,.cst 2 none,.ptr 1 0,.cst 5 (some (lnv 5))],[(1,[.bool (.lit false),.int .i64 (szv 0),.int .u64 (u64v 1),.int .u64 (u64v 2),.int .u64 (u64v 3)])],[],0,[]⟩⟩]
def Tryz.zF7:List (List (SB×Bool)×Nat):= [
 ([], 0)]
theorem Tryz.zHC:(evL prog (zau zus) (zaC zoX) (zaA zoY) 100000 (.code (zaI prog [0,0,1,0,1,1,1,1,1,1,1,1,3]) [0,0,1,0,1,1,1,1,1,1,1,1,3] 299 (envS 299 zja zy5) (zar 0 zy4) (zaG zF8 0))).ways zHD=some zF7:=by kernel_rfl
theorem Tryz.zKp:(zah zy4&&zae zus&&zan zoX&&zao zoY&&zaq zja&&zal zF8&&zaF 299 zja&&Nat.ble 299 zaN&&zaz zy5)=true:=by kernel_rfl
def Tryz.zur:List Ent:= []
def Tryz.zy2:List Sh:= [.ro zfM,.ro [zcG]]
def Tryz.zi9:List (Nat×AV):=zfV zeE
def Tryz.zoV:List LEnt:= []
def Tryz.zoW:List AEnt:= []
def Tryz.zy3:Option AV:=none
def Tryz.zHB:List (SB×Bool):= [(.cmp .lss (lnv 6) (lnv 7),true),(.cmp .eql (lnv 4) (.lit 0),false),(.cmp .gtr (lnv 4) (.bin .sub .i64 (szv 0) (lnv 13)),true)]
def Tryz.zF6:List zbe:= [
 ⟨.normal,[2,13,15,0,3,9,10,11,14],none,⟨.tup [.sx 4 ((lnv 7)) 1 [((lnv 6),2)],.int .i64 (lnv 13),.int .i64 (.bin .add .i64 (lnv 6) (.lit 1)),.int .i64 (szv 0),.cst 103 none,.cst 0 none,.cst 2 none,.ptr 1 0,.cst 5 (some (lnv 5))],[(1,[.bool (.lit false),.int .i64 (szv 0),.int .u64 (u64v 1),.int .u64 (u64v 2),.int .u64 (u64v 3)])],[],0,[]⟩⟩]
def Tryz.zF5:List (List (SB×Bool)×Nat):= [
 ([], 0)]
theorem Tryz.zHA:(evL prog (zau zur) (zaC zoV) (zaA zoW) 100000 (.code (zaI prog [0,0,1,0,1,1,1,1,1,1,1,1,3]) [0,0,1,0,1,1,1,1,1,1,1,1,3] 299 (envS 299 zi9 zy3) (zar 0 zy2) (zaG zF6 0))).ways zHB=some zF5:=by kernel_rfl
theorem Tryz.zKo:(zah zy2&&zae zur&&zan zoV&&zao zoW&&zaq zi9&&zal zF6&&zaF 299 zi9&&Nat.ble 299 zaN&&zaz zy3)=true:=by kernel_rfl
def Tryz.zuu:List Ent:= [zKs]
def Tryz.zy8:List Sh:= [.ro [.sx 1 (lnv 4) 3 [(lnv 20,2)]],.ro [.int .u64 (u64v 8),.int .u32 (u32v 9),.bool (.var 12)]]
def Tryz.zjc:List (Nat×AV):= [(2,.sx 4 (lnv 7) 1 [(lnv 6,1)]),(13,.int .i64 (lnv 13)),(15,.int .i64 (lnv 6)),(16,.cst 8 none),(18,.cst 3 none),(19,.bool (.var 11)),(20,.int .i64 (lnv 20))]++zmJ [0,3,9,10,11,14]
def Tryz.zo1:List LEnt:= []
def Tryz.zo2:List AEnt:= [tiA]
def Tryz.zy9:Option AV:=none
def Tryz.zHH:List (SB×Bool):= [(.cmp .lss (lnv 20) (lnv 4),true)]
def Tryz.zGc:List zbe:= [
 ⟨.normal,[2,13,15,16,18,19,20,0,3,9,10,11,14],none,⟨.tup [.sx 4 ((lnv 7)) 1 [((lnv 6),1)],.int .i64 (lnv 13),.int .i64 (lnv 6),.cst 8 none,.opq 4 none,.bool (.and (.var 11) (.var 10)),.int .i64 (.bin .add .i64 (lnv 20) (.lit 1)),.cst 100 none,.cst 103 none,.cst 109 none,.cst 110 none,.cst 111 none,.cst 114 none],[],[],2,[]⟩⟩,
 ⟨.normal,[2,13,15,16,18,19,20,0,3,9,10,11,14],none,⟨.tup [.sx 4 ((lnv 7)) 1 [((lnv 6),1)],.int .i64 (lnv 13),.int .i64 (lnv 6),.cst 8 none,.opq 4 none,.bool (.lit false),.int .i64 (.bin .add .i64 (lnv 20) (.lit 1)),.cst 100 none,.cst 103 none,.cst 109 none,.cst 110 none,.cst 111 none,.cst 114 none],[],[],2,[]⟩⟩]
def Tryz.zGb:List (List (SB×Bool)×Nat):= [
 ([(.var 11,true)],0),
 ([(.var 11,false)],1)]
theorem Tryz.zHG:(evL prog (zau zuu) (zaC zo1) (zaA zo2) 100000 (.code (zaI prog [0,0,1,0,1,1,1,1,0,0,1,0,0,1,0,1,1,1,1,1,1,1,1,3]) [0,0,1,0,1,1,1,1,0,0,1,0,0,1,0,1,1,1,1,1,1,1,1,3] 299 (envS 299 zjc zy9) (zar 1 zy8) (zaG zGc 0))).ways zHH=some zGb:=by kernel_rfl
theorem Tryz.zKr:(zah zy8&&zae zuu&&zan zo1&&zao zo2&&zaq zjc&&zal zGc&&zaF 299 zjc&&Nat.ble 299 zaN&&zaz zy9)=true:=by kernel_rfl
def Tryz.zut:List Ent:= []
def Tryz.zy6:List Sh:= [.ro [zcG]]
def Tryz.zjb:List (Nat×AV):= [(2,.sx 4 (lnv 7) 1 [(lnv 6,1)]),(13,.int .i64 (lnv 13)),(15,.int .i64 (lnv 6)),(16,.cst 8 none),(18,.cst 3 none),(19,.bool (.var 11)),(20,.int .i64 (lnv 20))]++zmJ [0,3,9,10,11,14]
def Tryz.zoZ:List LEnt:= []
def Tryz.zo0:List AEnt:= []
def Tryz.zy7:Option AV:=none
def Tryz.zHF:List (SB×Bool):= [(.cmp .lss (lnv 20) (lnv 4),false)]
def Tryz.zGa:List zbe:= [
 ⟨(.exit 2),[2,13,15,18,19,0,3,9,10,11,14],none,⟨.tup [.sx 4 ((lnv 7)) 1 [((lnv 6),1)],.int .i64 (lnv 13),.int .i64 (lnv 6),.cst 3 none,.bool (.var 11),.cst 100 none,.cst 103 none,.cst 109 none,.cst 110 none,.cst 111 none,.cst 114 none],[],[],0,[]⟩⟩]
def Tryz.zF9:List (List (SB×Bool)×Nat):= [
 ([], 0)]
theorem Tryz.zHE:(evL prog (zau zut) (zaC zoZ) (zaA zo0) 100000 (.code (zaI prog [0,0,1,0,1,1,1,1,0,0,1,0,0,1,0,1,1,1,1,1,1,1,1,3]) [0,0,1,0,1,1,1,1,0,0,1,0,0,1,0,1,1,1,1,1,1,1,1,3] 299 (envS 299 zjb zy7) (zar 0 zy6) (zaG zGa 0))).ways zHF=some zF9:=by kernel_rfl
theorem Tryz.zKq:(zah zy6&&zae zut&&zan zoZ&&zao zo0&&zaq zjb&&zal zGa&&zaF 299 zjb&&Nat.ble 299 zaN&&zaz zy7)=true:=by kernel_rfl
def Tryz.zun:List Ent:= [znC]
def Tryz.zyT:List Sh:= [.ro zfM,.ro [zcG]]
def Tryz.zi5:List (Nat×AV):=zfV zeE
def Tryz.zoM:List LEnt:= [zbf 5 6 9 10]
def Tryz.zoN:List AEnt:= []
def Tryz.zyU:Option AV:=none
def Tryz.zHv:List (SB×Bool):= [(.cmp .lss (lnv 6) (lnv 7),true),(.cmp .eql (lnv 4) (.lit 0),false),(.cmp .gtr (lnv 4) (.bin .sub .i64 (szv 0) (lnv 13)),false),(.var 3,false)]
def Tryz.zF0:List zbe:= [
 ⟨.normal,[2,13,15,0,3,9,10,11,14],none,⟨.tup [.sx 4 ((lnv 7)) 1 [((lnv 6),2)],.int .i64 (lnv 13),.int .i64 (.bin .add .i64 (lnv 6) (.lit 1)),.int .i64 (szv 0),.cst 103 none,.cst 0 none,.cst 2 none,.ptr 1 0,.cst 5 (some (lnv 5))],[(1,[.bool (.lit false),.int .i64 (szv 0),.int .u64 (u64v 1),.int .u64 (u64v 2),.int .u64 (u64v 3)])],[],1,[]⟩⟩]
def Tryz.zFZ:List (List (SB×Bool)×Nat):= [
 ([], 0)]
theorem Tryz.zHu:(evL prog (zau zun) (zaC zoM) (zaA zoN) 100000 (.code (zaI prog [0,0,1,0,1,1,1,1,1,1,1,1,3]) [0,0,1,0,1,1,1,1,1,1,1,1,3] 299 (envS 299 zi5 zyU) (zar 0 zyT) (zaG zF0 0))).ways zHv=some zFZ:=by kernel_rfl
theorem Tryz.zKk:(zah zyT&&zae zun&&zan zoM&&zao zoN&&zaq zi5&&zal zF0&&zaF 299 zi5&&Nat.ble 299 zaN&&zaz zyU)=true:=by kernel_rfl
def Tryz.zuo:List Ent:= [znC,zuq 1 2 10,zy1 2 3,zBi 3 4 4,zBk 4 5 11 3 0 (.lit false) (.lit false) (lnv 13),zBh 5 11]
def Tryz.zyV:List Sh:= [.ro zfM,.ro [zcG]]
def Tryz.zi6:List (Nat×AV):=zfV zeE
def Tryz.zoO:List LEnt:= [zbf 5 6 9 10]
def Tryz.zoP:List AEnt:= [hdsA 5 6 14]
def Tryz.zyW:Option AV:=none
def Tryz.zHx:List (SB×Bool):= [(.cmp .lss (lnv 6) (lnv 7),true),(.cmp .eql (lnv 4) (.lit 0),false),(.cmp .gtr (lnv 4) (.bin .sub .i64 (szv 0) (lnv 13)),false),(.var 3,true)]
def Tryz.zF2:List zbe:= [
 ⟨.normal,[2,13,15,0,3,9,10,11,14],none,⟨.tup [.sx 4 ((lnv 7)) 1 [((lnv 6),2)],.int .i64 (.bin .add .i64 (lnv 13) (lnv 4)),.int .i64 (.bin .add .i64 (lnv 6) (.lit 1)),.int .i64 (szv 0),.cst 103 none,.cst 0 none,.cst 2 none,.ptr 1 0,.opq 14 none],[(1,[.bool (.lit false),.int .i64 (szv 0),.int .u64 (u64v 1),.int .u64 (u64v 2),.int .u64 (u64v 3)])],[],6,[]⟩⟩]
def Tryz.zF1:List (List (SB×Bool)×Nat):= [
 ([], 0)]
theorem Tryz.zHw:(evL prog (zau zuo) (zaC zoO) (zaA zoP) 100000 (.code (zaI prog [0,0,1,0,1,1,1,1,1,1,1,1,3]) [0,0,1,0,1,1,1,1,1,1,1,1,3] 299 (envS 299 zi6 zyW) (zar 0 zyV) (zaG zF2 0))).ways zHx=some zF1:=by kernel_rfl
theorem Tryz.zKl:(zah zyV&&zae zuo&&zan zoO&&zao zoP&&zaq zi6&&zal zF2&&zaF 299 zi6&&Nat.ble 299 zaN&&zaz zyW)=true:=by kernel_rfl
open Go.RowKit Go.Maps Go.Sort
def Tryz.RMat (w:World) (Q oq:Nat):Prop:= ∃G og c,w.cell? ⟨Q,oq,none⟩=some (.slice (some ⟨G,og,none⟩) 1 c)∧w.cell? ⟨G,og,none⟩=some (.int .u64 0)∧w.cell? ⟨G,og+1,none⟩=some (.int .u64 4000)
theorem Tryz.RMat.below {w w':World} {Q oq:Nat} (h:RMat w Q oq) (hb: ∀b,b<w.heap.size→w'.heap[b]? =w.heap[b]?):RMat w' Q oq:=by
 obtain ⟨G,og,c,c0,c1,c2⟩:=h
 have l1:=World.block_lt_of_cell? w _ c0
 have l2:=World.block_lt_of_cell? w _ c1
 exact ⟨G,og,c,(World.cell?_of_block (a:=⟨Q,oq,none⟩) (hb Q l1)).trans c0,(World.cell?_of_block (a:=⟨G,og,none⟩) (hb G l2)).trans c1,(World.cell?_of_block (a:=⟨G,og+1,none⟩) (hb G l2)).trans c2⟩
set_option maxRecDepth 10000 in
theorem Tryz.zIm {w:World} {Q oq:Nat} (h:RMat w Q oq) {a n:Int} (ha:0≤a∧a<18446744073709551616) (hn:0≤n∧n<18446744073709551616):
  Calls prog 11 #[.pointer (some ⟨Q,oq,none⟩),.int .u64 a,.int .u64 n] w fun e w'=>e= .returned (.bool (decide (1≤n∧a+n≤4000)))∧Below w.heap.size w w':=by
 obtain ⟨G,og,c,c0,c1,c2⟩:=h
 have d3:(u64v 3).den (vof [0,0,0,a,n] [] [undef,.slice (some ⟨G,og,none⟩) 1 c])=a:=zaH ha.1 ha.2
 have d4:(u64v 4).den (vof [0,0,0,a,n] [] [undef,.slice (some ⟨G,og,none⟩) 1 c])=n:=zaH hn.1 hn.2
 have v1:(vof [0,0,0,a,n] [] [undef,.slice (some ⟨G,og,none⟩) 1 c]).v 1= .slice (some ⟨G,og,none⟩) 1 c:=rfl
 generalize vof [0,0,0,a,n] [] [undef,.slice (some ⟨G,og,none⟩) 1 c]=ρ at d3 d4 v1
 have hj1:jOf [(Q,oq),(G,og)] 1=some ⟨Q,oq,0,none⟩:=rfl
 have hj2:jOf [(Q,oq),(G,og)] 2=some ⟨G,og,0,none⟩:=rfl
 have r1:w.rangeAt Q oq [.slice (some ⟨G,og,none⟩) 1 c]:=fun j v hv=>by
  match j,hv with
  | 0,hv=>cases hv;exact c0
 have r2:w.rangeAt G og [.int .u64 0,.int .u64 4000]:=fun j v hv=>by
  match j,hv with
  | 0,hv=>cases hv;exact c1
  | 1,hv=>cases hv;exact c2
 refine Calls.mono (zav (ρ:=ρ) (K:=fun _=>False) (g:=Gho.none) (bl:= [(Q,oq),(G,og)]) (vals:= [.pointer (some ⟨Q,oq,none⟩),.int .u64 a,.int .u64 n]) mixed zEh zIl (fun b h=>h.elim)
  ⟨zaQ r1 (by simp) (zab ⟨v1.symm,_,_,_,rfl,rfl,⟨G,og,_,0,rfl,hj2,rfl,rfl,by decide,rfl⟩,trivial⟩ RL.nil) (fun h=>h),zaQ r2 (by simp) (zab (zac rfl) (zab (zac rfl) RL.nil)) (fun h=>h),trivial⟩ ⟨fun hh=>(by cases hh),fun hh=>(by cases hh),trivial⟩ zaB trivial (zab (zaY hj1) (zab (zac d3) (zab (zac d4) RL.nil))) (zad.2 trivial)) fun e w' hh=> ?_
 obtain ⟨p,hpm,hto,l,hl,j,he⟩:=hh
 unfold zAf at hpm
 simp only [List.mem_cons,List.not_mem_nil,or_false] at hpm
 have hw: ∀ {x:Int},n≤4000→1≤n→IntKind.wrap .u64 (4000-n)=4000-n:=fun {x} h1 h2=>zaL (by omega) (by omega)
 refine ⟨?_,zam he (fun _ h=>h)⟩
 have hr:=he.ret
 rcases hpm with rfl|rfl|rfl|rfl
 all_goals
  cases hl
  simp only [zaa,zad,zcH,zc3,zaW,zaf,d3,d4,decide_eq_true_eq,decide_eq_false_iff_not,and_true] at hto
  rw [hr]
  simp only [AV.val,zbA]
 ·rw [hw (x:=0) hto.2.1 hto.1] at hto
  rw [decide_eq_true (by omega)]
 ·rw [hw (x:=0) hto.2.1 hto.1] at hto
  rw [decide_eq_false (by omega)]
 ·rw [decide_eq_false (by omega)]
 ·rw [decide_eq_false (by omega)]
def Tryz.idGq (q0 b2:Nat) (v:Value) (xs ys:List Int):Gho where
 fact k q F w:=match k with|0=>True|1=>OwnR 3 1 w b2 v xs.length (zat xs)∧ ∀b,v.ownBlock=some b→F b|_=> ∃u,q q0=some u∧OwnR 3 1 w b2 u ys.length (zat ys)∧ ∀b,u.ownBlock=some b→F b
 loc:=fun k q q' F w w' h hq hb hs=>by
  match k,h with
  | 0,_=>trivial
  | 1,⟨h7,h8⟩=>exact ⟨OwnR.kept h7 fun b e=>hb b (h8 b e),h8⟩
  | k+2,⟨u,h7,h8,h9⟩=>exact ⟨u,hq _ _ h7,OwnR.kept h8 fun b e=>hb b (h9 b e),h9⟩
theorem Tryz.zE6 {ρ:Val} {w0:World} {K:Nat→Prop} {q0 b2:Nat} {v:Value} {xs:List Int} {x:Int} {e:SE} (hv:ρ.v 3=v) (hx:e.den ρ=x) (hb2:b2≤w0.heap.size) (hK: ∀b,v.ownBlock=some b→K b) (hl:xs.length≤100000):zDa prog ρ w0 K (idGq q0 b2 v xs (xs++ [x])) ⟨35,.cst 3 none,1,[.int .i64 e],1,q0,1,.opq q0 none,2⟩:=by
 intro j w F n us bb o cap vals ty hus hcells hxs hnone hbase hF hsz hfa
 have hb:n=q0:=hbase (by show (1:Nat)≠0;decide)
 subst hb
 obtain ⟨f5,f6⟩:=hfa
 have hus:=R_val rfl hus
 have hus:us=v:=by rw [hus];exact hv
 subst hus
 obtain ⟨x0,_,rfl,e0,hxs⟩:=hxs
 have hxs:_= []:=hxs
 subst hxs
 have e0:x0= .int .i64 x:=by rw [show x0= .int .i64 (SE.den ρ e) from e0,hx]
 subst e0
 have hinfo:=zJc
 cases hi:prog.info? 3 with
 | none=>rw [hi] at hinfo;cases hinfo
 | some i=>
 rw [hi] at hinfo
 simp only [Option.map_some,Option.some.injEq,Prod.mk.injEq] at hinfo
 obtain ⟨i1,i2,i3⟩:=hinfo
 obtain ⟨u,w',h1,h2,h3,h4,h5⟩:=run_append_own_at (P:=prog) w b2 35 ty 3 i _ 1 8 (by kernel_rfl) hi i1 i2 i3 rfl (by decide) us xs.length (zat xs) f5 ⟨bb,o,none⟩ 1 cap [.int .i64 x] rfl
  (fun q y hy=>by rw [Dw.addr_add];exact hcells q y hy) (fun y hy=>by rw [List.mem_singleton] at hy;subst hy;rfl) (by unfold maxLen;omega) (by omega) (by omega)
 have hown:OwnR 3 1 w' b2 u (xs++ [x]).length (zat (xs++ [x])):=by
  rw [List.length_append,show zat (xs++ [x])=zat xs++ [.int .i64 x] by simp [zat]]
  exact h2
 have hub:=OwnR.lt hown
 have hub1: ∀b,u.ownBlock=some b→us.ownBlock=some b∨w.heap.size≤b:=fun b hb=>by
  rcases h5 with h5|h5
  ·exact .inl (h5▸hb)
  ·rw [hb] at h5;cases h5;exact .inr (Nat.le_refl _)
 have hmv:Dw.Mv (fun b=>us.ownBlock=some b) w w':=⟨h3.os,h3.tape,h3.output,h3.size,fun b hb hn=>h3.block b hb (fun e=>hn e.symm)⟩
 refine ⟨u,w',[u],fun b=>F b∨u.ownBlock=some b,h1,rfl,⟨⟨⟨0,0,0,some u⟩,?_,rfl⟩,OwnR.one hown,fun _ h=>(by cases h)⟩,⟨u,zbo,hown,fun b hb=> .inr hb⟩,?_,hmv.mono fun b hb=>⟨f6 b hb,.inr (hK b hb)⟩⟩
 ·show jq j n _ n=_
  unfold jq
  rw [if_pos ⟨Nat.le_refl _,by simp⟩]
  simp
 ·rintro b (hb|hb)
  ·exact ⟨Nat.lt_of_lt_of_le (hF b hb) hmv.size,.inl hb⟩
  ·refine ⟨(hub b hb).2,?_⟩
   rcases hub1 b hb with h|h
   ·exact .inl (f6 b h)
   ·exact .inr h
def Tryz.inRM (x:Sg):Bool:=decide (1≤x.len∧x.at1+x.len≤4000)
def Tryz.zHI (ρ:Val) (k a n:Int) (has good wr:Bool) (v q8:Value) (act:Act):Val:=
 ⟨fun m=>match m with|20=>k|8=>a|9=>n|m=>ρ.i m,fun m=>match m with|10=>has|11=>good|12=>wr|m=>ρ.b m,fun m=>match m with|3=>v|8=>q8|m=>if 100≤m then act.tmps.getD (m-100) undef else ρ.v m⟩
structure Tryz.TiD (ρ' ρ:Val) (k a n:Int) (has good wr:Bool) (v q8:Value) (act:Act):Prop where
 n4:(lnv 4).den ρ'=(lnv 4).den ρ
 n6:(lnv 6).den ρ'=(lnv 6).den ρ
 n7:(lnv 7).den ρ'=(lnv 7).den ρ
 n13:(lnv 13).den ρ'=(lnv 13).den ρ
 k:(lnv 20).den ρ'=k
 a:(u64v 8).den ρ'=a
 n:(u32v 9).den ρ'=n
 has:ρ'.b 10=has
 good:ρ'.b 11=good
 wr:ρ'.b 12=wr
 v1:ρ'.v 1=ρ.v 1
 v3:ρ'.v 3=v
 v4:ρ'.v 4=ρ.v 4
 v8:ρ'.v 8=q8
 p: ∀t,ρ'.v (100+t)=act.tmps.getD t undef
theorem Tryz.tiD {ρ:Val} {k a n:Int} {has good wr:Bool} {v q8:Value} {act:Act} (hk:0≤k∧k<4000000) (ha:0≤a∧a<18446744073709551616) (hn:0≤n∧n<4294967296):TiD (zHI ρ k a n has good wr v q8 act) ρ k a n has good wr v q8 act:=
 ⟨rfl,rfl,rfl,rfl,zaR hk.1 (by show k<_;omega),zaH ha.1 ha.2,zbL hn.1 hn.2,rfl,rfl,rfl,rfl,rfl,rfl,rfl,fun t=>by
  show (match 100+t with|3=>v|8=>q8|m=>if 100≤m then act.tmps.getD (m-100) undef else ρ.v m)=_
  split
  ·omega
  ·omega
  ·rw [if_pos (by omega),Nat.add_sub_cancel_left]⟩
theorem Tryz.zrp (next:Int) (k:Nat):zba next (k+1)=zba next k++ [next+k]:=by simp [zba,List.range_succ]
theorem Tryz.zoy {l:List Sg} {k:Nat} (hk:k<l.length):(l.take (k+1)).all inRM=((l.take k).all inRM&&inRM l[k]):=by
 rw [List.take_succ_eq_append_getElem hk,List.all_append];simp
set_option maxRecDepth 10000 in
theorem Tryz.zyZ {ρ:Val} {w0:World} {K:Nat→Prop} {X:Nat→Prop} {bX:Nat} {S P L Bs B M N:Nat} {r:Rg} {b2:Nat} {sk:Nat→SS} {gk:Nat→Nat→Int} {rows:Nat→List LwR} {e0:LwR} {next n40:Int} {l:List Sg} {sv:Value} {Gn Qn Bn q:Nat}
  (hn:(lnv 4).den ρ=l.length) (hnl:l.length≤60000) (h13:(lnv 13).den ρ=next) (hnx:0≤next∧next<100000) (h40:ρ.i 40=n40) (hv1:ρ.v 1=sv) (hsv:SegV (fun _=>False) w0 sv l) (hR: ∀R o' c',sv= .slice (some ⟨R,o',none⟩) l.length c'→ ¬K R)
  (hb3:ρ.b 3=(decide (n40=1)&&l.all inRM)) (hb2:b2≤w0.heap.size) (hbX:bX≤w0.heap.size) (he0:e0=⟨some q,undef,1,l.length,zat (zba next l.length)⟩) (hrows: ∀e∈rows 1,e=e0∨e∈rows 0) (hs:sk 1=sk 0) (hg:gk 1=gk 0):
  zlv prog ρ w0 K (lwG X bX S P L Bs B M N r b2 sk gk rows) (zbf Gn Qn Bn q):=by
 refine zfs ?_
 intro cc hc j a w F n0 hsz hdf hsl hrw hnone hbase hF hs0 hf hold
 have hb:n0=q:=hbase (by show (1:Nat)≠0;decide)
 subst hb
 obtain ⟨hXF,F0,hF0,hlw,hrw2⟩:=hf
 have f2:=(hsl (2,zeE) (by simp [zbf])).2
 have f13:=(hsl (13,.int .i64 (lnv 13)) (by simp [zbf])).2
 have f15:=(hsl (15,.int .i64 (lnv 6)) (by simp [zbf])).2
 have f16:=(hsl (16,.ptr Qn 0) (by simp [zbf])).2
 have g18:a.tmps.getD 18 undef= .slice none 0 0:=(hsl (18,.nils) (by simp [zbf])).2
 have g19:a.tmps.getD 19 undef= .bool (decide (n40=1)):=by
  have:a.tmps.getD 19 undef= .bool (SB.den ρ (.cmp .eql (.var 40) (.lit 1))):=(hsl (19,.bool (.cmp .eql (.var 40) (.lit 1))) (by simp [zbf])).2
  rw [this,zbW,zay,zaf,h40];rfl
 have g20:a.tmps.getD 20 undef= .int .i64 0:=(hsl (20,.int .i64 (.lit 0)) (by simp [zbf])).2
 have g13:a.tmps.getD 13 undef= .int .i64 ((lnv 13).den ρ):=f13
 have g15:a.tmps.getD 15 undef= .int .i64 ((lnv 6).den ρ):=f15
 have hone: ∀t∈ [0,3,9,10,11,14],(a.tmps.getD t undef).oneCell'=true:=by
  intro t ht
  simp only [List.mem_cons,List.not_mem_nil,or_false] at ht
  rcases ht with rfl|rfl|rfl|rfl|rfl|rfl
  ·exact zmC rfl (hsl (0,.int .i64 (szv 0)) (by simp [zbf,zb9])).2
  ·exact zmC rfl (hsl (3,.cst 103 none) (by simp [zbf,zb9])).2
  ·exact zmC rfl (hsl (9,.cst 0 none) (by simp [zbf,zb9])).2
  ·exact zmC rfl (hsl (10,.cst 2 none) (by simp [zbf,zb9])).2
  ·exact zmC rfl (hsl (11,.ptr 1 0) (by simp [zbf,zb9])).2
  ·exact zmC rfl (hsl (14,zDl) (by simp [zbf,zb9])).2
 obtain ⟨e2,bb,len2,cap2,hv2,hl2,⟨b2b,o2,L2,i2,hb2e,hj2,hL2b,hd6,hi2,hL2o⟩,_⟩:=f2
 obtain ⟨LQ,hjQ,g16⟩:=f16
 obtain ⟨hLF,vals,hvals,hrow⟩:=hrw (2,[zcG]) (by simp [zbf]) L2 hj2
 obtain ⟨sv0,_,rfl,hs0v,hvn⟩:=hvals
 have hvn:_= []:=hvn
 subst hvn
 have hs0e:sv0=sv:=(show sv0=ρ.v 1 from hs0v.1).trans hv1
 subst hs0e
 have hRM:RMat w LQ.blk LQ.off:=by
  obtain ⟨_,valsQ,hvQ,hrowQ⟩:=hrw (Qn,[.sl Gn 0 1 (.upto 0),.sl Bn 0 1 (.upto 0)]) (by simp [zbf]) LQ hjQ
  obtain ⟨x0,_,rfl,⟨LG,hjG,_,rfl⟩,_⟩:=hvQ
  obtain ⟨_,valsG,hvG,hrowG⟩:=hrw (Gn,[.int .u64 (.lit 0),.int .u64 (.lit 4000)]) (by simp [zbf]) LG hjG
  obtain ⟨y0,_,rfl,z0,y1,_,rfl,z1,hvn⟩:=hvG
  have z0:y0= .int .u64 0:=z0
  have z1:y1= .int .u64 4000:=z1
  subst z0 z1
  obtain ⟨arr,t1,fr,h1,h2⟩:=hrowQ
  obtain ⟨arr3,t3,fr3,h3,h4⟩:=hrowG
  refine ⟨LG.blk,LG.off,ziu LG (.upto 0),?_,?_,?_⟩
  ·have:=h2 0 _ rfl
   simp only [World.cell?,h1]
   simpa using this
  ·have:=h4 0 _ rfl
   simp only [World.cell?,h3]
   simpa using this
  ·have:=h4 1 _ rfl
   simp only [World.cell?,h3]
   simpa using this
 have hcc:cc=zaI prog [0,0,1,0,1,1,1,1,0,0,1,0,0,1,0,1,1,1,1,1,1,1,1,3]:=by
  have:=zd5 (P:=prog) (p:= [0,1,0,1,1,1,1,0,0,1,0,0,1,0,1,1,1,1,1,1,1,1,3]) (by kernel_rfl)
  have hc:zaI prog [0,1,0,1,1,1,1,0,0,1,0,0,1,0,1,1,1,1,1,1,1,1,3]= .loop cc:=hc
  rw [hc] at this
  injection this
 subst hcc
 have hsz:a.tmps.size=299:=hsz
 have hLlt:L2.blk<w.heap.size:=zfQ hrow
 have hsv2:=hsv
 obtain ⟨sa,sc,hsve,hok,hsr⟩:=hsv2
 refine zbl (fun (x:Nat×Value) a' w'=>x.1≤l.length∧a'.tmps.size=299∧a'.defers= []∧(∀t∈ [2,13,15,16,0,3,9,10,11,14],a'.tmps.getD t undef=a.tmps.getD t undef)∧a'.tmps.getD 18 undef=x.2∧a'.tmps.getD 19 undef= .bool (decide (n40=1)&&(l.take x.1).all inRM)∧a'.tmps.getD 20 undef= .int .i64 x.1∧Below w.heap.size w w'∧OwnR 3 1 w' w.heap.size x.2 (zba next x.1).length (zat (zba next x.1)))
  (fun x=>l.length-x.1) (fun x a1 w1 hI=> ?_) (0,.slice none 0 0) a w ⟨Nat.zero_le _,hsz,hdf,fun _ _=>rfl,g18,by rw [g19];simp,g20,Below.refl _ _,OwnR.nil _ _ _ _⟩
 obtain ⟨k,vk⟩:=x
 obtain ⟨hkn,q0,qd,pr,p18,p19,p20,hb,hov⟩:=hI
 simp only at hkn p18 p19 p20 hov
 have hvo:=OwnR.one hov
 have hvlt:=OwnR.lt hov
 have hrow1:Row w1 L2 [sv0]:=hrow.kept (hb.block _ hLlt)
 have hwk:=zes k (by omega)
 have slots: ∀ {ρ':Val} {sgo:List (SE×Nat)} {x y:Int} {hx hg hw:Bool} {bl:List (Nat×Nat)},TiD ρ' ρ k x y hx hg hw vk (.pointer (some ⟨LQ.blk,LQ.off+0,none⟩)) a→hg=(decide (n40=1)&&(l.take k).all inRM)→jOf bl 1=some ⟨L2.blk,L2.off,0,none⟩→
   ∀ t∈ [(2,AV.sx 4 (lnv 7) 1 [(lnv 6,1)]),(13,.int .i64 (lnv 13)),(15,.int .i64 (lnv 6)),(16,.cst 8 none),(18,.cst 3 none),(19,.bool (.var 11)),(20,.int .i64 (lnv 20))]++zmJ [0,3,9,10,11,14],Dw.R ρ' (jOf bl) t.2 (a1.tmps.getD t.1 undef):=fun {ρ' sgo x y hx hg hw bl} D hgd hj1 t ht=>by
  simp only [zmJ,List.map_cons,List.map_nil,List.cons_append,List.nil_append,List.mem_cons,List.not_mem_nil,or_false] at ht
  rcases ht with rfl|rfl|rfl|rfl|rfl|rfl|rfl|ht
  ·rw [pr 2 (by simp),hv2]
   exact ⟨by rw [D.v4,←e2,hv2],_,_,_,rfl,by rw [D.n7];exact hl2,⟨b2b,o2,_,i2,hb2e,hj1,hL2b,by rw [D.n6];exact hd6,hi2,hL2o⟩,trivial⟩
  ·rw [pr 13 (by simp),g13];exact zac D.n13
  ·rw [pr 15 (by simp),g15];exact zac D.n6
  ·rw [pr 16 (by simp),g16];exact za5 D.v8 rfl
  ·rw [p18];exact za5 D.v3 hvo
  ·rw [p19];exact zaO (D.good.trans hgd)
  ·rw [p20];exact zac D.k
  ·rcases ht with rfl|rfl|rfl|rfl|rfl|rfl
   all_goals
    show Dw.R ρ' _ (.cst _ none) _
    rw [pr _ (by simp)]
    exact za5 (D.p _) (hone _ (by simp))
 by_cases hk:k<l.length
 ·rcases hsr with h0|⟨R,o,rfl,_,hsr⟩
  ·rw [h0] at hk;simp at hk
  have hne:l≠ []:=fun h=>by rw [h] at hk;simp at hk
  have hRw0:=zci hsr hne
  have hRw:w1.heap[R]? =w0.heap[R]? :=(hb.block R (by omega)).trans (hold R hRw0 (hR R o sc (by rw [hsve])))
  have hx:=zbZ (zaJ hsr hRw) k hk
  have hxo:=hok l[k] (List.getElem_mem hk)
  have hat:=zoy hk
  generalize l[k]=C at hx hxo hat
  obtain ⟨c1,c2,c3,c4⟩:=hxo
  have D:=tiD (ρ:=ρ) (k:=k) (a:=C.at1) (n:=C.len) (has:=inRM C) (good:=decide (n40=1)&&(l.take k).all inRM) (wr:=C.wr) (v:=vk) (q8:= .pointer (some ⟨LQ.blk,LQ.off+0,none⟩)) (act:=a) (by omega) ⟨c1,c2⟩ ⟨c3,c4⟩
  generalize zHI ρ k C.at1 C.len (inRM C) (decide (n40=1)&&(l.take k).all inRM) C.wr vk (.pointer (some ⟨LQ.blk,LQ.off+0,none⟩)) a=ρ' at D
  have hj1:jOf [(L2.blk,L2.off),(R,o+3*k)] 1=some ⟨L2.blk,L2.off,0,none⟩:=rfl
  have hj2':jOf [(L2.blk,L2.off),(R,o+3*k)] 2=some ⟨R,o+3*k,0,none⟩:=rfl
  have hx2:(SE.bin .add .i64 (lnv 13) (lnv 20)).den ρ'=next+k:=by
   rw [den_add,D.n13,h13,D.k,zdt (by omega) (by omega)]
  have hnL:vk.ownBlock≠some L2.blk:=fun e=>by have:=(hvlt L2.blk e).1;omega
  have hnR:vk.ownBlock≠some R:=fun e=>by have:=(hvlt R e).1;omega
  refine wp_mono (zax (ρ:=ρ') (K:=fun b=>vk.ownBlock=some b) (g:=idGq 4 w.heap.size vk (zba next k) (zba next k++ [next+k])) (bl:= [(L2.blk,L2.off),(R,o+3*k)]) mixed zHG zKr (fun b h=>(hvlt b h).2)
   ⟨zjB hrow1 (by simp) (zab ⟨by rw [D.v1,hv1],_,_,_,hsve,by rw [D.n4,hn];rfl,⟨R,o,_,k,rfl,hj2',rfl,D.k,hk,rfl⟩,trivial⟩ RL.nil) hnL,zaQ hx (by simp [Sg.cells]) (zab (zac D.a) (zab (zac D.n) (zab (zaO D.wr) RL.nil))) hnR,trivial⟩ ⟨fun h=>(by cases h),fun h=>(by cases h),trivial⟩ ⟨fun b=>vk.ownBlock=some b,fun b h=>⟨(hvlt b h).2,fun hmn=> ?_⟩,hov,fun b h=>h⟩
   ⟨⟨Dw.enters_of (by kernel_rfl),fun j' w' vals' F' n' hv' hn' _ hF' hsz' hf' hold'=> ?_⟩,trivial⟩ trivial
   ⟨zE6 D.v3 hx2 hb.size (fun _ h=>h) (by rw [zeb];omega),trivial⟩ q0 qd (slots (sgo:= []) D rfl hj1) (zaa.2 ⟨by rw [zaX,D.k,D.n4,hn];simp only [decide_eq_true_eq];omega,zad.2 trivial⟩)) fun ex a2 w2 hh=> ?_
  ·have:=zcK hmn
   simp only [List.map_cons,List.map_nil,List.mem_cons,List.not_mem_nil,or_false] at this
   rcases this with e|e
   ·exact hnL (e▸h)
   ·exact hnR (e▸h)
  ·have hv':=zcF (show AV.exactL [.cst 8 none,.int .u64 (u64v 8),.int .u64 (u32v 9)]=true by decide) hv' (zab (za5 D.v8 rfl) (zab (zac D.a) (zab (zac D.n) RL.nil)))
   subst hv'
   have hRM':RMat w' LQ.blk (LQ.off+0):=hRM.below fun b hbw=>(hold' b (Nat.lt_of_lt_of_le hbw hb.size) fun e=>by have:=(hvlt b e).1;omega).trans (hb.block b hbw)
   refine Calls.mono (zIm hRM' ⟨c1,c2⟩ ⟨c3,by omega⟩) fun en w'' hh=> ?_
   obtain ⟨rfl,hbl⟩:=hh
   refine ⟨_,[],F',rfl,rfl,zaO (D.has.trans rfl),?_,fun b hb'=>⟨Nat.lt_of_lt_of_le (hF' b hb') hbl.size,.inl hb'⟩,Dw.Mv.of_below hbl⟩
   exact (idGq 4 w.heap.size vk (zba next k) (zba next k++ [next+k])).loc 2 _ _ F' w' w'' hf' (fun m v hm=>zgJ (zrd hn') hm) (fun b hb'=>hbl.block b (hF' b hb')) hbl.size
  ·obtain ⟨q,hq,hto,lf,hlf,rfl,hsz2,j2,hdf2,he⟩:=hh
   have hmv:=he.mv
   have step: ∀ {b:Bool} {u:Value},OwnR 3 1 w2 w.heap.size u (zba next k++ [next+k]).length (zat (zba next k++ [next+k]))→a2.defers= []→([2,13,15,16,18,19,20,0,3,9,10,11,14].map fun t=>a2.tmps.getD t undef)= [a.tmps.getD 2 undef,a.tmps.getD 13 undef,a.tmps.getD 15 undef,a.tmps.getD 16 undef,u,.bool b,.int .i64 (k+1:Nat),a.tmps.getD 0 undef,a.tmps.getD 3 undef,a.tmps.getD 9 undef,a.tmps.getD 10 undef,a.tmps.getD 11 undef,a.tmps.getD 14 undef]→b=(decide (n40=1)&&(l.take (k+1)).all inRM)→
     ∃ x':Nat×Value,l.length-x'.1<l.length-k∧x'.1≤l.length∧a2.tmps.size=299∧a2.defers= []∧(∀t∈ [2,13,15,16,0,3,9,10,11,14],a2.tmps.getD t undef=a.tmps.getD t undef)∧a2.tmps.getD 18 undef=x'.2∧a2.tmps.getD 19 undef= .bool (decide (n40=1)&&(l.take x'.1).all inRM)∧a2.tmps.getD 20 undef= .int .i64 x'.1∧Below w.heap.size w w2∧OwnR 3 1 w2 w.heap.size x'.2 (zba next x'.1).length (zat (zba next x'.1)):=fun {b u} hou hdf2 z hbb=>by
    simp only [List.map_cons,List.map_nil,List.cons.injEq,and_true] at z
    obtain ⟨r2,r13,r15,r16,r18,r19,r20,r0,r3,r9,r10,r11,r14⟩:=z
    refine ⟨(k+1,u),by simp only;omega,hk,hsz2,hdf2,fun t ht=> ?_,r18,by rw [r19,hbb],r20,⟨hmv.os.trans hb.os,hmv.tape.trans hb.tape,hmv.output.trans hb.output,Nat.le_trans hb.size hmv.size,fun b hb'=>(hmv.block b (Nat.lt_of_lt_of_le hb' hb.size) fun e=>by have:=(hvlt b e).1;omega).trans (hb.block b hb')⟩,?_⟩
    ·simp only [List.mem_cons,List.not_mem_nil,or_false] at ht
     rcases ht with rfl|rfl|rfl|rfl|rfl|rfl|rfl|rfl|rfl|rfl<;>assumption
    ·rw [zrp];exact hou
   have lc1:=zag (he.sub _ _ hj1)
   have pp0:ρ'.v 100=a.tmps.getD 0 undef:=D.p 0
   have pp3:ρ'.v 103=a.tmps.getD 3 undef:=D.p 3
   have pp9:ρ'.v 109=a.tmps.getD 9 undef:=D.p 9
   have pp10:ρ'.v 110=a.tmps.getD 10 undef:=D.p 10
   have pp11:ρ'.v 111=a.tmps.getD 11 undef:=D.p 11
   have pp14:ρ'.v 114=a.tmps.getD 14 undef:=D.p 14
   have hv4:ρ'.v 4=a.tmps.getD 2 undef:=by rw [D.v4,←e2]
   unfold zGb at hq
   simp only [List.mem_cons,List.not_mem_nil,or_false] at hq
   rcases hq with rfl|rfl
   all_goals
    simp only [zaa,zad,zaM,D.good,and_true] at hto
    cases hlf
    have hs2:=zaE he.ret
    simp only [AV.valL,AV.val,D.n6,D.n13,D.k,D.v8,pp0,pp3,pp9,pp10,pp11,pp14,hv4,zLc,zaM,zbA,D.good,D.has,den_add,zaf,hwk] at hs2
   ·obtain ⟨Fx,_,u,hu,hou,_⟩:=he.gho
    have huv:(lcOf j2 4).q.getD undef=u:=zcA (ρ:=ρ') hu
    rw [huv] at hs2
    exact step hou hdf2 (hs2.trans (by rw [g13,g15,g16])) (by rw [hat,Bool.and_assoc])
   ·obtain ⟨Fx,_,u,hu,hou,_⟩:=he.gho
    have huv:(lcOf j2 4).q.getD undef=u:=zcA (ρ:=ρ') hu
    rw [huv] at hs2
    exact step hou hdf2 (hs2.trans (by rw [g13,g15,g16])) (by rw [hat,←Bool.and_assoc,hto,Bool.false_and])
 ·have hkk:k=l.length:=by omega
  have D:=tiD (ρ:=ρ) (k:=k) (a:=0) (n:=0) (has:=false) (good:=decide (n40=1)&&(l.take k).all inRM) (wr:=false) (v:=vk) (q8:= .pointer (some ⟨LQ.blk,LQ.off+0,none⟩)) (act:=a) (by omega) ⟨by decide,by decide⟩ ⟨by decide,by decide⟩
  generalize zHI ρ k 0 0 false (decide (n40=1)&&(l.take k).all inRM) false vk (.pointer (some ⟨LQ.blk,LQ.off+0,none⟩)) a=ρ' at D
  have hj1:jOf [(L2.blk,L2.off)] 1=some ⟨L2.blk,L2.off,0,none⟩:=rfl
  refine wp_mono (zax (ρ:=ρ') (K:=fun _=>False) (g:=Gho.none) (bl:= [(L2.blk,L2.off)]) mixed zHE zKq (fun b h=>h.elim) ⟨zjB hrow1 (by simp) (zab ⟨by rw [D.v1,hv1],_,_,_,hsve,by rw [D.n4,hn];rfl,trivial⟩ RL.nil) (fun h=>h),trivial⟩ ⟨fun h=>(by cases h),trivial⟩ zaB trivial trivial trivial q0 qd (slots (sgo:= []) D rfl hj1) (zaa.2 ⟨by rw [zaX,D.k,D.n4,hn,hkk];simp,zad.2 trivial⟩)) fun ex a2 w2 hh=> ?_
  obtain ⟨q,hq,hto,lf,hlf,rfl,hsz2,j2,hdf2,he⟩:=hh
  have hb3':=zam he (fun _ h=>h)
  unfold zF9 at hq
  simp only [List.mem_cons,List.not_mem_nil,or_false] at hq
  subst hq
  cases hlf
  have hs2:=zaE he.ret
  have hv4:ρ'.v 4=a.tmps.getD 2 undef:=by rw [D.v4,←e2]
  simp only [AV.valL,AV.val,D.n6,D.n13,D.v3,D.p,hv4,zaM,D.good,List.map_cons,List.map_nil,List.cons.injEq,and_true] at hs2
  obtain ⟨r2,r13,r15,r18,r19,r0,r3,r9,r10,r11,r14⟩:=hs2
  have hb4:=hb.trans (hb3'.mono hb.size)
  have hov2:=OwnR.kept hov fun b e=>hb3'.block b (hvlt b e).2
  have hlt2:=OwnR.lt hov2
  have hsub:Sub j (jq j n0 [vk]):=zrd hnone
  have hall:(decide (n40=1)&&(l.take k).all inRM)=ρ.b 3:=by rw [hkk,List.take_length,hb3]
  have fin: ∀(b:Bool),a2.tmps.getD 19 undef= .bool b→zlk ρ (zbf Gn Qn Bn n0).ends=some ⟨if b=true then .var 3 else .lit true,.exit 2,[(2,zeE),(13,.int .i64 (lnv 13)),(15,.int .i64 (lnv 6)),(18,.opq n0 none),(19,.bool (.lit b))]++zb9,1⟩→
    ∃ d qs F',zlk ρ (zbf Gn Qn Bn n0).ends=some d∧exOf (.exit 2)=exOf d.ex∧a2.tmps.size=(zbf Gn Qn Bn n0).n∧a2.defers= []∧(∀t∈(zbf Gn Qn Bn n0).keep,a2.tmps.getD t undef=a.tmps.getD t undef)∧qs.length=(zbf Gn Qn Bn n0).nopq∧(∀s∈d.slots,Dw.R ρ (jq j n0 qs) s.2 (a2.tmps.getD s.1 undef))∧(lwG X bX S P L Bs B M N r b2 sk gk rows).fact d.gs (opqs (jq j n0 qs)) F' w2∧(∀b,F' b→b<w2.heap.size∧(F b∨w.heap.size≤b))∧Dw.Mv (fun b=>F b∧(w0.heap.size≤b∨K b)) w w2:=fun b hb19 hpk=>by
   refine ⟨_,[vk],fun b=>F b∨vk.ownBlock=some b,hpk,rfl,hsz2,hdf2,(fun t ht=>by cases ht),rfl,fun s hs=> ?_,⟨fun b hb'=> ?_,F0,fun b h=> .inl (hF0 b h),?_,fun e he'=> ?_⟩,?_,Dw.Mv.of_below hb4⟩
   ·simp only [zb9,List.cons_append,List.nil_append,List.mem_cons,List.not_mem_nil,or_false] at hs
    rcases hs with rfl|rfl|rfl|rfl|rfl|rfl|rfl|rfl|rfl|rfl|rfl
    ·rw [r2];exact R.mono hsub (hsl (2,zeE) (by simp [zbf])).2
    ·rw [r13];exact zac rfl
    ·rw [r15];exact zac rfl
    ·rw [r18]
     refine ⟨⟨⟨0,0,0,some vk⟩,?_,rfl⟩,hvo,fun _ h=>(by cases h)⟩
     show jq j n0 _ n0=_
     unfold jq
     rw [if_pos ⟨Nat.le_refl _,by simp⟩]
     simp
    ·rw [hb19];exact zaO rfl
    ·rw [r0.trans (D.p 0)];exact R.mono hsub (hsl (0,.int .i64 (szv 0)) (by simp [zbf,zb9])).2
    ·rw [r3.trans (D.p 3)];exact R.mono hsub (hsl (3,.cst 103 none) (by simp [zbf,zb9])).2
    ·rw [r9.trans (D.p 9)];exact R.mono hsub (hsl (9,.cst 0 none) (by simp [zbf,zb9])).2
    ·rw [r10.trans (D.p 10)];exact R.mono hsub (hsl (10,.cst 2 none) (by simp [zbf,zb9])).2
    ·rw [r11.trans (D.p 11)];exact R.mono hsub (hsl (11,.ptr 1 0) (by simp [zbf,zb9])).2
    ·rw [r14.trans (D.p 14)];exact R.mono hsub (hsl (14,zDl) (by simp [zbf,zb9])).2
   ·rcases hb' with h|h
    ·exact hXF b h
    ·have:=(hlt2 b h).1
     exact .inr (by omega)
   ·show LwF S P L Bs B M N r (sk 1) (gk 1) _ w2
    rw [hs,hg]
    exact hlw.kept (fun b h=>hb4.block b (hF b (hF0 b h))) hb4.size
   ·rcases hrows e he' with rfl|he'
    ·rw [he0]
     refine ⟨vk,3,zbo,?_,fun b h=>⟨.inr h,fun hn=> ?_⟩⟩
     ·have:=OwnR.mono hov2 (by omega:b2≤w.heap.size)
      rw [hkk,zeb] at this
      exact this
     ·have:=(hlt2 b h).1
      have:=hF b (hF0 b hn)
      omega
    ·obtain ⟨v,tv,e1,e2,e3⟩:=hrw2 e he'
     refine ⟨v,tv,?_,OwnR.kept e2 fun b h=>hb4.block b (OwnR.lt e2 b h).2,fun b h=>⟨.inl (e3 b h).1,(e3 b h).2⟩⟩
     unfold LwR.is at e1 ⊢
     split at e1
     ·exact zgJ (zrd hnone) e1
     ·exact e1
   ·rintro b (h|h)
    ·exact ⟨Nat.lt_of_lt_of_le (hF b h) hb4.size,.inl h⟩
    ·exact ⟨(hlt2 b h).2,.inr (hlt2 b h).1⟩
  rw [hall] at r19
  by_cases hbb:ρ.b 3=true
  ·rw [hbb] at r19
   exact fin true r19 (by unfold zbf;rw [zbw,if_pos (by rw [zaM,hbb])];rfl)
  ·have hbb:ρ.b 3=false:=by simpa using hbb
   rw [hbb] at r19
   exact fin false r19 (by unfold zbf;rw [zbw,if_neg (by rw [zaM,hbb];decide),zbw,if_pos (show SB.den ρ (.lit true)=true from rfl)];rfl)
theorem Tryz.znz {P0:Program} (w:World) (base:Nat) (t ty e t0:TypeId) (i:TypeInfo) (z:Value) (size bytes:Nat) (ht:P0.underlying t=some (.slice e)) (hi:P0.info? e=some i) (hz:i.zero=some z)
  (hsize:i.size=size) (hby:i.bytes=bytes) (hzs:z.cells.size=size) (hsz:0<size)
  (v:Value) (n:Nat) (xs:List Value) (hown:w.ownsRow base t0 size v n xs)
  (a:Addr) (m c:Nat) (news:List Value) (hl:news.length=m*size) (hnews: ∀j u,news[j]? =some u→w.cell? (a.add j)=some u) (h1: ∀u∈news,u.oneCell'=true)
  (h63:n+m≤maxLen) (hbytes:(n+m)*bytes≤140737488355328) (hbase:base≤w.heap.size):
  ∃ v' w' t',(Builtin.append_ #[t,t] ty #[v,.slice (some a) m c]).run P0 w= .ok v' w'∧w'.ownsRow base t' size v' (n+m) (xs++news)∧w.grownBy w' v.ownBlock∧(v'.ownBlock=v.ownBlock∨v'.ownBlock=some w.heap.size):=by
 have hsmall:n+m≤9223372036854775807:=by simp only [maxLen] at h63;omega
 have hlen:(xs++news).length=(n+m)*size:=by rw [List.length_append,hown.1,hl,Nat.add_mul]
 rcases hown.2 with ⟨rfl,rfl⟩|⟨g,cap,cur,rfl,hbg,hg,hnc,hcm,hcs,htake⟩
 ·obtain ⟨v',w',q1,q2,q3,_,q5⟩:=run_append_own_at (P:=P0) w base t ty e i z size bytes ht hi hz hsize hby hzs hsz (.slice none 0 0) 0 xs ⟨hown.1,.inl ⟨rfl,rfl⟩⟩ a m c news hl hnews h1 h63 hbytes hbase
  exact ⟨v',w',e,q1,q2,q3,q5⟩
 ·subst hsize
  subst hby
  by_cases hroom:n+m≤cap
  ·have hfit:n*i.size+news.length≤cur.size:=by rw [hl,hcs,←Nat.add_mul];exact Nat.mul_le_mul_right _ hroom
   have hf:=run_firstCells_some (P:=P0) w i.size m a m c news hl hnews
   have hst:=run_storeCells_at P0 g (n*i.size) t0 news 0 cur w hg (by simpa using hfit) h1
   simp only [Nat.add_zero] at hst
   have hr:(Builtin.append_ #[t,t] ty #[.slice (some ⟨g,0,none⟩) n cap,.slice (some a) m c]).run P0 w= .ok (.slice (some ⟨g,0,none⟩) (n+m) cap) (w.setRow g (cur.toList.take (n*i.size)++news++cur.toList.drop (n*i.size+news.length)).toArray):=by
    simp [Builtin.append_,run_underlying ht,sizeOf,typeInfo,hi,Builtin.lenOf,hroom,hf,Addr.add_lit,hst]
   refine ⟨_,_,t0,hr,⟨hlen,.inr ⟨g,cap,_,rfl,hbg,setRow_heap w g cur _ t0 _ hg,hroom,hcm,?_,?_⟩⟩,⟨rfl,rfl,rfl,by simp,fun k _ hk=>setRow_other w g k _ (fun e=>hk (by simp [Value.ownBlock,e]))⟩,Or.inl rfl⟩
   ·simp only [List.size_toArray,List.length_append,List.length_take,List.length_drop,Array.length_toList]
    omega
   ·rw [htake,←hlen]
    exact List.take_left
  ·have holds: ∀j u,xs[j]? =some u→w.cell? ((⟨g,0,none⟩:Addr).add j)=some u:=hown.cells (g:=g) rfl
   have hr:=run_append_grow (P:=P0) w t ty e i z ht hi hz ⟨g,0,none⟩ n cap xs hown.1 holds a m c news hl hnews (by omega) (by omega) (growslice_fits (by omega) hbytes)
   have hge:=grownCap_ge w (n+m) cap e
   have hcm2:grownCap w (n+m) cap e≤maxLen:=grownCap_le_maxLen w (n+m) cap e h63
   refine ⟨_,_,e,hr,⟨hlen,.inr ⟨w.heap.size,_,_,rfl,hbase,heap_alloc_new w.drew _,hge,hcm2,?_,?_⟩⟩,⟨rfl,rfl,rfl,by simp,fun k hk _=>heap_alloc_old w.drew _ (h:=hk)⟩,Or.inr rfl⟩
   ·simp only [Array.size_append,List.size_toArray,size_zeroCells,hzs,hown.1,hl,←Nat.add_mul]
    congr 1
    omega
   ·simp only [Array.toList_append,List.append_assoc]
    rw [←List.append_assoc,←hlen]
    exact List.take_left
section
variable {X:Nat→Prop} {bX:Nat} {ρ:Val} {w0:World} {K:Nat→Prop} {S P L Bs B M N:Nat} {r:Tryz.Rg} {b2:Nat} {sk:Nat→Tryz.SS} {gk:Nat→Nat→Int} {rows:Nat→List Tryz.LwR} {k k' q:Nat}
theorem Tryz.zJh {x:Int} {xs:List Int} {vh:Value} (hv5:ρ.v 5=vh) (hx:(lnv 13).den ρ=x) (hb2:b2≤w0.heap.size) (hbX:bX≤w0.heap.size) (hK: ∀b,vh.ownBlock=some b→K b) (hl:xs.length≤100000)
  (he:(⟨none,vh,1,xs.length,zat xs⟩:LwR)∈rows k) (hrows: ∀e∈rows k',e=⟨some q,undef,1,(xs++ [x]).length,zat (xs++ [x])⟩) (hs:sk k'=sk k) (hg:gk k'=gk k):zDa prog ρ w0 K (lwG X bX S P L Bs B M N r b2 sk gk rows) (hdsA k k' q):=by
 intro j w F n us bb o cap vals ty hus hcells hxs hnone hbase hF hsz hfa
 have hb:n=q:=hbase (by show (1:Nat)≠0;decide)
 subst hb
 obtain ⟨hXF,F0,hF0,hlw,h2⟩:=hfa
 obtain ⟨uh,t0,q1,q2,q3⟩:=h2 _ he
 have q1:uh=vh:=q1
 have hus:us=uh:=(show us=ρ.v 5 from hus.1).trans (hv5.trans q1.symm)
 subst hus
 subst q1
 obtain ⟨x0,_,rfl,e0,hxs⟩:=hxs
 have hxs:_= []:=hxs
 subst hxs
 have e0:x0= .int .i64 x:=by rw [show x0= .int .i64 (SE.den ρ (lnv 13)) from e0,hx]
 subst e0
 have hinfo:=zJc
 cases hi:prog.info? 3 with
 | none=>rw [hi] at hinfo;cases hinfo
 | some i=>
 rw [hi] at hinfo
 simp only [Option.map_some,Option.some.injEq,Prod.mk.injEq] at hinfo
 obtain ⟨i1,i2,i3⟩:=hinfo
 obtain ⟨u,w',t',h1,hown0,h3,h5⟩:=znz (P0:=prog) w b2 35 ty 3 t0 i _ 1 8 (by kernel_rfl) hi i1 i2 i3 rfl (by decide) us xs.length (zat xs) q2 ⟨bb,o,none⟩ 1 cap [.int .i64 x] rfl
  (fun q y hy=>by rw [Dw.addr_add];exact hcells q y hy) (fun y hy=>by rw [List.mem_singleton] at hy;subst hy;rfl) (by unfold maxLen;omega) (by omega) (by omega)
 have hown:OwnR t' 1 w' b2 u (xs++ [x]).length (zat (xs++ [x])):=by
  rw [List.length_append,show zat (xs++ [x])=zat xs++ [.int .i64 x] by simp [zat]]
  exact hown0
 have hub:=OwnR.lt hown
 have hub1: ∀b,u.ownBlock=some b→us.ownBlock=some b∨w.heap.size≤b:=fun b hb=>by
  rcases h5 with h5|h5
  ·exact .inl (h5▸hb)
  ·rw [hb] at h5;cases h5;exact .inr (Nat.le_refl _)
 have hmv:Dw.Mv (fun b=>us.ownBlock=some b) w w':=⟨h3.os,h3.tape,h3.output,h3.size,fun b hb hn=>h3.block b hb (fun e=>hn e.symm)⟩
 refine ⟨u,w',[u],fun b=>F b∨u.ownBlock=some b,h1,rfl,⟨⟨⟨0,0,0,some u⟩,?_,rfl⟩,OwnR.one hown,fun _ h=>(by cases h)⟩,⟨fun b hb=> ?_,F0,fun b hb=> .inl (hF0 b hb),?_,fun e he'=> ?_⟩,?_,hmv.mono fun b hb=>⟨(q3 b hb).1,.inr (hK b hb)⟩⟩
 ·show jq j n _ n=_
  unfold jq
  rw [if_pos ⟨Nat.le_refl _,by simp⟩]
  simp
 ·rcases hb with hb|hb
  ·exact hXF b hb
  ·rcases hub1 b hb with h|h
   ·exact hXF b (q3 b h).1
   ·exact .inr (by omega)
 ·show LwF S P L Bs B M N r (sk k') (gk k') _ w'
  rw [hs,hg]
  exact hlw.kept (fun b hb=>hmv.block b (hF b (hF0 b hb)) fun e=>(q3 b e).2 hb) hmv.size
 ·rw [hrows e he']
  refine ⟨u,t',zbo,hown,fun b hb=>⟨.inr hb,fun hn=> ?_⟩⟩
  rcases hub1 b hb with h|h
  ·exact (q3 b h).2 hn
  ·have:=hF b (hF0 b hn);omega
 ·rintro b (hb|hb)
  ·exact ⟨Nat.lt_of_lt_of_le (hF b hb) hmv.size,.inl hb⟩
  ·refine ⟨(hub b hb).2,?_⟩
   rcases hub1 b hb with h|h
   ·exact .inl (q3 b h).1
   ·exact .inr h
theorem Tryz.zy0 (hv2:ρ.v 2= .pointer (some ⟨S,0,none⟩)) (hp:(zda (sk k)).1=0) (hs:sk k'=(zda (sk k)).2) (hg:gk k'=gk k) (hbX:bX≤w0.heap.size) (hlt:S<b2∧M<b2∧B<b2) (hK:K S∧K M∧K B) (hrows: ∀e∈rows k',e∈rows k):
  za3 prog ρ w0 K (lwG X bX S P L Bs B M N r b2 sk gk rows) (zy1 k k'):=
 ztk (Dw.enters_of (by kernel_rfl)) (by decide) hbX [.pointer (some ⟨S,0,none⟩)] (.int .i64 0) (fun j=>zab (za5 hv2 rfl) RL.nil) (fun j=>zac rfl) hlt hK hrows fun A w hsw=>by
  rw [hs,hg,←hp];exact zvz hsw
end
theorem Tryz.zlD {ρ:Val} {w0:World} {K:Nat→Prop} {X:Nat→Prop} {bX:Nat} {S P L Bs B M N:Nat} {r:Rg} {b2:Nat} {sk:Nat→SS} {gk:Nat→Nat→Int} {rows:Nat→List LwR} {n:Int} {l:List Sg} {sv:Value}
  (hv1:ρ.v 1=sv) (hsv:SegV (fun _=>False) w0 sv l) (hR: ∀R o' c',sv= .slice (some ⟨R,o',none⟩) l.length c'→ ¬K R) (hl:l.length≤60000) (h40:ρ.i 40=n) (hn:(if za9 l=0 then 1 else 0)=n):
  za3 prog ρ w0 K (lwG X bX S P L Bs B M N r b2 sk gk rows) znC:=by
 refine ⟨Dw.enters_of (by kernel_rfl),fun j w vals F n0 hv hnone _ hF hsz hf hold=> ?_⟩
 obtain ⟨x0,_,rfl,y0,hv⟩:=hv
 obtain ⟨x1,_,rfl,y1,hv⟩:=hv
 have hv:_= []:=hv
 subst hv
 have hf0:=hf
 have y0:x0=sv:=by rw [R_val rfl y0];exact hv1
 have y1:x1= .bool true:=R_val rfl y1
 subst y0 y1
 have hs2:SegV (fun _=>False) w x0 l:=by
  obtain ⟨sa',c',e,hok,hr'⟩:=hsv
  refine ⟨sa',c',e,hok,?_⟩
  by_cases h0:l= []
  ·exact .inl h0
  ·rcases hr' with h|⟨R,o,e1,h3,h4⟩
   ·exact .inl h
   ·exact .inr ⟨R,o,e1,h3,zaJ h4 (hold R (zci h4 h0) (hR R o c' (by rw [e,e1])))⟩
 refine Calls.mono (zA5 hs2 hl) fun en w' hh=> ?_
 obtain ⟨rfl,hbl⟩:=hh
 rw [hn]
 refine ⟨_,[],F,rfl,rfl,zac h40,?_,fun b hb=>⟨Nat.lt_of_lt_of_le (hF b hb) hbl.size,.inl hb⟩,Dw.Mv.of_below hbl⟩
 exact (lwG X bX S P L Bs B M N r b2 sk gk rows).loc 0 _ _ F w w' hf0 (fun m v hm=>zgJ (zrd hnone) hm) (fun b hb=>hbl.block b (hF b hb)) hbl.size
theorem Tryz.zw8 {ρ:Val} {w0:World} {K:Nat→Prop} {X:Nat→Prop} {bX:Nat} {S P L Bs B M N:Nat} {r:Rg} {b2:Nat} {sk:Nat→SS} {gk:Nat→Nat→Int} {rows:Nat→List LwR} {k k' q:Nat} {e0:LwR} {ids:List Int} {l:List Sg} {n:Int} {sv:Value}
  (hv0:ρ.v 0= .pointer (some ⟨P,0,none⟩)) (hv1:ρ.v 1=sv) (h5:(lnv 5).den ρ=n) (hrg: ∀j,Dw.R ρ j rg r.val) (hb2r:za9 l=0) (hr:RgOk r) (hN:N≤1048576) (hfit:r.d+16*r.n≤N∧r.v+6+2*r.n≤N) (hsv:SegV (fun _=>False) w0 sv l)
  (hR: ∀R o' c',sv= .slice (some ⟨R,o',none⟩) l.length c'→ ¬K R∧R<b2) (hl:l.length<60000) (hil:ids.length=l.length) (hnd:ids.Nodup) (hin: ∀x∈ids,0≤x∧x<r.n) (hn:0≤n∧n<1000000)
  (he0:e0∈rows k) (hq:e0.q=some q) (hz:e0.sz=1) (hcn:e0.n=ids.length) (hcs:e0.cs=zat ids) (hrows: ∀e∈rows k',e∈rows k) (hs:sk k'=sk k) (hg:gk k'=zdB r ids l n (gk k)) (hlt:B<b2) (hK:K B):
  za3 prog ρ w0 K (lwG X bX S P L Bs B M N r b2 sk gk rows) (zuq k k' q):=by
 refine ⟨Dw.enters_of (by kernel_rfl),fun j w vals F n0 hv hnone _ hF hsz hf hold=> ?_⟩
 obtain ⟨x0,_,rfl,y0,hv⟩:=hv
 obtain ⟨x1,_,rfl,y1,hv⟩:=hv
 obtain ⟨x2,_,rfl,y2,hv⟩:=hv
 obtain ⟨x3,_,rfl,y3,hv⟩:=hv
 obtain ⟨x4,_,rfl,y4,hv⟩:=hv
 have hv:_= []:=hv
 subst hv
 obtain ⟨hXF,F0,hF0,h1,h2⟩:=hf
 obtain ⟨u,t,q1,q2,q3⟩:=h2 e0 he0
 rw [hz,hcn,hcs] at q2
 have y0:x0= .pointer (some ⟨P,0,none⟩):=by rw [R_val rfl y0];exact hv0
 have y1:x1=r.val:=(R_val (by decide) y1).trans (R_val (by decide) (hrg j)).symm
 have y2:x2=u:=by
  obtain ⟨⟨Lq,hj,hu⟩,_⟩:=y2
  unfold LwR.is at q1
  rw [hq] at q1
  simp only at q1
  unfold opqs at q1
  rw [hj] at q1
  simp only [Option.bind_some] at q1
  rw [hu] at q1
  injection q1
 have y3:x3=sv:=by rw [R_val rfl y3];exact hv1
 have y4:x4= .int .i64 n:=by rw [show x4= .int .i64 ((lnv 5).den ρ) from y4,h5]
 subst y0 y1 y2 y3 y4
 have hul:=OwnR.lt q2
 obtain ⟨sa,c,hsl,hur⟩:=OwnR.row q2
 have hseg:SegV (fun _=>False) w x3 l:=by
  obtain ⟨sa',c',e,hok,hr'⟩:=hsv
  refine ⟨sa',c',e,hok,?_⟩
  by_cases h0:l= []
  ·exact .inl h0
  ·rcases hr' with h|⟨R,o,e1,h3,h4⟩
   ·exact .inl h
   ·exact .inr ⟨R,o,e1,h3,zaJ h4 (hold R (zci h4 h0) (hR R o c' (by rw [e,e1])).1)⟩
 have hcall:Calls prog 12 #[.pointer (some ⟨P,0,none⟩),r.val,.slice sa ids.length c,x3,.int .i64 n] w fun e w'=>e= .returned (.bool (decide (za9 l=0)))∧GM w' P L Bs B N (zdB r ids l n (gk k))∧Dw.Mv (fun b=>b=B) w w':=by
  refine zAP h1.mem hN hr hfit hseg hl hil hnd hin hn (by have:=hr.bnd;omega) ?_
  rcases hur with h|⟨G,e,hGo,hG⟩
  ·left
   have:=congrArg List.length h
   simp [zat] at this
   exact List.length_eq_zero_iff.1 (by simpa using this)
  ·have hq3:=(q3 G hGo).2
   refine .inr ⟨G,0,e,hG,fun h=>hq3 (h▸h1.fP),fun h=>hq3 (h▸h1.fL),fun h=>hq3 (h▸h1.fs),fun h=>hq3 (h▸h1.fB),fun R o' ⟨c',h⟩ hGR=> ?_⟩
   have:=(hR R o' c' h).2
   have:=(hul G hGo).1
   omega
 rw [hsl]
 refine Calls.mono hcall fun en w' hh=> ?_
 obtain ⟨rfl,hgm,hmv⟩:=hh
 refine ⟨_,[],F,rfl,rfl,zaO (by rw [hb2r];rfl),⟨hXF,F0,hF0,?_,fun e he=> ?_⟩,fun b hb=>⟨Nat.lt_of_lt_of_le (hF b hb) hmv.size,.inl hb⟩,hmv.mono fun b hb=> ?_⟩
 ·show LwF S P L Bs B M N r (sk k') (gk k') _ w'
  rw [hs,hg]
  exact h1.stored hmv hgm
 ·obtain ⟨v,t',e1,e2,e3⟩:=h2 e (hrows e he)
  refine ⟨v,t',by rw [zfS];exact e1,OwnR.kept e2 fun b hb=>hmv.block b (OwnR.lt e2 b hb).2 fun hh=> ?_,e3⟩
  have:=(OwnR.lt e2 b hb).1
  omega
 ·subst hb
  exact ⟨hF0 _ h1.fB,.inr hK⟩
end Go.Proofs
namespace Go.Proofs
open Go.Dw Go.RowKit Go.Maps Go.Sort Go.Deep Go.ChangeShapes Go.WideShapes
section
variable {H:Type} {enc:TypeId×Value→H} {W:World} {sp:Nat→Bool} {held:Bool} {fuel:Nat}
theorem Tryz.zBp {α:Type} {p:Nat→α→Prop}: ∀n,(∀i,i<n→ ∃x,p i x)→ ∃l:List α,l.length=n∧ ∀(i:Nat) (hi:i<l.length),p i l[i]
 | 0,_=>⟨[],rfl,fun i hi=>absurd hi (Nat.not_lt_zero i)⟩
 | n+1,h=>by
  obtain ⟨l,hl,hp⟩:=zBp n fun i hi=>h i (by omega)
  obtain ⟨x,hx⟩:=h n (by omega)
  refine ⟨l++ [x],by simp [hl],fun i hi=> ?_⟩
  by_cases hlt:i<l.length
  ·rw [List.getElem_append_left hlt];exact hp i hlt
  ·have e:i=n:=by simp at hi;omega
   subst e
   simp only [List.getElem_append_right (by omega:l.length≤i),hl,Nat.sub_self,List.getElem_singleton]
   exact hx
theorem Tryz.addr_add (b o n:Nat):(⟨b,o,none⟩:Addr).add n=⟨b,o+n,none⟩:=by
 unfold Addr.add
 split
 ·rename_i h;rw [h];rfl
 ·rfl
theorem Tryz.zsI {α:Type} {l:List α} {i:Nat} (h:i<l.length):l[i]? =some l[i]:=List.getElem?_eq_getElem h
set_option maxRecDepth 100000 in
theorem Tryz.zDN {cs:List Value} {x:DataW H×List MemPlace} (h:DataW.trod enc prog W 0 sp held fuel 48 cs=some x): ∃s:Sg,cs=s.cells∧s.ok:=by
 obtain ⟨xs,n,rfl,rfl,hl,hx,hf⟩:=DataW.trod_struct underlying48 h
 have hl:cs.length=3:=hl.trans (by kernel_rfl)
 have hx:xs.length=3:=hx
 match cs,hl with
 | [c0,c1,c2],_=>
  have f0:DataW.trod enc prog W 0 sp held n 30 [c0]=xs[0]? :=by
   have:=(show DataW.trod enc prog W 0 sp held n 30 (([c0,c1,c2].drop 0).take (prog.cellsOf 30))=xs[0]? from hf 0 _ rfl)
   rw [show prog.cellsOf 30=1 from by kernel_rfl] at this
   exact this
  have f1:DataW.trod enc prog W 0 sp held n 46 [c1]=xs[1]? :=by
   have:=(show DataW.trod enc prog W 0 sp held n 46 (([c0,c1,c2].drop 1).take (prog.cellsOf 46))=xs[1]? from hf 1 _ rfl)
   rw [show prog.cellsOf 46=1 from by kernel_rfl] at this
   exact this
  have f2:DataW.trod enc prog W 0 sp held n 4 [c2]=xs[2]? :=by
   have:=(show DataW.trod enc prog W 0 sp held n 4 (([c0,c1,c2].drop 2).take (prog.cellsOf 4))=xs[2]? from hf 2 _ rfl)
   rw [show prog.cellsOf 4=1 from by kernel_rfl] at this
   exact this
  rw [zsI (by omega)] at f0 f1 f2
  obtain ⟨n0,e0,_,w0⟩:=DataW.trod_int underlying30 f0
  obtain ⟨n1,e1,_,w1⟩:=DataW.trod_int underlying46 f1
  obtain ⟨b,e2,_⟩:=DataW.trod_bool underlying4 f2
  simp only [List.cons.injEq,and_true] at e0 e1 e2
  subst e0 e1 e2
  have b0:=bounds_u64 w0
  have b1:=bounds_u32 w1
  exact ⟨⟨n0,n1,b⟩,rfl,by show 0≤n0;omega,by show n0<_;omega,by show 0≤n1;omega,by show n1<_;omega⟩
theorem Tryz.zma {R:Nat}: ∀ {l:List Sg} {o:Nat},(∀(i:Nat) (hi:i<l.length),W.rangeAt R (o+3*i) l[i].cells)→W.rangeAt R o (zaP l)
 | [], o,_=>fun j v hv=>by simp [zaP] at hv
 | x::r,o,h=>fun j v hv=>by
  have h0:=h 0 (by simp)
  have hr:=zma (R:=R) (l:=r) (o:=o+3) fun i hi=>by
   have:=h (i+1) (by simpa using hi)
   rw [show o+3*(i+1)=o+3+3*i by omega] at this
   simpa using this
  have hv:(x.cells++zaP r)[j]? =some v:=hv
  by_cases hj:j<3
  ·rw [List.getElem?_append_left (by simpa [Sg.cells] using hj)] at hv
   exact h0 j v hv
  ·rw [List.getElem?_append_right (by simp [Sg.cells];omega)] at hv
   have:=hr (j-3) v hv
   rw [show o+3+(j-3)=o+j by omega] at this
   exact this
set_option maxRecDepth 100000 in
theorem Tryz.zzT {v:Value} {x:DataW H×List MemPlace} (h:DataW.trod enc prog W 0 sp held fuel 36 [v]=some x) (hw: ∀n∈x.1.weights prog 36,n≤reachBytes):
  ∃ l,SegV (fun _=>False) W v l∧l.length<4000000000000000:=by
 rcases DataW.trod_slice underlying36 h with ⟨e,_⟩|⟨a,len,cap,elems,rest,n,rfl,e,rfl,_,hlc,hcap,hel,hc,_⟩
 ·simp only [List.cons.injEq,and_true] at e
  subst e
  exact ⟨[],SegV.none,by decide⟩
 ·simp only [List.cons.injEq,and_true] at e
  subst e
  have hb:prog.bytesOf 48=16:=by kernel_rfl
  have hsz:=hw ((elems.length+rest.length)*16) (by
   unfold DataW.weights
   rw [underlying36]
   simp [hb])
  unfold reachBytes at hsz
  obtain ⟨l,hll,hl⟩:=zBp (p:=fun i (s:Sg)=>W.cells? 0 (a.add (i*3)) 3=some s.cells∧s.ok) len fun i hi=>by
   have:=hc i hi
   rw [zsI (by omega)] at this
   obtain ⟨cs,h1,h2⟩:=Option.bind_eq_some_iff.1 this
   obtain ⟨s,rfl,hs⟩:=zDN h2
   exact ⟨s,h1,hs⟩
  subst hll
  refine ⟨l,⟨some a,cap,rfl,fun s hs=> ?_,?_⟩,by omega⟩
  ·obtain ⟨i,hi,rfl⟩:=List.mem_iff_getElem.1 hs
   exact (hl i hi).2
  ·by_cases h0:l= []
   ·exact .inl h0
   ·right
    obtain ⟨ab,ao,aq⟩:=a
    have hp:0<l.length:=List.length_pos_iff.2 h0
    have hs:aq=none:=cell_spot ((World.cells?_some (hl 0 hp).1).2.2 0 (by decide))
    subst hs
    refine ⟨ab,ao,rfl,fun h=>h,zma fun i hi j y hy=> ?_⟩
    have hj:j<3:=by
     have:=List.getElem?_eq_some_iff.1 hy
     simpa [Sg.cells] using this.1
    have:=(World.cells?_some (hl i hi).1).2.2 j hj
    rw [hy,addr_add,addr_add] at this
    rw [show ao+3*i+j=ao+i*3+j by omega]
    exact this
end
end Go.Proofs
namespace Go.Proofs
open Go.Dw Go.RowKit Go.Maps Go.Sort Go.Deep Go.ChangeShapes Go.WideShapes
section
variable {H:Type} {enc:TypeId×Value→H} {W:World} {sp:Nat→Bool} {held:Bool} {fuel:Nat}
theorem Tryz.ziZ {e:TypeId}: ∀ {l:List (DataW H)} {d:DataW H},d∈l→ ∀n∈d.weights prog e,n∈DataW.weightsAll prog e l
 | x::r,d,h,n,hn=>by
  unfold DataW.weightsAll
  rcases List.mem_cons.1 h with rfl|h
  ·exact List.mem_append_left _ hn
  ·exact List.mem_append_right _ (ziZ h n hn)
end
end Go.Proofs
namespace Go.Proofs
open Go.Dw Go.RowKit Go.Maps Go.Sort Go.Deep Go.ChangeShapes Go.WideShapes
structure Tryz.BufV (w:World) (v:Value) (ls:List (List Sg)):Prop where
 val: ∃sa c,v= .slice sa ls.length c∧(ls= []∨ ∃R o,sa=some ⟨R,o,none⟩∧ ∀i,(hi:i<ls.length)→ ∃sv,w.cell? ⟨R,o+i,none⟩=some sv∧SegV (fun _=>False) w sv ls[i]∧ls[i].length<4000000000000000)
 len:ls.length<4000000000000000
section
variable {H:Type} {enc:TypeId×Value→H} {W:World} {sp:Nat→Bool} {held:Bool} {fuel:Nat}
set_option maxRecDepth 100000 in
theorem Tryz.bufs_open {v:Value} {x:DataW H×List MemPlace} (h:DataW.trod enc prog W 0 sp held fuel 24 [v]=some x) (hw: ∀n∈x.1.weights prog 24,n≤reachBytes):
  ∃ ls,BufV W v ls:=by
 rcases DataW.trod_slice underlying24 h with ⟨e,_⟩|⟨a,len,cap,elems,rest,n,rfl,e,rfl,_,hlc,hcap,hel,hc,_⟩
 ·simp only [List.cons.injEq,and_true] at e
  subst e
  exact ⟨[],⟨⟨none,0,rfl,.inl rfl⟩,by decide⟩⟩
 ·simp only [List.cons.injEq,and_true] at e
  subst e
  have hb:prog.bytesOf 36=24:=by kernel_rfl
  have hc1:prog.cellsOf 36=1:=by kernel_rfl
  have hws: ∀m,(m=(elems.length+rest.length)*24∨m∈DataW.weightsAll prog 36 (elems.map (·.1)))→m≤reachBytes:=fun m hm=>hw m (by
   unfold DataW.weights
   rw [underlying24]
   simp only [List.length_map,hb,List.mem_cons,List.mem_append]
   rcases hm with hm|hm
   ·exact .inl hm
   ·exact .inr (.inl hm))
  have hsz:=hws _ (.inl rfl)
  unfold reachBytes at hsz
  rw [hc1] at hc
  obtain ⟨ls,hll,hl⟩:=zBp (p:=fun i (s:List Sg)=> ∃sv,W.cell? (a.add (i*1))=some sv∧SegV (fun _=>False) W sv s∧s.length<4000000000000000) len fun i hi=>by
   have:=hc i hi
   rw [zsI (by omega)] at this
   obtain ⟨cs,h1,h2⟩:=Option.bind_eq_some_iff.1 this
   have h3:=World.cells?_some h1
   have h4:cs.length=1:=h3.2.1
   match cs,h4 with
   | [sv],_=>
    obtain ⟨s,q1,q2⟩:=zzT h2 fun m hm=>hws m (.inr (ziZ (List.mem_map.2 ⟨_,List.getElem_mem _,rfl⟩) m hm))
    refine ⟨s,sv,?_,q1,q2⟩
    have:=h3.2.2 0 (by decide)
    simpa [Addr.add] using this
  subst hll
  refine ⟨ls,⟨⟨some a,cap,rfl,?_⟩,by omega⟩⟩
  by_cases h0:ls= []
  ·exact .inl h0
  ·right
   obtain ⟨ab,ao,aq⟩:=a
   have hp:0<ls.length:=List.length_pos_iff.2 h0
   have hs:aq=none:=by
    obtain ⟨sv,q,_⟩:=hl 0 hp
    exact cell_spot q
   subst hs
   refine ⟨ab,ao,rfl,fun i hi=> ?_⟩
   obtain ⟨sv,q1,q2,q3⟩:=hl i hi
   rw [addr_add,Nat.mul_one] at q1
   exact ⟨sv,q1,q2,q3⟩
end
end Go.Proofs
namespace Go.Proofs
open Go.Dw Go.RowKit Go.Maps Go.Sort
structure Tryz.TkV where
 r:Rg
 nl:Int
 nh:Int
 i:Int
 nb:Int
 next:Int
 need:Int
 good:Bool
 mem:Value
 sv:Value
 srv:Value
 bufs:Value
 hds:Value
 ord:Value
def Tryz.TkV.rho (m:TkV):Val:=
  ⟨fun n=>match n with|0=>m.r.n|1=>m.r.d|2=>m.r.v|3=>m.r.c|4=>m.nl|5=>m.nh|6=>m.i|7=>m.nb|13=>m.next|40=>m.need|_=>0,
   fun n=>match n with|3=>m.good|_=>false,fun n=>match n with|0=>m.mem|1=>m.sv|2=>m.srv|4=>m.bufs|5=>m.hds|103=>m.ord|_=>undef⟩
structure Tryz.TkD (ρ:Val) (m:TkV):Prop where
 sz:(szv 0).den ρ=m.r.n
 d1:(u64v 1).den ρ=m.r.d
 d2:(u64v 2).den ρ=m.r.v
 d3:(u64v 3).den ρ=m.r.c
 d4:(lnv 4).den ρ=m.nl
 d5:(lnv 5).den ρ=m.nh
 d6:(lnv 6).den ρ=m.i
 d7:(lnv 7).den ρ=m.nb
 d13:(lnv 13).den ρ=m.next
 i40:ρ.i 40=m.need
 b3:ρ.b 3=m.good
 v0:ρ.v 0=m.mem
 v1:ρ.v 1=m.sv
 v2:ρ.v 2=m.srv
 v4:ρ.v 4=m.bufs
 v5:ρ.v 5=m.hds
 v103:ρ.v 103=m.ord
theorem Tryz.tkD {m:TkV} (hr:RgOk m.r) (h4:0≤m.nl∧m.nl<4000000000000000) (h5:0≤m.nh∧m.nh<4000000) (h6:0≤m.i∧m.i<4000000) (h7:0≤m.nb∧m.nb<4000000000000000) (h13:0≤m.next∧m.next<4000000):TkD m.rho m:=by
 have q1:=hr.dE
 have q2:=hr.vE
 have q3:=hr.cE
 have hb:=hr.bnd
 exact ⟨zoo (by show 1≤m.r.n;omega) (by show m.r.n≤_;omega),zaH hr.d0 (by show m.r.d<_;omega),zaH hr.v0 (by show m.r.v<_;omega),zaH hr.c0 (by show m.r.c<_;omega),zaR h4.1 (by show m.nl<_;omega),zaR h5.1 (by show m.nh<_;omega),
  zaR h6.1 (by show m.i<_;omega),zaR h7.1 (by show m.nb<_;omega),zaR h13.1 (by show m.next<_;omega),rfl,rfl,rfl,rfl,rfl,rfl,rfl,rfl⟩
theorem Tryz.TkD.rg {ρ:Val} {m:TkV} (D:TkD ρ m) (j:J):RL ρ j zfM [.bool false,.int .i64 m.r.n,.int .u64 m.r.d,.int .u64 m.r.v,.int .u64 m.r.c]:=
 zab (zaO rfl) (zab (zac D.sz) (zab (zac D.d1) (zab (zac D.d2) (zab (zac D.d3) RL.nil))))
def Tryz.tkA (W0:World) (X11 S M B:Nat) (vh:Value) (w:World) (b:Nat):Prop:=b<w.heap.size∧(b<W0.heap.size∨b=X11∨vh.ownBlock=some b∨b=S∨b=M∨b=B)
def Tryz.hdR (vh:Value) (hs:List Int):LwR:=⟨none,vh,1,hs.length,zat hs⟩
structure Tryz.TkL (W0:World) (H4 X11 S P L Bs B M:Nat) (r:Rg) (av ov:Value) (ls:List (List Sg)) (s:SS) (g:Nat→Int) (hs:List Int) (bs:List (List Sg)) (next:Int) (vh:Value) (i:Nat) (a:Act) (w:World):Prop where
 size:a.tmps.size=299
 dfr:a.defers= []
 t0:a.tmps.getD 0 undef= .int .i64 r.n
 t2:a.tmps.getD 2 undef=av
 t3:a.tmps.getD 3 undef=ov
 t9:a.tmps.getD 9 undef= .pointer (some ⟨P,0,none⟩)
 t10:a.tmps.getD 10 undef= .pointer (some ⟨S,0,none⟩)
 t11:a.tmps.getD 11 undef= .pointer (some ⟨X11,0,none⟩)
 t13:a.tmps.getD 13 undef= .int .i64 next
 t14:a.tmps.getD 14 undef=vh
 t15:a.tmps.getD 15 undef= .int .i64 i
 row:Row w ⟨X11,0,0,none⟩ [.bool false,.int .i64 r.n,.int .u64 r.d,.int .u64 r.v,.int .u64 r.c]
 sw:SW (tkA W0 X11 S M B vh w) w S P L Bs B M 20000 r s g
 inv:TkI r s g hs bs next
 hd: ∃t,OwnR t 1 w H4 vh hs.length (zat hs)
 aok:BufV W0 av ls
 old:Below W0.heap.size W0 w
 lo:W0.heap.size≤X11∧W0.heap.size≤S∧W0.heap.size≤M∧W0.heap.size≤B∧W0.heap.size≤P∧W0.heap.size≤L∧W0.heap.size≤Bs
 hi:X11<H4∧S<H4∧M<H4∧B<H4∧P<H4∧L<H4∧Bs<H4
 x11:X11≠S∧X11≠M∧X11≠B∧X11≠P∧X11≠L∧X11≠Bs
 h4:H4≤w.heap.size
 n16:ls.length≤16∧hs.length≤i∧i≤ls.length
 o1:ov.oneCell'=true
theorem Tryz.TkL.start {W0:World} {H4 X11 S P L Bs B M:Nat} {r:Rg} {av ov:Value} {ls:List (List Sg)} {s:SS} {g:Nat→Int} {hs:List Int} {bs:List (List Sg)} {next:Int} {vh:Value} {i:Nat} {a:Act} {w:World} (h:TkL W0 H4 X11 S P L Bs B M r av ov ls s g hs bs next vh i a w)
  {bl:List (Nat×Nat)} (hbl: ∀x∈bl,x.1=X11∨x.1<W0.heap.size) {sk:Nat→SS} {gk:Nat→Nat→Int} {rows:Nat→List LwR} (hsk:sk 0=s) (hg:gk 0=g) (hr:rows 0= [hdR vh hs]):
  (lwG (fun b=>b≠X11∧W0.heap.size≤b) w.heap.size S P L Bs B M 20000 r H4 sk gk rows).G 0 (jOf bl) w:=by
 obtain ⟨l1,l2,l3,l4,l5,l6,l7⟩:=h.lo
 obtain ⟨n1,n2,n3,n4,n5,n6⟩:=h.x11
 obtain ⟨m1,m2,m3,m4,m5,m6,m7⟩:=h.hi
 have k1:=h.sw.srv.ltS
 have k2:=h.sw.srv.ltM
 have k3:=h.sw.mem.bl
 obtain ⟨t,hd⟩:=h.hd
 have hlt:=OwnR.lt hd
 have hno: ∀ {b:Nat},b<H4→vh.ownBlock≠some b:=fun hb e=>by have:=(hlt _ e).1;omega
 refine ⟨fun b=>b<w.heap.size∧b≠X11∧W0.heap.size≤b,fun b hb=>⟨hb.1,fun hm=> ?_⟩,fun b hb=> .inl hb.2,fun b=>b<w.heap.size∧b≠X11∧W0.heap.size≤b∧vh.ownBlock≠some b,fun b hb=>⟨hb.1,hb.2.1,hb.2.2.1⟩,?_,fun e he=> ?_⟩
 ·obtain ⟨x,hx,rfl⟩:=List.mem_map.1 (zcK hm)
  rcases hbl x hx with e|e
  ·exact hb.2.1 e
  ·have:=hb.2.2;omega
 ·show LwF S P L Bs B M 20000 r (sk 0) (gk 0) _ w
  rw [hsk,hg]
  refine ⟨⟨k1,fun e=>n1 e.symm,l2,hno m2⟩,⟨k2,fun e=>n2 e.symm,l3,hno m3⟩,⟨h.sw.mem.pl,fun e=>n4 e.symm,l5,hno m5⟩,⟨h.sw.mem.ll,fun e=>n5 e.symm,l6,hno m6⟩,⟨h.sw.mem.sl,fun e=>n6 e.symm,l7,hno m7⟩,⟨k3,fun e=>n3 e.symm,l4,hno m4⟩,h.sw.set (fun b hb hh=>⟨hb,?_⟩) ⟨k1,.inr (.inl rfl)⟩ ⟨k2,.inr (.inr (.inl rfl))⟩ ⟨k3,.inr (.inr (.inr rfl))⟩ fun b hb=>hb.1⟩
  rcases hh.2 with hh|hh
  ·by_cases e1:b=X11
   ·exact .inr (.inl e1)
   ·by_cases e2:b<W0.heap.size
    ·exact .inl e2
    ·by_cases e3:vh.ownBlock=some b
     ·exact .inr (.inr (.inl e3))
     ·exact absurd ⟨hb,e1,by omega,e3⟩ hh
  ·exact .inr (.inr (.inr hh))
 ·rw [hr,List.mem_singleton] at he
  subst he
  exact ⟨vh,t,rfl,hd,fun b hb=>⟨⟨(hlt b hb).2,fun e=>by have:=(hlt b hb).1;omega,by have:=(hlt b hb).1;omega⟩,fun hn=>hn.2.2.2 hb⟩⟩
theorem Tryz.TkL.next {W0:World} {H4 X11 S P L Bs B M:Nat} {r:Rg} {av ov:Value} {ls:List (List Sg)} {s:SS} {g:Nat→Int} {hs:List Int} {bs:List (List Sg)} {next:Int} {vh:Value} {i:Nat} {a:Act} {w:World} (h:TkL W0 H4 X11 S P L Bs B M r av ov ls s g hs bs next vh i a w) (hil:i<ls.length)
  {s':SS} {g':Nat→Int} {hs':List Int} {bs':List (List Sg)} {next':Int} {vh':Value} {a2:Act} {w2:World} {F2:Nat→Prop}
  (hmv:Dw.Mv (fun b=>b=S∨b=M∨b=B∨vh.ownBlock=some b) w w2) (z1:a2.tmps.size=299) (z2:a2.defers= []) (hX2: ∀b,F2 b→(b≠X11∧W0.heap.size≤b)∨w.heap.size≤b)
  (hgho: ∃F0:Nat→Prop,(∀b,F0 b→F2 b)∧LwF S P L Bs B M 20000 r s' g' F0 w2∧(∃t,OwnR t 1 w2 H4 vh' hs'.length (zat hs'))∧ ∀b,vh'.ownBlock=some b→ ¬F0 b)
  (hinv:TkI r s' g' hs' bs' next') (hlen:hs'.length≤i+1)
  (z4:([2,13,15,0,3,9,10,11,14].map fun t=>a2.tmps.getD t undef)= [av,.int .i64 next',.int .i64 (i+1:Nat),.int .i64 r.n,ov,.pointer (some ⟨P,0,none⟩),.pointer (some ⟨S,0,none⟩),.pointer (some ⟨X11,0,none⟩),vh']):
  TkL W0 H4 X11 S P L Bs B M r av ov ls s' g' hs' bs' next' vh' (i+1) a2 w2:=by
 obtain ⟨F0,hF0,hlw,hown,hnF⟩:=hgho
 simp only [List.map_cons,List.map_nil,List.cons.injEq,and_true] at z4
 obtain ⟨t2,t13,t15,t0,t3,t9,t10,t11,t14⟩:=z4
 obtain ⟨l1,l2,l3,l4,l5,l6,l7⟩:=h.lo
 obtain ⟨m1,m2,m3,m4,m5,m6,m7⟩:=h.hi
 have hh4:=h.h4
 obtain ⟨t,hd⟩:=h.hd
 have hlt:=OwnR.lt hd
 have hX9:X11<w.heap.size:=zfQ h.row
 have hX9n: ¬(X11=S∨X11=M∨X11=B∨vh.ownBlock=some X11):=by
  rintro (e|e|e|e)
  ·exact h.x11.1 e
  ·exact h.x11.2.1 e
  ·exact h.x11.2.2.1 e
  ·have:=(hlt _ e).1;omega
 have hold:=h.old.size
 have k1:=h.sw.srv.ltS
 have k2:=h.sw.srv.ltM
 have k3:=h.sw.mem.bl
 have hs2:=hmv.size
 refine ⟨z1,z2,t0,t2,t3,t9,t10,t11,t13,t14,t15,h.row.kept (hmv.block _ hX9 hX9n),hlw.sw.set (fun b hb hh=>⟨hb,?_⟩) ⟨by omega,.inr (.inr (.inr (.inl rfl)))⟩ ⟨by omega,.inr (.inr (.inr (.inr (.inl rfl))))⟩ ⟨by omega,.inr (.inr (.inr (.inr (.inr rfl))))⟩ (fun b hb=>hb.1),hinv,hown,h.aok,h.old.trans ⟨hmv.os,hmv.tape,hmv.output,hmv.size,fun b hb=>hmv.block b (by omega) ?_⟩,h.lo,h.hi,h.x11,by omega,⟨h.n16.1,hlen,by omega⟩,h.o1⟩
 ·rcases hh.2 with hh|hh|hh|hh
  ·exact .inl fun hf=>by rcases hX2 b (hF0 b hf) with e|e<;>omega
  ·exact .inl fun hf=>by rcases hX2 b (hF0 b hf) with e|e;exact e.1 hh;omega
  ·exact .inl (hnF b hh)
  ·exact .inr hh
 ·rintro (e|e|e|e)
  ·omega
  ·omega
  ·omega
  ·have:=(hlt _ e).1;omega
section
variable {W0:World} {H4 X11 S P L Bs B M:Nat} {r:Tryz.Rg} {av ov:Value} {ls:List (List Tryz.Sg)} {s:Tryz.SS} {g:Nat→Int} {hs:List Int} {bs:List (List Tryz.Sg)} {next:Int} {vh:Value} {i:Nat} {a:Act} {w:World}
def Tryz.tkV (r:Rg) (P S:Nat) (av ov vh sv:Value) (nl nb:Nat) (nh:Nat) (next:Int) (i:Nat) (n40:Int) (good:Bool):TkV:=⟨r,nl,nh,i,nb,next,n40,good,.pointer (some ⟨P,0,none⟩),sv,.pointer (some ⟨S,0,none⟩),av,vh,ov⟩
theorem Tryz.TkL.slots (h:TkL W0 H4 X11 S P L Bs B M r av ov ls s g hs bs next vh i a w) {ρ:Val} {sv:Value} {nl:Nat} {n40:Int} {good:Bool} (D:TkD ρ (tkV r P S av ov vh sv nl ls.length hs.length next i n40 good)) {j:J} {bufs:AV} (hj:j 1=some ⟨X11,0,0,none⟩) (hb:Dw.R ρ j bufs av):
  ∀ t∈zfV bufs,Dw.R ρ j t.2 (a.tmps.getD t.1 undef):=fun t ht=>by
 obtain ⟨tt,hd⟩:=h.hd
 obtain ⟨su,cu,hsu,_⟩:=OwnR.row hd
 simp only [zfV,zb9,List.cons_append,List.nil_append,List.mem_cons,List.not_mem_nil,or_false] at ht
 rcases ht with rfl|rfl|rfl|rfl|rfl|rfl|rfl|rfl|rfl
 ·rw [h.t2];exact hb
 ·rw [h.t13];exact zac D.d13
 ·rw [h.t15];exact zac D.d6
 ·rw [h.t0];exact zac D.sz
 ·rw [h.t3];exact za5 D.v103 h.o1
 ·rw [h.t9];exact za5 D.v0 rfl
 ·rw [h.t10];exact za5 D.v2 rfl
 ·rw [h.t11];exact ⟨_,hj,rfl⟩
 ·rw [h.t14];exact zLy D.v5 hsu D.d5
theorem Tryz.TkL.den (h:TkL W0 H4 X11 S P L Bs B M r av ov ls s g hs bs next vh i a w) (sv:Value) (nl:Nat) (hnl:nl<4000000000000000) (n40:Int) (good:Bool):TkD (tkV r P S av ov vh sv nl ls.length hs.length next i n40 good).rho (tkV r P S av ov vh sv nl ls.length hs.length next i n40 good):=by
 have hn:=h.n16
 have hx:=h.inv.n0
 have hb:=h.sw.srv.rg.bnd
 have hl:=h.aok.len
 exact tkD h.sw.srv.rg ⟨by show (0:Int)≤nl;omega,by show (nl:Int)<_;omega⟩ ⟨by show (0:Int)≤hs.length;omega,by show (hs.length:Int)<_;omega⟩ ⟨by show (0:Int)≤i;omega,by show (i:Int)<_;omega⟩ ⟨by show (0:Int)≤ls.length;omega,by show (ls.length:Int)<_;omega⟩ ⟨by show 0≤next;omega,by show next<_;omega⟩
theorem Tryz.zgw: ∀ {l:List Sg},l.all inRM=true→zcc 20000 l=true
 | [], _=>rfl
 | x::l,h=>by
  rw [List.all_cons,Bool.and_eq_true] at h
  have h1:=h.1
  unfold inRM at h1
  rw [decide_eq_true_eq] at h1
  unfold zcc
  rw [Bool.and_eq_true,decide_eq_true_eq]
  exact ⟨⟨h1.1,by omega⟩,zgw h.2⟩
def Tryz.tkK (S M B:Nat) (vh:Value) (b:Nat):Prop:=b=S∨b=M∨b=B∨vh.ownBlock=some b
theorem Tryz.TkL.k (h:TkL W0 H4 X11 S P L Bs B M r av ov ls s g hs bs next vh i a w):(∀b,tkK S M B vh b→b<w.heap.size)∧ ¬tkK S M B vh X11∧(∀b,b<W0.heap.size→ ¬tkK S M B vh b):=by
 obtain ⟨t,hd⟩:=h.hd
 have hlt:=OwnR.lt hd
 obtain ⟨l1,l2,l3,l4,l5,l6,l7⟩:=h.lo
 obtain ⟨m1,m2,m3,m4,m5,m6,m7⟩:=h.hi
 have k1:=h.sw.srv.ltS
 have k2:=h.sw.srv.ltM
 have k3:=h.sw.mem.bl
 refine ⟨fun b hb=> ?_,?_,fun b hb=> ?_⟩
 ·rcases hb with rfl|rfl|rfl|e
  ·exact k1
  ·exact k2
  ·exact k3
  ·exact (hlt b e).2
 ·rintro (e|e|e|e)
  ·exact h.x11.1 e
  ·exact h.x11.2.1 e
  ·exact h.x11.2.2.1 e
  ·have:=(hlt _ e).1;omega
 ·rintro (e|e|e|e)
  ·omega
  ·omega
  ·omega
  ·have:=(hlt _ e).1;omega
set_option maxRecDepth 10000 in
theorem Tryz.zDk (h:TkL W0 H4 X11 S P L Bs B M r av ov ls s g hs bs next vh i a w) (hil:i<ls.length):
    (zaI prog [0,0,1,0,1,1,1,1,1,1,1,1,3]).wp prog (fun ex a' w'=>ex= .normal∧ ∃s' g' hs' bs' next' vh',TkL W0 H4 X11 S P L Bs B M r av ov ls s' g' hs' bs' next' vh' (i+1) a' w') a w:=by
  obtain ⟨sa0,c0,hav,hr0⟩:=h.aok.val
  rcases hr0 with h0|⟨R,o,rfl,hr0⟩
  · rw [h0] at hil;simp at hil
  obtain ⟨sv,hcell,hsv0,hln⟩:=hr0 i hil
  have hRlt:R<W0.heap.size:=World.block_lt_of_cell? W0 _ hcell
  have hRb:=h.old.block R hRlt
  have hx:w.rangeAt R (o+i) [sv]:=fun j v hv=>by
    match j,hv with
    | 0,hv=>
      cases hv
      exact (World.cell?_of_block (a:=⟨R,o+i,none⟩) hRb).trans hcell
  generalize ls[i]=l at hsv0 hln
  have hsv:SegV (fun _=>False) w sv l:=hsv0.below h.old
  have hsv2:=hsv0
  obtain ⟨sa1,c1,hsve,hok,hsr⟩:=hsv2
  obtain ⟨hKlt,hKX,hK0⟩:=h.k
  obtain ⟨tt,hd⟩:=h.hd
  have hdlt:=OwnR.lt hd
  have hinv:=h.inv
  have hn16:=h.n16
  have hnx:=hinv.n0
  have hkn:=hinv.kn
  have hrg:=h.sw.srv.rg
  have hbnd:=hrg.bnd
  have hold:=h.old.size
  have hh4:=h.h4
  have hhi:=h.hi
  have hlo:=h.lo
  have hwi:=zes i (by omega)
  have hj1:jOf [(X11,0),(R,o+i)] 1=some ⟨X11,0,0,none⟩:=rfl
  have hj2:jOf [(X11,0),(R,o+i)] 2=some ⟨R,o+i,0,none⟩:=rfl
  have hbl: ∀x∈ [(X11,0),(R,o+i)],x.1=X11∨x.1<W0.heap.size:=fun x hx=>by
    simp only [List.mem_cons,List.not_mem_nil,or_false] at hx
    rcases hx with rfl|rfl
    · exact .inl rfl
    · exact .inr hRlt
  have D:=h.den sv l.length hln (if za9 l=0 then 1 else 0) (decide ((if za9 l=0 then (1:Int) else 0)=1)&&l.all inRM)
  obtain ⟨n40,hn40⟩: ∃n:Int,n=if za9 l=0 then 1 else 0:=⟨_,rfl⟩
  rw [←hn40] at D
  generalize (tkV r P S av ov vh sv l.length ls.length hs.length next i n40 (decide (n40=1)&&l.all inRM)).rho=ρ at D
  have hbufs:Dw.R ρ (jOf [(X11,0),(R,o+i)]) zeE av:=⟨D.v4.symm,_,_,_,hav,D.d7.symm,⟨R,o,_,i,rfl,hj2,rfl,D.d6,hil,by simp⟩,trivial⟩
  have hsegs:RL ρ (jOf [(X11,0),(R,o+i)]) [zcG] [sv]:=zab ⟨D.v1.symm,_,_,_,hsve,D.d4.symm,trivial⟩ RL.nil
  have hshs: ∀gho,ShsOk ρ (jOf [(X11,0),(R,o+i)]) (cxOf w (tkK S M B vh) gho) [(X11,0),(R,o+i)] [.ro zfM,.ro [zcG]]:=fun gho=>⟨zjB h.row (by simp) (D.rg _) hKX,zaQ hx (by simp) hsegs (hK0 R hRlt),trivial⟩
  have hap:apart [(X11,0),(R,o+i)] [.ro zfM,.ro [zcG]]:=⟨fun hh=>(by cases hh),fun hh=>(by cases hh),trivial⟩
  have hsl:=h.slots D hj1 hbufs
  have tlt:(SB.cmp .lss (lnv 6) (lnv 7)).den ρ=true:=by rw [zaX,D.d6,D.d7];exact decide_eq_true (by show (i:Int)<ls.length;omega)
  have still: ∀ {a2:Act} {w2:World} {k:Nat} {sk:Nat→SS} {gk:Nat→Nat→Int} {rows:Nat→List LwR} {j2:J} {lc:Nat→Dw.Loc},sk k=s→gk k=g→hdR vh hs∈rows k→Dw.Mv (tkK S M B vh) w w2→(lwG (fun b=>b≠X11∧W0.heap.size≤b) w.heap.size S P L Bs B M 20000 r H4 sk gk rows).G k j2 w2→a2.tmps.size=299→a2.defers= []→lc 1=⟨X11,0,0,none⟩→
      ([2,13,15,0,3,9,10,11,14].map fun t=>a2.tmps.getD t undef)=AV.valL ρ lc [.sx 4 ((lnv 7)) 1 [((lnv 6),2)],.int .i64 (lnv 13),.int .i64 (.bin .add .i64 (lnv 6) (.lit 1)),.int .i64 (szv 0),.cst 103 none,.cst 0 none,.cst 2 none,.ptr 1 0,.cst 5 (some (lnv 5))]→
      ∃ s' g' hs' bs' next' vh',TkL W0 H4 X11 S P L Bs B M r av ov ls s' g' hs' bs' next' vh' (i+1) a2 w2:=fun {a2 w2 k sk gk rows j2 lc} q1 q2 q3 hmv hG z1 z2 lc1 hv=>by
    obtain ⟨F2,y1,y2,F0,y3,y4,y5⟩:=hG
    rw [q1,q2] at y4
    obtain ⟨u,t,e1,e2,e3⟩:=y5 _ q3
    have e1:u=vh:=e1
    subst e1
    refine ⟨s,g,hs,bs,next,u,h.next hil hmv z1 z2 y2 ⟨F0,y3,y4,⟨t,e2⟩,fun b hb=>(e3 b hb).2⟩ hinv (by omega) ?_⟩
    rw [hv]
    simp only [AV.valL,AV.val,D.sz,D.d13,D.d6,D.v0,D.v2,D.v4,D.v5,D.v103,den_add,zaf,lc1]
    show [av,_,Value.int .i64 (IntKind.wrap .i64 ((i:Int)+1)),_,_,_,_,_,_]=_
    rw [hwi]
    rfl
  by_cases hl0:l.length=0
  · refine wp_mono (zax (ρ:=ρ) (K:=tkK S M B vh) (g:=lwG (fun b=>b≠X11∧W0.heap.size≤b) w.heap.size S P L Bs B M 20000 r H4 (fun _=>s) (fun _=>g) (fun _=> [hdR vh hs])) (bl:= [(X11,0),(R,o+i)]) mixed zHC zKp hKlt (hshs _) hap (h.start hbl rfl rfl rfl) trivial trivial trivial h.size h.dfr hsl
      (zaa.2 ⟨tlt,zaa.2 ⟨by rw [zbW,D.d4,zaf];show ((l.length:Int)==0)=true;rw [hl0];rfl,zad.2 trivial⟩⟩)) fun ex a2 w2 hh=> ?_
    obtain ⟨q,hq,hto,lf,hlf,rfl,hsz2,j2,hdf2,he⟩:=hh
    unfold zF7 at hq
    simp only [List.mem_cons,List.not_mem_nil,or_false] at hq
    subst hq
    cases hlf
    exact ⟨rfl,still rfl rfl (by simp) he.mv he.gho hsz2 hdf2 (zag (he.sub _ _ hj1)) (zaE he.ret)⟩
  have teq:(SB.cmp .eql (lnv 4) (.lit 0)).den ρ=false:=by rw [zbW,D.d4,zaf];show ((l.length:Int)==0)=false;exact beq_eq_false_iff_ne.2 (by omega)
  have tgt:(SB.cmp .gtr (lnv 4) (.bin .sub .i64 (szv 0) (lnv 13))).den ρ=decide ((l.length:Int)>r.n-next):=by
    rw [zbV,D.d4,zaW,D.sz,D.d13]
    show decide ((l.length:Int)>IntKind.wrap .i64 (r.n-next))=_
    rw [zdt (by omega) (by omega)]
  by_cases hlg:(l.length:Int)>r.n-next
  · refine wp_mono (zax (ρ:=ρ) (K:=tkK S M B vh) (g:=lwG (fun b=>b≠X11∧W0.heap.size≤b) w.heap.size S P L Bs B M 20000 r H4 (fun _=>s) (fun _=>g) (fun _=> [hdR vh hs])) (bl:= [(X11,0),(R,o+i)]) mixed zHA zKo hKlt (hshs _) hap (h.start hbl rfl rfl rfl) trivial trivial trivial h.size h.dfr hsl
      (zaa.2 ⟨tlt,zaa.2 ⟨teq,zaa.2 ⟨by rw [tgt];exact decide_eq_true hlg,zad.2 trivial⟩⟩⟩)) fun ex a2 w2 hh=> ?_
    obtain ⟨q,hq,hto,lf,hlf,rfl,hsz2,j2,hdf2,he⟩:=hh
    unfold zF5 at hq
    simp only [List.mem_cons,List.not_mem_nil,or_false] at hq
    subst hq
    cases hlf
    exact ⟨rfl,still rfl rfl (by simp) he.mv he.gho hsz2 hdf2 (zag (he.sub _ _ hj1)) (zaE he.ret)⟩
  have tgf:(SB.cmp .gtr (lnv 4) (.bin .sub .i64 (szv 0) (lnv 13))).den ρ=false:=by rw [tgt];exact decide_eq_false hlg
  have hne:l≠ []:=fun e=>hl0 (by rw [e];rfl)
  have hRseg: ∀R' o' c',sv= .slice (some ⟨R',o',none⟩) l.length c'→R'<W0.heap.size:=fun R' o' c' e=>by
    rcases hsr with h|⟨R1,o1,e1,_,h4⟩
    · exact absurd h hne
    · rw [hsve,e1] at e
      injection e with e2 _ _
      injection e2 with e2
      injection e2 with e2 _ _
      rw [←e2]
      exact zci h4 hne
  have hRK: ∀R' o' c',sv= .slice (some ⟨R',o',none⟩) l.length c'→ ¬tkK S M B vh R':=fun R' o' c' e=>hK0 R' (hRseg R' o' c' e)
  have hl16:l.length≤60000:=by omega
  by_cases hgood:(decide (n40=1)&&l.all inRM)=true
  · have hgd:=hgood
    rw [Bool.and_eq_true,decide_eq_true_eq] at hgd
    obtain ⟨hg1,hg2⟩:=hgd
    have hmay:za9 l=0:=by
      by_cases hm:za9 l=0
      · exact hm
      · rw [if_neg hm] at hn40;omega
    have hsi:zcc 20000 l=true:=zgw hg2
    obtain ⟨hp1,s',hp2,hnn,hhd,hsg,hdn,hop,hwr,hit,hinv'⟩:=hinv.take (N:=20000) hrg (by decide) ⟨h.sw.fit.1,h.sw.fit.2.1⟩ hmay hl0 (by omega) hok hsi
    obtain ⟨ids,hids⟩: ∃ids,ids=zba next l.length:=⟨_,rfl⟩
    have hidl:ids.length=l.length:=by rw [hids,zeb]
    have hlt:S<H4∧M<H4∧B<H4:=⟨hhi.2.1,hhi.2.2.1,hhi.2.2.2.1⟩
    have hKs:tkK S M B vh S∧tkK S M B vh M∧tkK S M B vh B:=⟨.inl rfl,.inr (.inl rfl),.inr (.inr (.inl rfl))⟩
    rw [←hids] at hp2 hinv'
    refine wp_mono (zax (ρ:=ρ) (K:=tkK S M B vh) (g:=lwG (fun b=>b≠X11∧W0.heap.size≤b) w.heap.size S P L Bs B M 20000 r H4 (fun k=>match k with|0=>s|1=>s|2=>s|3=>(zda s).2|_=>s') (fun k=>match k with|0=>g|1=>g|_=>zdB r ids l hs.length g)
        (fun k=>match k with|0=> [hdR vh hs]|1=> [⟨some 10,undef,1,l.length,zat ids⟩,hdR vh hs]|2=> [hdR vh hs]|3=> [hdR vh hs]|4=> [hdR vh hs]|5=> [sgR 11 l,hdR vh hs]|_=> [⟨some 14,undef,1,(hs++ [next]).length,zat (hs++ [next])⟩])) (bl:= [(X11,0),(R,o+i)]) mixed zHw zKl hKlt (hshs _) hap (h.start hbl rfl rfl rfl)
      ⟨zlD D.v1 hsv hRK hl16 D.i40 hn40.symm,
       zw8 (e0:=⟨some 10,undef,1,l.length,zat ids⟩) D.v0 D.v1 D.d5 (fun j=>zlu (D.rg j)) hmay hrg (by decide) ⟨h.sw.fit.1,h.sw.fit.2.1⟩ hsv (fun R' o' c' e=>⟨hRK R' o' c' e,by have:=hRseg R' o' c' e;omega⟩) (by omega) hidl (by rw [hids];exact zg1) (by rw [hids];exact zmO hnx.1 (by omega)) ⟨by show (0:Int)≤hs.length;omega,by show (hs.length:Int)<_;omega⟩ (List.mem_cons_self ..) rfl rfl hidl.symm rfl (fun e he=>List.mem_cons_of_mem _ he) rfl rfl hlt.2.2 hKs.2.2,
       zy0 D.v2 hp1 rfl rfl (Nat.le_refl _) hlt hKs (fun e he=>he),
       zvR D.v2 hp2 (Nat.le_refl _) hlt hKs (fun e he=>he),
       zBj D.v2 hinv'.ph hinv'.br hdn (by show s'.sg.length≤1000000;rw [hsg];omega) hop hwr (by show _=s'.nn;rw [hnn];rfl) (by show _=s'.it;rw [hit];rfl) (by show _=s'.hd;rw [hhd];exact D.d13) (Nat.le_refl _) h.h4 (fun e he=>by show e=sgR 11 s'.sg∨_;rw [hsg];exact List.mem_cons.1 he) rfl rfl,
       zBg D.v1 hsv hRK (by omega) (List.mem_cons_self ..),trivial⟩
      ⟨zyZ D.d4 hl16 D.d13 ⟨hnx.1,by show next<100000;omega⟩ D.i40 D.v1 hsv hRK D.b3 h.h4 (Nat.le_refl _) rfl (fun e he=>by rcases List.mem_cons.1 he with h|h;exact .inl (by rw [h,hids];rfl);exact .inr h) rfl rfl,trivial⟩
      ⟨zJh D.v5 D.d13 h.h4 (Nat.le_refl _) (fun b hb=> .inr (.inr (.inr hb))) (by omega) (List.mem_cons_of_mem _ (List.mem_cons_self ..)) (fun e he=>List.mem_singleton.1 he) rfl rfl,trivial⟩ h.size h.dfr hsl
      (zaa.2 ⟨tlt,zaa.2 ⟨teq,zaa.2 ⟨tgf,zaa.2 ⟨by rw [zaM,D.b3];exact hgood,zad.2 trivial⟩⟩⟩⟩)) fun ex a2 w2 hh=> ?_
    obtain ⟨q,hq,hto,lf,hlf,rfl,hsz2,j2,hdf2,he⟩:=hh
    unfold zF1 at hq
    simp only [List.mem_cons,List.not_mem_nil,or_false] at hq
    subst hq
    cases hlf
    obtain ⟨F2,y1,y2,F0,y3,y4,y5⟩:=he.gho
    obtain ⟨u,t,e1,e2,e3⟩:=y5 _ (List.mem_cons_self ..)
    have huv:(lcOf j2 14).q.getD undef=u:=zcA (ρ:=ρ) e1
    refine ⟨rfl,s',_,hs++ [next],bs++ [l],next+l.length,u,h.next hil he.mv hsz2 hdf2 y2 ⟨F0,y3,y4,⟨t,e2⟩,fun b hb=>(e3 b hb).2⟩ hinv' (by rw [List.length_append];simp;omega) ?_⟩
    rw [zaE he.ret]
    have lc1:=zag (he.sub _ _ hj1)
    simp only [AV.valL,AV.val,D.sz,D.d13,D.d4,D.d6,D.v0,D.v2,D.v4,D.v103,den_add,zaf,lc1,huv]
    show [av,Value.int .i64 (IntKind.wrap .i64 (next+(l.length:Int))),Value.int .i64 (IntKind.wrap .i64 ((i:Int)+1)),_,_,_,_,_,_]=_
    rw [hwi,zdt (by omega) (by omega)]
    rfl
  · have hgood:(decide (n40=1)&&l.all inRM)=false:=by simpa using hgood
    refine wp_mono (zax (ρ:=ρ) (K:=tkK S M B vh) (g:=lwG (fun b=>b≠X11∧W0.heap.size≤b) w.heap.size S P L Bs B M 20000 r H4 (fun _=>s) (fun _=>g) (fun k=>match k with|0=> [hdR vh hs]|_=> [⟨some 10,undef,1,l.length,zat (zba next l.length)⟩,hdR vh hs])) (bl:= [(X11,0),(R,o+i)]) mixed zHu zKk hKlt (hshs _) hap (h.start hbl rfl rfl rfl)
      ⟨zlD D.v1 hsv hRK hl16 D.i40 hn40.symm,trivial⟩ ⟨zyZ D.d4 hl16 D.d13 ⟨hnx.1,by show next<100000;omega⟩ D.i40 D.v1 hsv hRK D.b3 h.h4 (Nat.le_refl _) rfl (fun e he=>by rcases List.mem_cons.1 he with h|h;exact .inl h;exact .inr h) rfl rfl,trivial⟩ trivial h.size h.dfr hsl
      (zaa.2 ⟨tlt,zaa.2 ⟨teq,zaa.2 ⟨tgf,zaa.2 ⟨by rw [zaM,D.b3];exact hgood,zad.2 trivial⟩⟩⟩⟩)) fun ex a2 w2 hh=> ?_
    obtain ⟨q,hq,hto,lf,hlf,rfl,hsz2,j2,hdf2,he⟩:=hh
    unfold zFZ at hq
    simp only [List.mem_cons,List.not_mem_nil,or_false] at hq
    subst hq
    cases hlf
    exact ⟨rfl,still (k:=1) rfl rfl (by simp) he.mv he.gho hsz2 hdf2 (zag (he.sub _ _ hj1)) (zaE he.ret)⟩
end
end Go.Proofs
namespace Go.Proofs
open Go.Dw Go.RowKit
def Tryz.zCR:List (Nat×AV):= [(0,.int .i64 (szv 0)),(9,.cst 0 none),(10,.cst 2 none),(11,.ptr 1 0),(25,.int .i64 (lnv 25)),(27,.int .i64 (u16v 27))]++zmJ [3,14]
def Tryz.zLg:List Ent:= [
 ⟨19,[.cst 2 none,.int .i64 (u16v 27),.int .u32 (.lit 0)],0,0,0,.int .i64 (.lit 0),1⟩,
 zBi 1 2 5,
 ⟨19,[.cst 2 none,.int .i64 (u16v 27),.int .u32 (.lit 0)],2,0,0,.int .i64 (.lit 6),2⟩,
 ⟨20,[rg,.int .i64 (.lit 8),.int .i64 (.bin .rem .i64 (lnv 25) (szv 0))],2,0,0,.tup [.int .u64 (u64v 50),.int .i64 (.lit 8),.int .i64 (.lit 0)],2⟩,
 ⟨20,[rg,.int .i64 (.lit 7),.int .i64 (.lit 0)],2,0,0,.tup [.int .u64 (u64v 51),.int .i64 (.lit 2),.int .i64 (.lit 0)],2⟩,
 ⟨21,[.cst 0 none,.int .u64 (u64v 50),.int .i64 (.lit 8)],2,0,0,.tup [.int .u64 (u16v 27),.int .i64 (.lit 0)],2⟩,
 ⟨21,[.cst 0 none,.int .u64 (u64v 51),.int .i64 (.lit 2)],2,0,0,.tup [.int .u64 (lnv 52),.int .i64 (.lit 0)],2⟩,
 ⟨22,[.int .u64 (u16v 27)],2,0,0,.agg [.int .u32 (u16v 27),.int .u32 (.lit 0)],2⟩]
end Go.Proofs
namespace Go.Proofs
open Go.Dw
def Tryz.zwP:List Ent:=zLg
def Tryz.zCP:List Sh:= [.ro zfM]
def Tryz.zhg:List (Nat×AV):=zCR
def Tryz.zsi:List LEnt:= []
def Tryz.zsj:List AEnt:= []
def Tryz.zCQ:Option AV:=none
def Tryz.zJR:List (SB×Bool):= [(.cmp .eql (szv 0) (.lit 0),false)]
def Tryz.zGV:List zbe:= [
 ⟨.ret,[],none,⟨.tup [],[],[],2,[]⟩⟩,
 ⟨.normal,[0,9,10,11,25,3,14],none,⟨.tup [.int .i64 (szv 0),.cst 0 none,.cst 2 none,.ptr 1 0,.int .i64 (.bin .add .i64 (lnv 25) (.lit 1)),.cst 103 none,.cst 114 none],[(1,[.bool (.lit false),.int .i64 (szv 0),.int .u64 (u64v 1),.int .u64 (u64v 2),.int .u64 (u64v 3)])],[],2,[]⟩⟩]
def Tryz.zGU:List (List (SB×Bool)×Nat):= [
 ([((.cmp .neq (lnv 52) (.bin .add .i64 (lnv 25) (.lit 1))),true)],0),
 ([((.cmp .neq (lnv 52) (.bin .add .i64 (lnv 25) (.lit 1))),false)],1)]
theorem Tryz.zJQ:(evL prog (zau zwP) (zaC zsi) (zaA zsj) 100000 (.code (zaI prog [1,1,1,0,1,0,0,0,1,1,1,1,1,1,1,1,1,1,1,1,1,1,3]) [1,1,1,0,1,0,0,0,1,1,1,1,1,1,1,1,1,1,1,1,1,1,3] 299 (envS 299 zhg zCQ) (zar 0 zCP) (zaG zGV 0))).ways zJR=some zGU:=by kernel_rfl
theorem Tryz.zLf:(zah zCP&&zae zwP&&zan zsi&&zao zsj&&zaq zhg&&zal zGV&&zaF 299 zhg&&Nat.ble 299 zaN&&zaz zCQ)=true:=by kernel_rfl
open Go.RowKit Go.Maps Go.Sort
def Tryz.zhh (r:Rg) (used h at0 ix n:Int) (P S:Nat) (t3 t14:Value):Val:=
 ⟨fun m=>match m with|0=>r.n|1=>r.d|2=>r.v|3=>r.c|25=>used|27=>h|50=>at0|51=>ix|52=>n|_=>0,fun _=>false,fun m=>match m with|0=> .pointer (some ⟨P,0,none⟩)|2=> .pointer (some ⟨S,0,none⟩)|103=>t3|114=>t14|_=>undef⟩
theorem Tryz.zwQ {X:Nat→Prop} {bX:Nat} {ρ:Val} {w0:World} {K:Nat→Prop} {S P L Bs B M N:Nat} {r:Rg} {b2:Nat} {sk:Nat→SS} {gk:Nat→Nat→Int} {rows:Nat→List LwR} {k k':Nat} {h c:Int} (hv2:ρ.v 2= .pointer (some ⟨S,0,none⟩)) (d27:(u16v 27).den ρ=h) (hp:(retS (sk k) h 0).1=c) (hs:sk k'=(retS (sk k) h 0).2) (hg:gk k'=gk k) (hlen: ∀e∈(sk k).tk,e.2.length≤64) (hbX:bX≤w0.heap.size) (hlt:S<b2∧M<b2∧B<b2) (hK:K S∧K M∧K B) (hrows: ∀e∈rows k',e∈rows k):
  za3 prog ρ w0 K (lwG X bX S P L Bs B M N r b2 sk gk rows) ⟨19,[.cst 2 none,.int .i64 (u16v 27),.int .u32 (.lit 0)],k,0,0,.int .i64 (.lit c),k'⟩:=
 ztk (Dw.enters_of (by kernel_rfl)) (by decide) hbX [.pointer (some ⟨S,0,none⟩),.int .i64 h,.int .u32 0] (.int .i64 c) (fun j=>zab (za5 hv2 rfl) (zab (zac d27) (zab (zac rfl) RL.nil))) (fun j=>zac rfl) hlt hK hrows fun A w hsw=>by
  rw [hs,hg,←hp];exact zIn hsw h 0 (by decide) fun e he=>by have:=hlen e he;omega
set_option maxRecDepth 10000 in
theorem Tryz.zJS {A:Nat→Prop} {X11 S P L Bs B M:Nat} {r:Rg} {s:SS} {g:Nat→Int} {hs:List Int} {used:Int} {k:Nat} {a:Act} {w:World} {t3 t14:Value}
    (hsz:a.tmps.size=299) (hdf:a.defers= []) (h0:a.tmps.getD 0 undef= .int .i64 r.n) (h9:a.tmps.getD 9 undef= .pointer (some ⟨P,0,none⟩)) (h10:a.tmps.getD 10 undef= .pointer (some ⟨S,0,none⟩)) (h11:a.tmps.getD 11 undef= .pointer (some ⟨X11,0,none⟩)) (h25:a.tmps.getD 25 undef= .int .i64 used)
    (hk:k<hs.length) (h27:a.tmps.getD 27 undef= .int .i64 hs[k]) (h3:a.tmps.getD 3 undef=t3) (h14:a.tmps.getD 14 undef=t14) (o3:t3.oneCell'=true) (o14:t14.oneCell'=true)
    (row:Row w ⟨X11,0,0,none⟩ [.bool false,.int .i64 r.n,.int .u64 r.d,.int .u64 r.v,.int .u64 r.c]) (hX:A X11∧X11≠S∧X11≠M∧X11≠B) (hA: ¬A P∧ ¬A L∧ ¬A Bs) (hsw:SW A w S P L Bs B M 20000 r s g) (hb:BkI r s hs used):
    (zaI prog [1,1,1,0,1,0,0,0,1,1,1,1,1,1,1,1,1,1,1,1,1,1,3]).wp prog (fun ex a' w'=>ex= .normal∧a'.tmps.size=299∧a'.defers= []∧
      ([0,9,10,11,25,3,14].map fun t=>a'.tmps.getD t undef)= [.int .i64 r.n,.pointer (some ⟨P,0,none⟩),.pointer (some ⟨S,0,none⟩),.pointer (some ⟨X11,0,none⟩),.int .i64 (used+1),t3,t14]∧
      Dw.Mv (sK S M B) w w'∧ ∃s' g',SW A w' S P L Bs B M 20000 r s' g'∧BkI r s' (hs.take k++hs.drop (k+1)) (used+1)) a w:=by
  have hrg:=hsw.srv.rg
  have hbnd:=hrg.bnd
  have q1:=hrg.dE
  have q2:=hrg.vE
  have q3:=hrg.cE
  have hc0:=hrg.c0
  have hfit:=hsw.fit
  have hu0:=hb.u0
  obtain ⟨p1,s',g',p2,p3,p4,p5,p6,p7⟩:=hb.give (N:=20000) (g:=g) hrg hk
  have hlt:=hb.lt hs[k] (List.getElem_mem hk)
  have hok:=hb.ok
  have hok':=p5.ok
  generalize hs[k]=h at h27 p1 p2 p3 p4 p6 p7 hlt
  have hm0:0≤used%r.n:=Int.emod_nonneg _ (by omega)
  have hm1:used%r.n<r.n:=Int.emod_lt_of_pos _ (by omega)
  have hrem:used.tmod r.n=used%r.n:=Int.tmod_eq_emod_of_nonneg (by omega)
  have d0:(szv 0).den (zhh r used h (r.c+4+8*(used%r.n)) (r.c+2) (used+1) P S t3 t14)=r.n:=zoo (by show 1≤r.n;omega) (by show r.n≤_;omega)
  have d1:(u64v 1).den (zhh r used h (r.c+4+8*(used%r.n)) (r.c+2) (used+1) P S t3 t14)=r.d:=zaH hrg.d0 (by show r.d<_;omega)
  have d2:(u64v 2).den (zhh r used h (r.c+4+8*(used%r.n)) (r.c+2) (used+1) P S t3 t14)=r.v:=zaH hrg.v0 (by show r.v<_;omega)
  have d3:(u64v 3).den (zhh r used h (r.c+4+8*(used%r.n)) (r.c+2) (used+1) P S t3 t14)=r.c:=zaH hrg.c0 (by show r.c<_;omega)
  have d25:(lnv 25).den (zhh r used h (r.c+4+8*(used%r.n)) (r.c+2) (used+1) P S t3 t14)=used:=zaR (by show 0≤used;omega) (by show used<_;omega)
  have d27:(u16v 27).den (zhh r used h (r.c+4+8*(used%r.n)) (r.c+2) (used+1) P S t3 t14)=h:=zbj (by show 0≤h;omega) (by show h<_;omega)
  have d50:(u64v 50).den (zhh r used h (r.c+4+8*(used%r.n)) (r.c+2) (used+1) P S t3 t14)=r.c+4+8*(used%r.n):=zaH (by show 0≤r.c+4+8*(used%r.n);omega) (by show r.c+4+8*(used%r.n)<_;omega)
  have d51:(u64v 51).den (zhh r used h (r.c+4+8*(used%r.n)) (r.c+2) (used+1) P S t3 t14)=r.c+2:=zaH (by show 0≤r.c+2;omega) (by show r.c+2<_;omega)
  have d52:(lnv 52).den (zhh r used h (r.c+4+8*(used%r.n)) (r.c+2) (used+1) P S t3 t14)=used+1:=zaR (by show 0≤used+1;omega) (by show used+1<_;omega)
  have v0:(zhh r used h (r.c+4+8*(used%r.n)) (r.c+2) (used+1) P S t3 t14).v 0= .pointer (some ⟨P,0,none⟩):=rfl
  have v2:(zhh r used h (r.c+4+8*(used%r.n)) (r.c+2) (used+1) P S t3 t14).v 2= .pointer (some ⟨S,0,none⟩):=rfl
  have v3:(zhh r used h (r.c+4+8*(used%r.n)) (r.c+2) (used+1) P S t3 t14).v 103=t3:=rfl
  have v14:(zhh r used h (r.c+4+8*(used%r.n)) (r.c+2) (used+1) P S t3 t14).v 114=t14:=rfl
  generalize zhh r used h (r.c+4+8*(used%r.n)) (r.c+2) (used+1) P S t3 t14=ρ at d0 d1 d2 d3 d25 d27 d50 d51 d52 v0 v2 v3 v14
  have hrow: ∀j,RL ρ j zfM [.bool false,.int .i64 r.n,.int .u64 r.d,.int .u64 r.v,.int .u64 r.c]:=fun j=>zab (zaO rfl) (zab (zac d0) (zab (zac d1) (zab (zac d2) (zab (zac d3) RL.nil))))
  have hrgv: ∀j,Dw.R ρ j rg r.val:=fun j=>zlu (hrow j)
  have k1:=hsw.srv.ltS
  have k2:=hsw.srv.ltM
  have k3:=hsw.mem.bl
  have hj1:jOf [(X11,0)] 1=some ⟨X11,0,0,none⟩:=rfl
  have hlts:S<w.heap.size∧M<w.heap.size∧B<w.heap.size:=⟨k1,k2,k3⟩
  have hKs:(S=S∨S=M∨S=B)∧(M=S∨M=M∨M=B)∧(B=S∨B=M∨B=B):=⟨.inl rfl,.inr (.inl rfl),.inr (.inr rfl)⟩
  have hwu:IntKind.wrap .i64 (used+1)=used+1:=zdt (by omega) (by omega)
  refine wp_mono (zax (ρ:=ρ) (K:=fun b=>b=S∨b=M∨b=B) (g:=lwG (srvX A S P L Bs B M) w.heap.size S P L Bs B M 20000 r w.heap.size (fun m=>match m with|0=>s|1=>(retS s h 0).2|_=>s') (fun m=>match m with|0=>g|1=>g|_=>g') (fun _=> [])) (bl:= [(X11,0)]) mixed zJQ zLf (fun b hb=>by rcases hb with rfl|rfl|rfl<;>assumption)
    ⟨zjB row (by simp) (hrow _) (by rintro (e|e|e);exact hX.2.1 e;exact hX.2.2.1 e;exact hX.2.2.2 e),trivial⟩ ⟨fun hh=>(by cases hh),trivial⟩ (zpp hsw hA rfl rfl rfl (fun x hx=>by simp only [List.mem_singleton] at hx;subst hx;exact hX))
    ⟨zwQ v2 d27 p1 rfl rfl (fun e he=>(hok e he).2) (Nat.le_refl _) hlts hKs (fun e he=>he),
     zvR v2 p2 (Nat.le_refl _) hlts hKs (fun e he=>he),
     zwQ v2 d27 p3 p4.symm rfl (fun e he=>(hok' e he).2) (Nat.le_refl _) hlts hKs (fun e he=>he),
     zas (Dw.enters_of (by kernel_rfl)) (by decide) [r.val,.int .i64 8,.int .i64 (used%r.n)] (.tuple #[.int .u64 (r.c+4+8*(used%r.n)),.int .i64 8,.int .i64 0]) (fun j=>zab (hrgv j) (zab (zac rfl) (zab (zac (by rw [ztN,d25,d0,hrem])) RL.nil))) (fun j=>zcz (zab (zac d50) (zab (zac rfl) (zab (zac rfl) RL.nil)))) (fun w' F q hf=>zDY r hrg (used%r.n) ⟨hm0,hm1⟩ w'),
     zas (Dw.enters_of (by kernel_rfl)) (by decide) [r.val,.int .i64 7,.int .i64 0] (.tuple #[.int .u64 (r.c+2),.int .i64 2,.int .i64 0]) (fun j=>zab (hrgv j) (zab (zac rfl) (zab (zac rfl) RL.nil))) (fun j=>zcz (zab (zac d51) (zab (zac rfl) (zab (zac rfl) RL.nil)))) (fun w' F q hf=>zD1 r hrg w'),
     zas (Dw.enters_of (by kernel_rfl)) (by decide) [.pointer (some ⟨P,0,none⟩),.int .u64 (r.c+4+8*(used%r.n)),.int .i64 8] (.tuple #[.int .u64 h,.int .i64 0]) (fun j=>zab (za5 v0 rfl) (zab (zac d50) (zab (zac rfl) RL.nil))) (fun j=>zcz (zab (zac d27) (zab (zac rfl) RL.nil))) (fun w' F q hf=>by
       obtain ⟨_,F0,_,hl,_⟩:=hf
       have:=ztm (k:=8) hl.mem (by decide) (.inr (.inr (.inr rfl))) (a:=r.c+4+8*(used%r.n)) (by omega) (by omega)
       have e9:zai g' (r.c+4+8*(used%r.n)).toNat 8=h:=p6
       have this:Calls _ _ _ _ fun e w''=>e= .returned (.tuple #[.int .u64 (zai g' (r.c+4+8*(used%r.n)).toNat 8),.int .i64 0])∧Below w'.heap.size w' w'':=this
       rw [e9] at this
       exact this),
     zas (Dw.enters_of (by kernel_rfl)) (by decide) [.pointer (some ⟨P,0,none⟩),.int .u64 (r.c+2),.int .i64 2] (.tuple #[.int .u64 (used+1),.int .i64 0]) (fun j=>zab (za5 v0 rfl) (zab (zac d51) (zab (zac rfl) RL.nil))) (fun j=>zcz (zab (zac d52) (zab (zac rfl) RL.nil))) (fun w' F q hf=>by
       obtain ⟨_,F0,_,hl,_⟩:=hf
       have:=ztm (k:=2) hl.mem (by decide) (.inr (.inl rfl)) (a:=r.c+2) (by omega) (by omega)
       have e9:zai g' (r.c+2).toNat 2=used+1:=p7
       have this:Calls _ _ _ _ fun e w''=>e= .returned (.tuple #[.int .u64 (zai g' (r.c+2).toNat 2),.int .i64 0])∧Below w'.heap.size w' w'':=this
       rw [e9] at this
       exact this),
     zas (Dw.enters_of (by kernel_rfl)) (by decide) [.int .u64 h] (.agg #[.int .u32 h,.int .u32 0]) (fun j=>zab (zac d27) RL.nil) (fun j=>zlu (zab (zac d27) (zab (zac rfl) RL.nil))) (fun w' F q hf=>zAk ⟨hlt.1,by omega⟩),trivial⟩
    trivial trivial hsz hdf ?_ (zaa.2 ⟨by rw [zbW,d0,zaf];exact beq_eq_false_iff_ne.2 (by omega),zad.2 trivial⟩)) fun ex a2 w2 hh=> ?_
  · intro t ht
    simp only [zhg,zCR,zmJ,List.map_cons,List.map_nil,List.cons_append,List.nil_append,List.mem_cons,List.not_mem_nil,or_false] at ht
    rcases ht with rfl|rfl|rfl|rfl|rfl|rfl|rfl|rfl
    · rw [h0];exact zac d0
    · rw [h9];exact za5 v0 rfl
    · rw [h10];exact za5 v2 rfl
    · rw [h11];exact ⟨_,hj1,rfl⟩
    · rw [h25];exact zac d25
    · rw [h27];exact zac d27
    · rw [h3];exact za5 v3 o3
    · rw [h14];exact za5 v14 o14
  · obtain ⟨q,hq,hto,lf,hlf,rfl,hsz2,j2,hdf2,he⟩:=hh
    have hmv:Dw.Mv (sK S M B) w w2:=he.mv
    have lc1:=zag (he.sub _ _ hj1)
    unfold zGU at hq
    simp only [List.mem_cons,List.not_mem_nil,or_false] at hq
    rcases hq with rfl|rfl
    all_goals
      simp only [zaa,zad,zbs,den_add,zaf,d25,d52,hwu,and_true] at hto
      cases hlf
    · simp at hto
    · obtain ⟨F2,z1,z2,F0,z3,z4,_⟩:=he.gho
      have hs2:=zaE he.ret
      simp only [AV.valL,AV.val,d0,d25,v0,v2,v3,v14,den_add,zaf,hwu,lc1] at hs2
      exact ⟨rfl,hsz2,hdf2,hs2,hmv,s',g',znK hsw hmv.size z2 z3 z4,p5⟩
open Go.Deep
theorem Tryz.zKn {W0:World} {H4 X11 S P L Bs B M:Nat} {r:Rg} {av ov:Value} {ls:List (List Sg)} {s:SS} {g:Nat→Int} {hs:List Int} {bs:List (List Sg)} {next:Int} {vh:Value} {i:Nat} {a:Act} {w:World} (h:TkL W0 H4 X11 S P L Bs B M r av ov ls s g hs bs next vh i a w) (hi:i=ls.length):
  (zaI prog [0,0,1,0,1,1,1,1,1,1,1,1,3]).wp prog (fun ex a' w'=>ex= .exit 0∧a'.tmps.size=299∧a'.defers= []∧([0,3,9,10,11,14].map fun t=>a'.tmps.getD t undef)= [.int .i64 r.n,ov,.pointer (some ⟨P,0,none⟩),.pointer (some ⟨S,0,none⟩),.pointer (some ⟨X11,0,none⟩),vh]∧Below w.heap.size w w') a w:=by
 obtain ⟨sa0,c0,hav,_⟩:=h.aok.val
 have D:=h.den undef 0 (by decide) 0 false
 generalize (tkV r P S av ov vh undef 0 ls.length hs.length next i 0 false).rho=ρ at D
 have hj1:jOf [(X11,0)] 1=some ⟨X11,0,0,none⟩:=rfl
 have hsl:=h.slots D (bufs:= .sx 4 (lnv 7) 1 []) hj1 ⟨D.v4.symm,_,_,_,hav,D.d7.symm,trivial⟩
 refine wp_mono (zax (ρ:=ρ) (K:=fun _=>False) (g:=Gho.none) (bl:= [(X11,0)]) mixed zHy zKm (fun b h=>h.elim) ⟨zjB h.row (by simp) (D.rg _) (fun h=>h),trivial⟩ ⟨fun h=>(by cases h),trivial⟩ zaB trivial trivial trivial h.size h.dfr hsl (zaa.2 ⟨by rw [zaX,D.d6,D.d7];exact decide_eq_false (by show¬(i:Int)<ls.length;omega),zad.2 trivial⟩)) fun ex a2 w2 hh=> ?_
 obtain ⟨q,hq,hto,lf,hlf,rfl,hsz2,j2,hdf2,he⟩:=hh
 have hb3:=zam he (fun _ h=>h)
 have lc1:=zag (he.sub _ _ hj1)
 unfold zF3 at hq
 simp only [List.mem_cons,List.not_mem_nil,or_false] at hq
 subst hq
 cases hlf
 have hs2:=zaE he.ret
 simp only [AV.valL,AV.val,D.sz,D.v103,D.v0,D.v2,D.v5,lc1] at hs2
 exact ⟨rfl,hsz2,hdf2,hs2,hb3⟩
theorem Tryz.zuF {P0:Program} {w:World} {ops:Array Oper} {o:Oper} {a:Act} {K:Act→World→Prop} {Q:Exit→Act→World→Prop} {E:Prop} (hgd:o.guard=none) (s x:Operand) (t:TypeId)
  (ho:o.op= .call { callee:= .builtin .append,args:= #[s,x],argTypes:= #[t,t] })
  (base:Nat) (e t0:TypeId) (i:TypeInfo) (z:Value) (size bytes:Nat) (ht:P0.underlying t=some (.slice e)) (hi:P0.info? e=some i) (hz:i.zero=some z)
  (hsize:i.size=size) (hby:i.bytes=bytes) (hzs:z.cells.size=size) (hsz:0<size)
  (v:Value) (n:Nat) (xs:List Value) (hs:a.eval s=v) (hown:w.ownsRow base t0 size v n xs)
  (sa:Option Addr) (ad:Addr) (hsa:sa=some ad) (m c:Nat) (news:List Value) (hx:a.eval x= .slice sa m c) (hl:news.length=m*size) (hnews: ∀j u,news[j]? =some u→w.cell? (ad.add j)=some u) (h1: ∀u∈news,u.oneCell'=true)
  (h63:n+m≤maxLen) (hbytes:(n+m)*bytes≤140737488355328) (hbase:base≤w.heap.size)
  (h: ∀v' w' t',w'.ownsRow base t' size v' (n+m) (xs++news)→w.grownBy w' v.ownBlock→(v'.ownBlock=v.ownBlock∨v'.ownBlock=some w.heap.size)→K (a.put o.dst v') w'):
  if Region.wanted o (yielded ops a.tmps)=true then Oper.wp P0 o a w K Q else E:=by
 subst hsa
 have hw:Region.wanted o (yielded ops a.tmps)=true:=by simp [Region.wanted,hgd]
 rw [if_pos hw]
 obtain ⟨v',w',t',hr,h2,h3,h4⟩:=znz (P0:=P0) w base t o.type e t0 i z size bytes ht hi hz hsize hby hzs hsz v n xs hown ad m c news hl hnews h1 h63 hbytes hbase
 unfold Oper.wp execOp
 simp only [ho,resolve,invoke,builtin,Sem.run_bind,Sem.run_pure,Result.andThen_ok,List.map_toArray,List.map_cons,List.map_nil,hs,hx,hr]
 exact h v' w' t' h2 h3 h4
theorem Tryz.SW.below {A:Nat→Prop} {w w':World} {S P L Bs B M N:Nat} {r:Rg} {s:SS} {g:Nat→Int} (h:SW A w S P L Bs B M N r s g) (hb:Below w.heap.size w w'):SW A w' S P L Bs B M N r s g:=
 h.kept (hb.block _ h.srv.ltS) (hb.block _ h.srv.ltM) (fun k hk _=>hb.block k hk) (fun k hk=>by rcases hk with rfl|rfl|rfl|rfl;exact hb.block _ h.mem.pl;exact hb.block _ h.mem.ll;exact hb.block _ h.mem.sl;exact hb.block _ h.mem.bl) hb.size
theorem Tryz.OwnR.intV2 {t:TypeId} {w:World} {b2:Nat} {v:Value} {xs:List Int} (h:OwnR t 1 w b2 v xs.length (zat xs)):IntV w v xs:=by
 obtain ⟨sa,c,e,hr⟩:=OwnR.row h
 refine ⟨sa,c,e,?_⟩
 rcases hr with hr|⟨G,e2,_,hG⟩
 ·left
  have:=congrArg List.length hr
  simp [zat] at this
  exact List.length_eq_zero_iff.1 (by simpa using this)
 ·exact .inr ⟨G,0,e2,hG⟩
structure Tryz.BkL (W0:World) (A:Nat→Prop) (H4 X11 S P L Bs B M:Nat) (r:Rg) (order:Int) (s:SS) (g:Nat→Int) (hs:List Int) (used:Int) (vh:Value) (a:Act) (w:World):Prop where
 size:a.tmps.size=299
 dfr:a.defers= []
 t0:a.tmps.getD 0 undef= .int .i64 r.n
 t3:a.tmps.getD 3 undef= .int .i64 order
 t9:a.tmps.getD 9 undef= .pointer (some ⟨P,0,none⟩)
 t10:a.tmps.getD 10 undef= .pointer (some ⟨S,0,none⟩)
 t11:a.tmps.getD 11 undef= .pointer (some ⟨X11,0,none⟩)
 t14:a.tmps.getD 14 undef=vh
 t25:a.tmps.getD 25 undef= .int .i64 used
 row:Row w ⟨X11,0,0,none⟩ [.bool false,.int .i64 r.n,.int .u64 r.d,.int .u64 r.v,.int .u64 r.c]
 sw:SW A w S P L Bs B M 20000 r s g
 inv:BkI r s hs used
 hd: ∃t,OwnR t 1 w H4 vh hs.length (zat hs)
 old:Below W0.heap.size W0 w
 x11:A X11∧X11≠S∧X11≠M∧X11≠B
 aN: ¬A P∧ ¬A L∧ ¬A Bs
 lo:W0.heap.size≤S∧W0.heap.size≤M∧W0.heap.size≤B
 hi:X11<H4∧S<H4∧M<H4∧B<H4
 h4:H4≤w.heap.size
 n16:hs.length≤16
theorem Tryz.OwnR.cap {t:TypeId} {sz n:Nat} {w:World} {b2:Nat} {sa:Option Addr} {c:Nat} {cs:List Value} (h:OwnR t sz w b2 (.slice sa n c) n cs) (hn:0<n):n≤c:=by
 obtain ⟨h1,h2⟩:=h
 rcases h2 with ⟨h2,h3⟩|⟨G,cap,cur,e,h3,h4,h5,_⟩
 ·omega
 ·cases e;exact h5
theorem Tryz.zjX {w w':World} {G o:Nat} {cs:List Value} {row:Option Nat} (h:w.rangeAt G o cs) (hg:w.grownBy w' row) (hl:G<w.heap.size) (hn:some G≠row):w'.rangeAt G o cs:=zaJ h (hg.block G hl hn)
theorem Tryz.zyk {w:World} {G:Nat} {cs:List Value} (h:w.rangeAt G 0 cs) (k:Nat): ∀j u,(cs.take k)[j]? =some u→w.cell? ((⟨G,0,none⟩:Addr).add j)=some u:=fun j u hu=>by
 rw [Dw.addr_add]
 rw [List.getElem?_take] at hu
 split at hu
 ·have:=h j u hu
  rwa [Nat.zero_add] at this ⊢
 ·cases hu
theorem Tryz.zyl {w:World} {G:Nat} {cs:List Value} (h:w.rangeAt G 0 cs) (k:Nat): ∀j u,(cs.drop k)[j]? =some u→w.cell? ((⟨G,k,none⟩:Addr).add j)=some u:=fun j u hu=>by
 rw [Dw.addr_add]
 rw [List.getElem?_drop] at hu
 have:=h (k+j) u hu
 rwa [Nat.zero_add] at this
theorem Tryz.ztQ {w:World} {G:Nat} {cs:List Value} (h:w.rangeAt G 0 cs) {k c:Nat} (hc:cs.length≤c): ∀j u,(cs.drop k)[j]? =some u→w.cell? ((if c=k then (⟨G,0,none⟩:Addr) else ⟨G,k,none⟩).add j)=some u:=fun j u hu=>by
 by_cases hk:c=k
 ·subst hk
  rw [List.drop_eq_nil_of_le hc] at hu
  cases hu
 ·rw [if_neg hk]
  exact zyl h k j u hu
theorem Tryz.zAO (w:World) (t:TypeId):((w.alloc (Obj.cells #[] t)).drew).ownsRow w.heap.size t 1 (.slice (some ⟨w.heap.size,0,none⟩) 0 0) 0 []:=
 ⟨rfl,.inr ⟨_,0,_,rfl,Nat.le_refl _,heap_alloc_new w _,Nat.le_refl _,Nat.zero_le _,rfl,rfl⟩⟩
theorem Tryz.OwnR.mv {t:TypeId} {sz n:Nat} {w w':World} {S M B:Nat} {b2:Nat} {v:Value} {cs:List Value} (h:OwnR t sz w b2 v n cs) (hm:Dw.Mv (sK S M B) w w') (hl:S<b2∧M<b2∧B<b2):OwnR t sz w' b2 v n cs:=
 h.kept fun b e=>hm.block b (h.lt b e).2 fun hh=>by have:=(h.lt b e).1;rcases hh with rfl|rfl|rfl<;>omega
end Go.Proofs
namespace Go.Proofs
theorem Tryz.zB9 {n:Nat} (l:List Value) (h:l.length=n):(⟨l⟩:Array Value)=((List.range n).map fun i=>(⟨l⟩:Array Value).getD i undef).toArray:=by
 refine Array.ext' ?_
 refine List.ext_getElem? fun i=> ?_
 simp only [List.getElem?_map]
 by_cases hi:i<n
 ·rw [List.getElem?_eq_getElem (by omega:i<l.length),List.getElem?_range hi]
  simp [Array.getD_eq_getD_getElem?,h,hi]
 ·rw [List.getElem?_eq_none (by omega),List.getElem?_eq_none (by simp;omega)]
  rfl
set_option maxRecDepth 100000 in
theorem Tryz.zCa {t:Array Value} (h:t.size=299) {v0 v3 v9 v10 v11 v14 v25:Value} (h0:t.getD 0 undef=v0) (h3:t.getD 3 undef=v3) (h9:t.getD 9 undef=v9) (h10:t.getD 10 undef=v10) (h11:t.getD 11 undef=v11) (h14:t.getD 14 undef=v14) (h25:t.getD 25 undef=v25):
  ∃ j:Nat→Value,t= #[v0,j 1,j 2,v3,j 4,j 5,j 6,j 7,j 8,v9,v10,v11,j 12,j 13,v14,j 15,j 16,j 17,j 18,j 19,j 20,j 21,j 22,j 23,j 24,v25,j 26,j 27,j 28,j 29,j 30,j 31,j 32,j 33,j 34,j 35,j 36,j 37,j 38,j 39,j 40,j 41,j 42,j 43,j 44,j 45,j 46,j 47,j 48,j 49,j 50,j 51,j 52,j 53,j 54,j 55,j 56,j 57,j 58,j 59,j 60,j 61,j 62,j 63,j 64,j 65,j 66,j 67,j 68,j 69,j 70,j 71,j 72,j 73,j 74,j 75,j 76,j 77,j 78,j 79,j 80,j 81,j 82,j 83,j 84,j 85,j 86,j 87,j 88,j 89,j 90,j 91,j 92,j 93,j 94,j 95,j 96,j 97,j 98,j 99,j 100,j 101,j 102,j 103,j 104,j 105,j 106,j 107,j 108,j 109,j 110,j 111,j 112,j 113,j 114,j 115,j 116,j 117,j 118,j 119,j 120,j 121,j 122,j 123,j 124,j 125,j 126,j 127,j 128,j 129,j 130,j 131,j 132,j 133,j 134,j 135,j 136,j 137,j 138,j 139,j 140,j 141,j 142,j 143,j 144,j 145,j 146,j 147,j 148,j 149,j 150,j 151,j 152,j 153,j 154,j 155,j 156,j 157,j 158,j 159,j 160,j 161,j 162,j 163,j 164,j 165,j 166,j 167,j 168,j 169,j 170,j 171,j 172,j 173,j 174,j 175,j 176,j 177,j 178,j 179,j 180,j 181,j 182,j 183,j 184,j 185,j 186,j 187,j 188,j 189,j 190,j 191,j 192,j 193,j 194,j 195,j 196,j 197,j 198,j 199,j 200,j 201,j 202,j 203,j 204,j 205,j 206,j 207,j 208,j 209,j 210,j 211,j 212,j 213,j 214,j 215,j 216,j 217,j 218,j 219,j 220,j 221,j 222,j 223,j 224,j 225,j 226,j 227,j 228,j 229,j 230,j 231,j 232,j 233,j 234,j 235,j 236,j 237,j 238,j 239,j 240,j 241,j 242,j 243,j 244,j 245,j 246,j 247,j 248,j 249,j 250,j 251,j 252,j 253,j 254,j 255,j 256,j 257,j 258,j 259,j 260,j 261,j 262,j 263,j 264,j 265,j 266,j 267,j 268,j 269,j 270,j 271,j 272,j 273,j 274,j 275,j 276,j 277,j 278,j 279,j 280,j 281,j 282,j 283,j 284,j 285,j 286,j 287,j 288,j 289,j 290,j 291,j 292,j 293,j 294,j 295,j 296,j 297,j 298]:=by
 subst h0 h3 h9 h10 h11 h14 h25
 obtain ⟨l⟩:=t
 exact ⟨fun i=>(⟨l⟩:Array Value).getD i undef,zB9 l h⟩
open Go.Dw Go.RowKit Go.Maps Go.Sort Go.Deep
set_option maxRecDepth 100000 in
theorem Tryz.takes_walk (hlives: ∀w,Calls prog 6 #[] w fun e w'=>e= .returned (.bool true)∧Below w.heap.size w w') {w:World} {av:Value} {ls:List (List Sg)} (hA:BufV w av ls) (size order:Int) (ev tb pk:Bool):
    Calls prog 3 #[.int .i64 size,.agg #[.bool ev,.bool tb,.bool pk],av,.int .i64 order] w fun e w'=>e= .returned (.bool true)∧Below w.heap.size w w':=by
  obtain ⟨n,hn,hsh⟩: ∃n:Nat,(n=1∨n=2∨n=4∨n=8∨n=16)∧ ∃k:Nat,size%5=k∧k<5∧n=1<<<k:=by
    have h0:0≤size%5:=Int.emod_nonneg _ (by decide)
    have h1:size%5<5:=Int.emod_lt_of_pos _ (by decide)
    have h2:size%5=0∨size%5=1∨size%5=2∨size%5=3∨size%5=4:=by omega
    rcases h2 with h|h|h|h|h
    · exact ⟨1,by decide,0,h,by decide,rfl⟩
    · exact ⟨2,by decide,1,h,by decide,rfl⟩
    · exact ⟨4,by decide,2,h,by decide,rfl⟩
    · exact ⟨8,by decide,3,h,by decide,rfl⟩
    · exact ⟨16,by decide,4,h,by decide,rfl⟩
  obtain ⟨k,hk1,hk2,hk3⟩:=hsh
  have hA0:=hA
  obtain ⟨sa0,c0,rfl,_⟩:=hA0.val
  clear hA0
  obtain ⟨bl,hbl⟩: ∃bl:Nat,bl=ls.length:=⟨_,rfl⟩
  have Hbl:(fun _:Unit=>bl)=fun _=>ls.length:=by rw [hbl]
  rw [←hbl]
  clear hbl
  go_enter func3,ntmps3
  have hwk:IntKind.wrap .u64 (k:Int)=k:=zaL (by omega) (by omega)
  have hsh:wrap64 (2^k)=(n:Int):=by
    have:k=0∨k=1∨k=2∨k=3∨k=4:=by omega
    rcases this with rfl|rfl|rfl|rfl|rfl<;>(subst hk3;first|decide|decide+kernel|simp [wrap64])
  clear hk3
  go_wp2_with (first
    | (go_at_call 6;refine (hlives _).mono ?_;rintro e w1 ⟨rfl,hb1⟩
       have ka:=(Cl.new w _ _).below hb1 (by simp)
       have x0:=ka.cell 0 _ rfl;have x1:=ka.cell 1 _ rfl;have x2:=ka.cell 2 _ rfl)
    | (go_at_call 7;refine (ziE size 5 (by decide) _).mono ?_;rintro e w3 ⟨rfl,rfl⟩
       rw [hk1]
       have f0:=ka.free 0;have f1:=ka.free 1;have f2:=ka.free 2)
    | (go_at_call 8;rw [hsh];refine (zsC hn ev tb _).mono ?_;rintro e w4 ⟨S,P,L,Bs,B,M,rfl,hsw,hb4,hS,hM,hB,hP,hL,hBs⟩
       unfold rings
       have kb:=Cl.new w4 #[.bool false,.int .i64 0,.int .u64 0,.int .u64 0,.int .u64 0] 32
       have y0:=kb.cell 0 _ rfl;have y1:=kb.cell 1 _ rfl;have y2:=kb.cell 2 _ rfl;have y3:=kb.cell 3 _ rfl;have y4:=kb.cell 4 _ rfl
       have g0:=kb.free 0;have g1:=kb.free 1;have g2:=kb.free 2;have g3:=kb.free 3;have g4:=kb.free 4)
    | go_in)
  · have hbl:=(Below.alloc (Below.refl w.heap.size w) (Nat.le_refl _) (Obj.cells #[Value.bool ev,Value.bool tb,Value.bool pk] 23)).trans (hb1.mono (by simp))
    exact zcu (fn:=f3) (Post:=fun e w'=>e= .returned (.bool true)∧RowKit.Below w.heap.size w w') rfl rfl rfl ⟨rfl,hbl⟩
  · rename_i h16 K hK
    have hbe:bl=ls.length:=congrFun Hbl ()
    have hbl3:Below w.heap.size w w3:=(Below.alloc (Below.refl w.heap.size w) (Nat.le_refl _) (Obj.cells #[Value.bool ev,Value.bool tb,Value.bool pk] 23)).trans (hb1.mono (by simp))
    have hmv:=(Mv.refl (· =w.heap.size) w3).setCell w.heap.size 2 (.bool false) (.inl rfl)
    have hbl4:=hbl3.trans (hmv.below (base:=w.heap.size) (fun k hk=>by omega) hbl3.size)
    clear x0 x1 x2 f0 f1 f2 ka
    generalize w3.setCell ⟨w.heap.size,2,none⟩ (.bool false)=w3' at hbl4 hmv hb4 hS hM hB hP hL hBs
    have hs3:=hbl4.size
    have hs4:=hb4.size
    have hbl5:=hbl4.trans (hb4.mono hs3)
    have hrow:Row (w4.alloc (Obj.cells #[Value.bool false,Value.int IntKind.i64 n,Value.int IntKind.u64 4096,Value.int IntKind.u64 (drv n),Value.int IntKind.u64 (dvc n)] 32)) ⟨w4.heap.size,0,0,none⟩ [.bool false,.int .i64 (zb0 n).n,.int .u64 (zb0 n).d,.int .u64 (zb0 n).v,.int .u64 (zb0 n).c]:=by
      refine ⟨_,_,_,heap_alloc_last w4 _,fun i y hy=> ?_⟩
      rw [Nat.zero_add]
      have hy: [Value.bool false,Value.int IntKind.i64 n,Value.int IntKind.u64 4096,Value.int IntKind.u64 (drv n),Value.int IntKind.u64 (dvc n)][i]? =some y:=hy
      simpa using hy
    clear y0 y1 y2 y3 y4 g0 g1 g2 g3 g4 kb
    have hbl6:Below w4.heap.size w4 (w4.alloc (Obj.cells #[Value.bool false,Value.int IntKind.i64 n,Value.int IntKind.u64 4096,Value.int IntKind.u64 (drv n),Value.int IntKind.u64 (dvc n)] 32)):=Below.alloc (Below.refl _ w4) (Nat.le_refl _) _
    have e6:(w4.alloc (Obj.cells #[Value.bool false,Value.int IntKind.i64 n,Value.int IntKind.u64 4096,Value.int IntKind.u64 (drv n),Value.int IntKind.u64 (dvc n)] 32)).heap.size=w4.heap.size+1:=by simp
    generalize (w4.alloc (Obj.cells #[Value.bool false,Value.int IntKind.i64 n,Value.int IntKind.u64 4096,Value.int IntKind.u64 (drv n),Value.int IntKind.u64 (dvc n)] 32))=w6 at hrow hbl6 e6 ⊢
    have hbl:=hbl5.trans (hbl6.mono (by omega))
    have hs6:=hbl6.size
    have k1:=hsw.srv.ltS
    have k2:=hsw.srv.ltM
    have k3:=hsw.mem.bl
    have k4:=hsw.mem.pl
    have k5:=hsw.mem.ll
    have k6:=hsw.mem.sl
    have hk: ∀b,b<w4.heap.size→w6.heap[b]? =w4.heap[b]? :=fun b hb=>hbl6.block b hb
    have hsv:=(hsw.srv.kept (hk S k1) (hk M k2) (fun b hb _=>hk b hb)).fresh (A':=tkA w w4.heap.size S M B (.slice none 0 0) w6) ⟨by omega,.inr (.inr (.inr (.inl rfl)))⟩ ⟨by omega,.inr (.inr (.inr (.inr (.inl rfl))))⟩
    have hrn:(zb0 n).n=n:=rfl
    have hI: ∀tmps:Array Value,tmps.size=299→(∀p∈ [(0,Value.int .i64 (zb0 n).n),(2,.slice sa0 ls.length c0),(3,.int .i64 order),(9,.pointer (some ⟨P,0,none⟩)),(10,.pointer (some ⟨S,0,none⟩)),(11,.pointer (some ⟨w4.heap.size,0,none⟩)),(13,.int .i64 0),(14,.slice none 0 0),(15,.int .i64 (0:Nat))],tmps.getD p.1 undef=p.2)→
        TkL w w6.heap.size w4.heap.size S P L Bs B M (zb0 n) (.slice sa0 ls.length c0) (.int .i64 order) ls (SS.fresh ev tb) (fun _=>0) [] [] 0 (.slice none 0 0) 0 ⟨tmps,[]⟩ w6:=fun tmps hz ht=>
      ⟨hz,rfl,ht (0,_) (by simp),ht (2,_) (by simp),ht (3,_) (by simp),ht (9,_) (by simp),ht (10,_) (by simp),ht (11,_) (by simp),ht (13,_) (by simp),ht (14,_) (by simp),ht (15,_) (by simp),hrow,
        ⟨hsv,hsw.mem.below hbl6,hsw.hN,hsw.sd,hsw.md,⟨by omega,.inr (.inr (.inr (.inr (.inr rfl))))⟩,fun b hb=>hb.1,hsw.fit⟩,
        ⟨rfl,rfl,rfl,rfl,rfl,rfl,List.Pairwise.nil,fun h hh=>(by cases hh),⟨Int.le_refl 0,by rw [hrn];omega⟩,Int.le_refl 0,rfl,fun b hb=>(by cases hb)⟩,⟨3,OwnR.nil 3 1 w6 w6.heap.size⟩,hA,hbl,⟨by omega,by omega,by omega,by omega,by omega,by omega,by omega⟩,⟨by omega,by omega,by omega,by omega,by omega,by omega,by omega⟩,⟨by omega,by omega,by omega,by omega,by omega,by omega⟩,Nat.le_refl _,⟨by omega,Nat.zero_le _,Nat.zero_le _⟩,rfl⟩
    refine zbH (c':= .loop (zaI prog [0,0,1,0,1,1,1,1,1,1,1,1,3])) (by kernel_rfl) ?_
    refine zbl (fun (i:Nat) a' w'=>i≤ls.length∧ ∃s g hs bs next vh,TkL w w6.heap.size w4.heap.size S P L Bs B M (zb0 n) (.slice sa0 ls.length c0) (.int .i64 order) ls s g hs bs next vh i a' w') (fun i=>ls.length-i) (fun i a1 w1 hI=> ?_) 0 _ _ ⟨Nat.zero_le _,_,_,_,_,_,_,hI _ rfl ?_⟩
    · obtain ⟨hi,s,g,hs,bs,next,vh,hL1⟩:=hI
      by_cases hlt2:i<ls.length
      · refine wp_mono (zDk hL1 hlt2) fun ex a2 w2 hh=> ?_
        obtain ⟨rfl,s',g',hs',bs',next',vh',h2⟩:=hh
        exact ⟨i+1,by omega,by omega,s',g',hs',bs',next',vh',h2⟩
      · refine wp_mono (zKn hL1 (by omega)) fun ex a2 w2 hh=> ?_
        obtain ⟨rfl,z1,z2,z3,z4⟩:=hh
        show K a2 w2
        refine hK _ _ ?_
        clear hK
        simp only [List.map_cons,List.map_nil,List.cons.injEq,and_true] at z3
        obtain ⟨tmps,dfr⟩:=a2
        have z2:dfr= []:=z2
        have z1:tmps.size=299:=z1
        subst z2
        obtain ⟨z30,z33,z39,z310,z311,z314⟩:=z3
        have z30:tmps.getD 0 undef= .int .i64 (zb0 n).n:=z30
        have z33:tmps.getD 3 undef= .int .i64 order:=z33
        have z39:tmps.getD 9 undef= .pointer (some ⟨P,0,none⟩):=z39
        have z310:tmps.getD 10 undef= .pointer (some ⟨S,0,none⟩):=z310
        have z311:tmps.getD 11 undef= .pointer (some ⟨w4.heap.size,0,none⟩):=z311
        have hsw2:=hL1.sw.below z4
        obtain ⟨th,hrw⟩:=hL1.hd
        obtain ⟨hsa,hca,hve,_⟩:=OwnR.row hrw
        subst hve
        have z314:tmps.getD 14 undef= .slice hsa hs.length hca:=z314
        obtain ⟨jf,hjf⟩:=zCa (t:=tmps) z1 z30 z33 z39 z310 z311 z314 rfl
        rw [hjf]
        clear hjf
        clear z30 z33 z39 z310 z311 z314
        have hinv:=hL1.inv
        have hnb:=hL1.n16
        have hkeys:=hinv.keys
        have hheads:zya s=hs:=(zBS (by rw [hkeys];exact hinv.inc)).trans hkeys
        have hrw2:=OwnR.kept hrw fun b e=>z4.block b (OwnR.lt hrw b e).2
        have htk:s.tk.length≤1000000:=by have:=congrArg List.length hkeys;simp at this;omega
        obtain ⟨p1,nn,g9,p3,p2,p4⟩:=zAJ (N:=20000) (r:=zb0 n) (s:=s) (g:=g) hL1.sw.srv.rg hinv.ph hinv.br (by rw [hinv.idx,hinv.nx])
        have hAN: ¬tkA w w4.heap.size S M B (.slice hsa hs.length hca) w1 P∧ ¬tkA w w4.heap.size S M B (.slice hsa hs.length hca) w1 L∧ ¬tkA w w4.heap.size S M B (.slice hsa hs.length hca) w1 Bs:=by
          have q1:=hL1.x11
          have q2:=hL1.lo
          have q3:=hL1.hi
          have q4:=OwnR.lt hrw
          have q5:=hL1.sw.sd
          have q6:=hL1.sw.md
          refine ⟨?_,?_,?_⟩
          · rintro ⟨_,h|h|h|h|h|h⟩
            · omega
            · omega
            · have:=(q4 _ h).1;omega
            · exact q5.1 h.symm
            · exact q6.1 h.symm
            · exact hL1.sw.mem.pb h
          · rintro ⟨_,h|h|h|h|h|h⟩
            · omega
            · omega
            · have:=(q4 _ h).1;omega
            · exact q5.2.1 h.symm
            · exact q6.2.1 h.symm
            · exact hL1.sw.mem.lb h
          · rintro ⟨_,h|h|h|h|h|h⟩
            · omega
            · omega
            · have:=(q4 _ h).1;omega
            · exact q5.2.2.1 h.symm
            · exact q6.2.2.1 h.symm
            · exact hL1.sw.mem.sb h
        have hAlen:hs.length<4000000:=by omega
        obtain ⟨s9,h9⟩: ∃s9:SS,s9= { s with op:=3,nn:=true,hd:=0,sg:= [],wr:=0,it:=false,ph:=0,dn:=true,br:=false }:=⟨_,rfl⟩
        rw [←h9] at p2
        have i1:s9.op=3:=by rw [h9]
        have i2:s9.nn=true:=by rw [h9]
        have i3:s9.ph=0:=by rw [h9]
        have i4:s9.br=false:=by rw [h9]
        have i5:s9.dn=true:=by rw [h9]
        have i6:s9.sg= []:=by rw [h9]
        have i7:s9.us=s.us:=by rw [h9]
        have i8:s9.tk=s.tk:=by rw [h9]
        clear h9
        have hpoll: ∀w5,SW (tkA w w4.heap.size S M B (.slice hsa hs.length hca) w1) w5 S P L Bs B M 20000 (zb0 n) s g→Calls prog 13 #[.pointer (some ⟨S,0,none⟩)] w5 fun e w'=>e= .returned (.int .i64 0)∧SW (tkA w w4.heap.size S M B (.slice hsa hs.length hca) w1) w' S P L Bs B M 20000 (zb0 n) (zda s).2 g∧Dw.Mv (sK S M B) w5 w':=fun w5 h=>by
          have:=zvz h
          rw [p1] at this
          exact this
        have hfin: ∀w5,SW (tkA w w4.heap.size S M B (.slice hsa hs.length hca) w1) w5 S P L Bs B M 20000 (zb0 n) (zda s).2 g→Calls prog 14 #[.pointer (some ⟨S,0,none⟩)] w5 fun e w'=>e= .returned (.int .i64 nn)∧SW (tkA w w4.heap.size S M B (.slice hsa hs.length hca) w1) w' S P L Bs B M 20000 (zb0 n) s9 g9∧Dw.Mv (sK S M B) w5 w':=fun w5 h=>by
          have:=zCh h hAN
          rw [p2] at this
          exact this
        generalize zda s=ps at hpoll hfin
        have hints: ∀w5 v5,IntV w5 v5 hs→IntV w5 (.slice hsa hs.length hca) hs→Calls prog 17 #[v5,.slice hsa hs.length hca] w5 fun e w'=>e= .returned (.bool true)∧Below w5.heap.size w5 w':=fun w5 v5 h1 h2=>by
          have:=zzY h1 h2 hAlen hAlen
          rw [show decide (hs=hs)=true from decide_eq_true rfl] at this
          exact this
        have n1: ¬nn<1:=by rcases p3 with rfl|rfl<;>decide
        have htl:s.tk.length=hs.length:=by rw [←hkeys,List.length_map]
        go_wp2_with (first
          | (go_at_call 18;refine (zrv hsw2.srv htk).mono ?_;rintro e w5 ⟨v5,t5,rfl,hr5,hb5⟩
             rw [hheads,htl] at hr5
             have hsw5:=hsw2.below hb5)
          | (go_at_call 17;refine (hints _ _ (OwnR.intV2 hr5) (OwnR.intV2 (OwnR.kept hrw2 fun b e=>hb5.block b (OwnR.lt hrw2 b e).2))).mono ?_;rintro e w6 ⟨rfl,hb6⟩
             have hsw6:=hsw5.below hb6)
          | (go_at_call 13;refine (hpoll _ hsw6).mono ?_;rintro e w7 ⟨rfl,hsw7,hm7⟩)
          | (go_at_call 14;refine (hfin _ hsw7).mono ?_;rintro e w8 ⟨rfl,hsw8,hm8⟩)
          | (go_at_call 15;refine (zwx hsw8.srv i3 i4 i5 (by rw [i6];exact Nat.zero_le _)).mono ?_;rintro e w9 ⟨u,rfl,hou,hb9⟩
             rw [i1,i2]
             rw [i6] at hou
             obtain ⟨ua,uc,hue,_⟩:=hou.segV (fun x hx=>(by cases hx)) (A:=fun _=>False) fun _ _ h=>h
             subst hue)
          | go_in)
        rename_i K2 hK2
        have hbm: ∀ {a b:World},Below a.heap.size a b→Dw.Mv (sK S M B) a b:=fun h=>⟨h.os,h.tape,h.output,h.size,fun b hb _=>h.block b hb⟩
        have hsw9:=hsw8.below hb9
        have hm9:Dw.Mv (sK S M B) w2 w9:=(((((hbm hb5).trans (hbm hb6)).trans hm7).trans hm8).trans (hbm hb9))
        have hbl9:Below w.heap.size w w9:=by
          have q2:=hL1.lo
          have:=(hL1.old.trans (z4.mono hL1.old.size))
          exact ⟨hm9.os.trans this.os,hm9.tape.trans this.tape,hm9.output.trans this.output,Nat.le_trans this.size hm9.size,fun b hb=>(hm9.block b (Nat.lt_of_lt_of_le hb this.size) fun hh=>by rcases hh with h|h|h<;>omega).trans (this.block b hb)⟩
        have hb10:=Below.alloc (Below.refl w9.heap.size w9) (Nat.le_refl _) (Obj.cells #[Value.int IntKind.i64 3,Value.bool true,Value.int IntKind.i64 s9.hd,Value.slice ua 0 uc,Value.int IntKind.u32 s9.wr,Value.bool s9.it] 53)
        have hsw10:=hsw9.below hb10
        have hbl10:=hbl9.trans (hb10.mono hbl9.size)
        have hx11:=hL1.x11
        have hm10:=hm9.trans (hbm hb10)
        have hX1:=zfQ hL1.row
        have hrow10:=(hL1.row.kept (z4.block _ hX1)).kept (hm10.block _ (Nat.lt_of_lt_of_le hX1 z4.size) fun hh=>by
          rcases hh with h|h|h
          · exact hx11.1 h
          · exact hx11.2.1 h
          · exact hx11.2.2.1 h)
        have hhi:=hL1.hi
        have hh4:=hL1.h4
        have hlo:=hL1.lo
        have hrw10:=hrw2.mv hm10 ⟨hhi.2.1,hhi.2.2.1,hhi.2.2.2.1⟩
        generalize w9.alloc (Obj.cells #[Value.int IntKind.i64 3,Value.bool true,Value.int IntKind.i64 s9.hd,Value.slice ua 0 uc,Value.int IntKind.u32 s9.wr,Value.bool s9.it] 53)=w10 at hb10 hsw10 hbl10 hm10 hrow10 hrw10 ⊢
        have hbk:=hinv.back hL1.sw.srv.rg i3 i4 i7 i8
        have hAX:tkA w w4.heap.size S M B (.slice hsa hs.length hca) w1 w4.heap.size:=⟨hX1,.inr (.inl rfl)⟩
        generalize tkA w w4.heap.size S M B (.slice hsa hs.length hca) w1=A0 at hsw10 hAN hAX
        have hI3: ∀tm:Array Value,tm.size=299→(∀p∈ [(0,Value.int .i64 (zb0 n).n),(3,.int .i64 order),(9,.pointer (some ⟨P,0,none⟩)),(10,.pointer (some ⟨S,0,none⟩)),(11,.pointer (some ⟨w4.heap.size,0,none⟩)),(14,.slice hsa hs.length hca),(25,.int .i64 0)],tm.getD p.1 undef=p.2)→
            BkL w A0 (w4.heap.size+1) w4.heap.size S P L Bs B M (zb0 n) order s9 g9 hs 0 (.slice hsa hs.length hca) ⟨tm,[]⟩ w10:=fun tm hz ht=>
          ⟨hz,rfl,ht (0,_) (by simp),ht (3,_) (by simp),ht (9,_) (by simp),ht (10,_) (by simp),ht (11,_) (by simp),ht (14,_) (by simp),ht (25,_) (by simp),hrow10,hsw10,hbk,⟨_,e6▸hrw10⟩,hbl10,
            ⟨hAX,hx11.1,hx11.2.1,hx11.2.2.1⟩,hAN,⟨hlo.2.1,hlo.2.2.1,hlo.2.2.2.1⟩,⟨by omega,by omega,by omega,by omega⟩,by have:=hm10.size;have:=z4.size;omega,by omega⟩
        clear hinv hnb hkeys hheads hrw2 htk p1 p2 p3 p4 hpoll hfin hints
        refine zbl (fun (hs:List Int) a' w'=> ∃s g used vh,BkL w A0 (w4.heap.size+1) w4.heap.size S P L Bs B M (zb0 n) order s g hs used vh a' w') (fun hs=>hs.length) (fun hs a1 w1 hI=> ?_) hs _ _ ⟨_,_,_,_,hI3 _ rfl ?_⟩
        · obtain ⟨s2,g2,used,vh,hB⟩:=hI
          obtain ⟨tm,dfr⟩:=a1
          have hd0:dfr= []:=hB.dfr
          subst hd0
          obtain ⟨tb,hrb⟩:=hB.hd
          obtain ⟨ba,bc,hve,hbr⟩:=OwnR.row hrb
          subst hve
          obtain ⟨jf,hjf⟩:=zCa (t:=tm) hB.size hB.t0 hB.t3 hB.t9 hB.t10 hB.t11 hB.t14 hB.t25
          rw [hjf]
          clear hjf
          by_cases h0:hs.length=0
          · have htk2:s2.tk= []:=by
              have e1:=congrArg List.length hB.inv.tk
              rw [List.length_map,h0] at e1
              exact List.length_eq_zero_iff.1 e1
            have hho:zya s2= []:=by
              unfold zya
              rw [htk2]
              simp
            have hle:s2.tk.length≤1000000:=by rw [htk2];exact Nat.zero_le _
            have hhz:(hs.length:Int)=0:=by omega
            go_wp2_with (first
              | (go_at_call 18;refine (zrv hB.sw.srv hle).mono ?_;rintro e w3 ⟨v3,t3,rfl,hr3,hb3⟩
                 rw [htk2] at hr3
                 obtain ⟨sa3,c3,hv3,_⟩:=OwnR.row hr3
                 subst hv3)
              | go_in)
            refine zcu (fn:=f3) (Post:=fun e w'=>e= .returned (.bool true)∧RowKit.Below w.heap.size w w') rfl rfl rfl ⟨rfl,hB.old.trans (hb3.mono hB.old.size)⟩
          · have hpos:(0:Int)<(hs.length:Int):=by omega
            obtain ⟨kk,hkk,hkl⟩: ∃kk:Nat,wrap64 (order+used)%(hs.length:Int)=kk∧kk<hs.length:=by
              have q0:=Int.emod_nonneg (wrap64 (order+used)) (show (hs.length:Int)≠0 by omega)
              have q1:=Int.emod_lt_of_pos (wrap64 (order+used)) (show (0:Int)<hs.length by omega)
              exact ⟨_,(Int.toNat_of_nonneg q0).symm,by omega⟩
            have hn16:=hB.n16
            have c1:hs.length≤bc:=OwnR.cap hrb (by omega)
            have c2:(0:Int)≤(kk:Int):=by omega
            have c3:(kk:Int)≤(bc:Int):=by omega
            have c4:(kk:Int)+1≤(hs.length:Int):=by omega
            have c5:(hs.length:Int)≤(bc:Int):=by omega
            have c6:(0:Int)≤(kk:Int)+1:=by omega
            have c7:=zes kk (by omega)
            obtain ⟨G,rfl,hG,hGr⟩: ∃G,ba=some ⟨G,0,none⟩∧(Value.slice ba hs.length bc).ownBlock=some G∧w1.rangeAt G 0 (zat hs):=by
              rcases hbr with h|h
              · have:=congrArg List.length h
                simp [zat] at this
                exact absurd this (by intro h;exact h0 (by rw [h];rfl))
              · exact h
            have hGx:w1.cell? ⟨G,kk,none⟩=some (.int .i64 hs[kk]):=by
              have:=hGr kk (.int .i64 hs[kk]) (by simp [zat,hkl])
              rwa [Nat.zero_add] at this
            go_wp2_with (first
              | (go_at_call 7;refine (ziE (wrap64 (order+used)) hs.length (by omega) _).mono ?_;rintro e w3 ⟨rfl,rfl⟩
                 rw [hkk]))
            rename_i K3 hK3
            have hinfo:=zJc
            obtain ⟨i0,hi0⟩: ∃i0,prog.info? 3=some i0:=by
              cases hi:prog.info? 3 with
              | none=>rw [hi] at hinfo;cases hinfo
              | some i=>exact ⟨i,rfl⟩
            rw [hi0] at hinfo
            simp only [Option.map_some,Option.some.injEq,Prod.mk.injEq] at hinfo
            obtain ⟨j1,j2,j3⟩:=hinfo
            have hU:prog.underlying 35=some (.slice 3):=by kernel_rfl
            have hGl:G<w3.heap.size:=World.block_lt_of_cell? w3 _ hGx
            have hGa:((w3.alloc (Obj.cells #[] 3)).drew).rangeAt G 0 (zat hs):=zaJ hGr (heap_alloc_old w3 _ (h:=hGl))
            have hGs:G<((w3.alloc (Obj.cells #[] 3)).drew).heap.size:=by simp;omega
            have hoe:=zAO w3 3
            have hn1:((zat hs).take kk).length=kk*1:=by simp [zat];omega
            have hn2:((zat hs).drop (kk+1)).length=(hs.length-(kk+1))*1:=by simp [zat]
            have hone: ∀u∈zat hs,u.oneCell'=true:=fun u hu=>by
              obtain ⟨x,_,rfl⟩:=List.mem_map.1 hu
              rfl
            go_region_held3 (fun w'=>w'.rangeAt G 0 (zat hs)) (first|go_keep|exact hGa|exact hGb|exact hGc)
              ((first
                | (refine zuF (P0:=prog) (by rfl) _ _ _ (by rfl) w3.heap.size 3 3 i0 _ 1 8 hU hi0 j1 j2 j3 rfl (by decide) (.slice (some ⟨w3.heap.size,0,none⟩) 0 0) 0 [] (by rfl) hoe (some ⟨G,0,none⟩) ⟨G,0,none⟩ rfl kk bc ((zat hs).take kk) (by rfl) hn1
                     (zyk hGa kk) (fun u hu=>hone u (List.mem_of_mem_take hu)) (by unfold maxLen;omega) (by omega) (by simp) ?_
                   intro v1 wa t1 hown1 hgrow1 hat1
                   have hGb:=zjX hGa hgrow1 hGs (fun e=>by simp [Value.ownBlock] at e;omega))
                | (refine zuF (P0:=prog) (by rfl) _ _ _ (by rfl) w3.heap.size 3 t1 i0 _ 1 8 hU hi0 j1 j2 j3 rfl (by decide) v1 (0+kk) ([]++(zat hs).take kk) (by rfl) hown1 (if bc=kk+1 then some ⟨G,0,none⟩ else some ⟨G,kk+1,none⟩) (if bc=kk+1 then ⟨G,0,none⟩ else ⟨G,kk+1,none⟩) (by split<;>rfl) (hs.length-(kk+1)) (bc-(kk+1)) ((zat hs).drop (kk+1)) (by rfl) hn2
                     (ztQ hGb (by simp [zat];omega)) (fun u hu=>hone u (List.mem_of_mem_drop hu)) (by unfold maxLen;omega) (by omega) (by have:=hgrow1.size;simp at this;omega) ?_
                   intro v2 wb t2 hown2 hgrow2 hat2
                   have hGc:wb.rangeAt G 0 (zat hs):=zjX hGb hgrow2 (Nat.lt_of_lt_of_le hGs hgrow1.size) (fun e=>by
                     rcases hat1 with h|h
                     · rw [h] at e;simp [Value.ownBlock] at e;omega
                     · rw [h] at e;simp at e;omega))))
            show K3 _ _
            refine hK3 _ _ ?_
            clear hK3 hGb hGc
            have hvl: ∀b,v2.ownBlock=some b→w3.heap.size≤b:=OwnR.lt hown2|>fun h b e=>(h b e).1
            have hcs: []++List.take kk (zat hs)++List.drop (kk+1) (zat hs)=zat (hs.take kk++hs.drop (kk+1)):=by simp [zat]
            have hcl:0+kk+(hs.length-(kk+1))=(hs.take kk++hs.drop (kk+1)).length:=by simp;omega
            rw [hcs,hcl] at hown2
            have hb3:Below w3.heap.size w3 wb:=by
              have e1:Below w3.heap.size w3 ((w3.alloc (Obj.cells #[] 3)).drew):=⟨rfl,rfl,rfl,by simp,fun b hb=>heap_alloc_old w3 _ (h:=hb)⟩
              have e2:Below w3.heap.size ((w3.alloc (Obj.cells #[] 3)).drew) wa:=⟨hgrow1.os,hgrow1.tape,hgrow1.output,hgrow1.size,fun b hb=>hgrow1.block b (by simp;omega) (fun e=>by simp [Value.ownBlock] at e;omega)⟩
              have hs1:=hgrow1.size
              simp at hs1
              have e3:Below w3.heap.size wa wb:=⟨hgrow2.os,hgrow2.tape,hgrow2.output,hgrow2.size,fun b hb=>hgrow2.block b (by omega) (fun e=>by
                rcases hat1 with h|h
                · rw [h] at e;simp [Value.ownBlock] at e;omega
                · rw [h] at e;simp at e;omega)⟩
              exact (e1.trans e2).trans e3
            have hswb:=hB.sw.below hb3
            refine zbH (c':=zaI prog [1,1,1,0,1,0,0,0,1,1,1,1,1,1,1,1,1,1,1,1,1,1,3]) (by kernel_rfl) ?_
            have hxb:Row wb ⟨w4.heap.size,0,0,none⟩ _:=hB.row.kept (hb3.block _ (zfQ hB.row))
            refine wp_mono (zJS (k:=kk) (t3:= .int .i64 order) (t14:=v2) rfl rfl rfl rfl rfl rfl rfl hkl rfl rfl rfl rfl (OwnR.one hown2) hxb hB.x11 hB.aN hswb hB.inv) fun ex a2 w2 hh=> ?_
            obtain ⟨rfl,g1,g2,g3,hmt,s3,g3',hsw3,hb3'⟩:=hh
            simp only [List.map_cons,List.map_nil,List.cons.injEq,and_true] at g3
            obtain ⟨u0,u9,u10,u11,u25,u3,u14⟩:=g3
            have hlo:=hB.lo
            have hhi:=hB.hi
            have hh4:=hB.h4
            have hx:=hB.x11
            have holdb:=hB.old.trans (hb3.mono hB.old.size)
            refine ⟨hs.take kk++hs.drop (kk+1),by simp;omega,s3,g3',used+1,v2,g1,g2,u0,u3,u9,u10,u11,u14,u25,hxb.kept (hmt.block _ (zfQ hxb) fun hh=> ?_),hsw3,hb3',⟨t2,?_⟩,
              ⟨hmt.os.trans holdb.os,hmt.tape.trans holdb.tape,hmt.output.trans holdb.output,Nat.le_trans holdb.size hmt.size,fun b hb=>(hmt.block b (Nat.lt_of_lt_of_le hb holdb.size) fun hh=> ?_).trans (holdb.block b hb)⟩,hx,hB.aN,hlo,hhi,by have:=hmt.size;have:=hb3.size;omega,by simp;omega⟩
            · rcases hh with h|h|h
              · exact hx.2.1 h
              · exact hx.2.2.1 h
              · exact hx.2.2.2 h
            · exact OwnR.mv (OwnR.mono (b1:=w4.heap.size+1) hown2 hh4) hmt ⟨hhi.2.1,hhi.2.2.1,hhi.2.2.2⟩
            · rcases hh with h|h|h<;>omega
        · intro p hp
          simp only [List.mem_cons,List.not_mem_nil,or_false] at hp
          rcases hp with rfl|rfl|rfl|rfl|rfl|rfl|rfl<;>rfl
    · intro p hp
      simp only [List.mem_cons,List.not_mem_nil,or_false] at hp
      rcases hp with rfl|rfl|rfl|rfl|rfl|rfl|rfl|rfl|rfl<;>first|rfl|(rw [←hbe];rfl)
end Go.Proofs
namespace Go.Proofs.YtpogddachhjgaaaGreat
theorem zxY:(Dw.ev Tryz.prog (Dw.zgn 58 [87]) 100000000 (.call 6 [] Dw.heap0 Dw.isTrue)).good=true:=by kernel_rfl
theorem lives6:Dw.zGW Tryz.prog 6:=Dw.zxB (by kernel_rfl) (fun w=>Tryz.zHV) zxY
theorem ztf:Tryz.pinned.checked.prog.mayEnter=true:=by kernel_rfl
end Go.Proofs.YtpogddachhjgaaaGreat
namespace Go.Proofs.YtpogddachhjgaaaGreat.sserveTakes
open Go.ChangeShapes Go.WideShapes Go.ChangeAt Go.RowKit
theorem closedFacts:joinedFacts Tryz.pinned.checked.prog 3 Tryz.f3 Rows.sserveTakesSpec Rows.sserveTakesRow=true:=by
 unfold joinedFacts
 rw [ztf]
 kernel_rfl
end Go.Proofs.YtpogddachhjgaaaGreat.sserveTakes
end
