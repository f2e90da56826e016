/-
  Proved: laws on the way to 'PdriveHoldsProof' (texts VaN VaO VaP VaQ VaR VaS VaT VdG QaJ QaK QaL QaM QcF VdA VdB); no condition.
-/
import Derived.Test.YtkemikknnokdhaaGreatM6
set_option linter.unusedSimpArgs false
set_option linter.unusedVariables false
set_option maxHeartbeats 4000000
noncomputable section
namespace Go.Proofs
open Go.Dw Go.RowKit Go.Maps Go.Sort Go.Deep
set_option maxRecDepth 100000 in
theorem Tryz.zh1 {w:World} {X:Nat} {b:Bool} (h:w.cell? ⟨X,0,none⟩=some (.bool b)):Calls prog 151 #[.pointer (some ⟨X,0,none⟩)] w fun e w'=>e= .returned (.int .i64 (if b then 2 else 0))∧Below w.heap.size w w':=by
 cases b
 all_goals
  go_enter func151,ntmps151;go_wp2_with fail;go_ret;exact ⟨rfl,Below.refl _ _⟩
theorem Tryz.ztv {w:World} {X:Nat} (h:w.cell? ⟨X,0,none⟩=some (.bool true)):Calls prog 151 #[.pointer (some ⟨X,0,none⟩)] w fun e w'=>e= .returned (.int .i64 2)∧Below w.heap.size w w':=zh1 h
theorem Tryz.zly {w:World} {X:Nat} (h:w.cell? ⟨X,0,none⟩=some (.bool false)):Calls prog 151 #[.pointer (some ⟨X,0,none⟩)] w fun e w'=>e= .returned (.int .i64 0)∧Below w.heap.size w w':=zh1 h
set_option maxRecDepth 100000 in
theorem Tryz.zeQ (w:World) (b:Bool):Calls prog 108 #[.bool b] w fun e w'=>e= .returned (.func (.func 151) #[] #[.pointer (some ⟨w.heap.size,0,none⟩)])∧w'=w.alloc (Obj.cells #[.bool b] 4):=by
 go_enter func108,ntmps108;go_wp2_with fail;go_ret;exact ⟨rfl,rfl⟩
set_option maxRecDepth 100000 in
theorem Tryz.ziN (w:World) (v:Value) (hv:v.oneCell'=true):Calls prog 112 #[v] w fun e w'=>e= .returned (.func (.func 153) #[] #[.pointer (some ⟨w.heap.size,0,none⟩)])∧w'=w.alloc (Obj.cells #[v] 49):=by
 go_enter func112,ntmps112;go_wp2_with fail;go_ret;exact ⟨rfl,rfl⟩
def Tryz.zbc (l:List Sg):Int:=if zaU l≠0 then zaU l else if l.length=0 then 2 else 0
set_option maxRecDepth 100000 in
theorem Tryz.zhL {A:Nat→Prop} {w:World} {X:Nat} {v:Value} {l:List Sg} (h:Cl w X [v]) (hv:SegV A w v l):Calls prog 153 #[.pointer (some ⟨X,0,none⟩)] w fun e w'=>e= .returned (.int .i64 (zbc l))∧Below w.heap.size w w':=by
  have hck:=zdI hv;obtain ⟨sa,c,rfl,hok,hr⟩:=hv;clear hok hr;have h0:=h.cell 0 _ rfl;unfold zbc;generalize zaU l=e at hck;by_cases he:e=0
  · subst he;rw [if_neg (by simp)];by_cases hl:l.length=0
    · rw [if_pos hl];have hb:((l.length:Int)==0)=true:=by simpa using hl
      clear hl;go_enter func153,ntmps153;go_wp2_with (first
        | (go_at_call 106;refine hck.mono ?_;rintro en w1 ⟨rfl,hb1⟩;have k1:=h.below hb1 h.lt;have h1:=k1.cell 0 _ rfl)
        | (go_at_call 108;refine (zeQ _ true).mono ?_;rintro en w2 ⟨rfl,hw2⟩;have hw2:=hw2.symm;subst hw2)
        | (go_at_call 151;refine (ztv ((Cl.new w1 #[.bool true] 4).cell 0 _ rfl)).mono ?_;rintro en w3 ⟨rfl,hb3⟩)
        | go_in)
      go_ret;exact ⟨rfl,((hb1.alloc hb1.size _).trans (hb3.mono (by have:=hb1.size;simp;omega)))⟩
    · rw [if_neg hl];have hb:((l.length:Int)==0)=false:=by simpa using hl
      clear hl;go_enter func153,ntmps153;go_wp2_with (first
        | (go_at_call 106;refine hck.mono ?_;rintro en w1 ⟨rfl,hb1⟩;have k1:=h.below hb1 h.lt;have h1:=k1.cell 0 _ rfl)
        | (go_at_call 108;refine (zeQ _ false).mono ?_;rintro en w2 ⟨rfl,hw2⟩;have hw2:=hw2.symm;subst hw2)
        | (go_at_call 151;refine (zly ((Cl.new w1 #[.bool false] 4).cell 0 _ rfl)).mono ?_;rintro en w3 ⟨rfl,hb3⟩)
        | go_in)
      go_ret;exact ⟨rfl,((hb1.alloc hb1.size _).trans (hb3.mono (by have:=hb1.size;simp;omega)))⟩
  · rw [if_pos he];go_enter func153,ntmps153;go_wp2_with (first
      | (go_at_call 106;refine hck.mono ?_;rintro en w1 ⟨rfl,hb1⟩)
      | go_in)
    go_ret;exact ⟨rfl,hb1⟩
structure Tryz.FnE where
 buf:Bool
 X:Nat
def Tryz.FnE.fn (e:FnE):Nat:=if e.buf then 153 else 151
def Tryz.FnE.val (e:FnE):Value:= .func (.func e.fn) #[] #[.pointer (some ⟨e.X,0,none⟩)]
def Tryz.zcm:List Int→Int
 | [] => 0
 | x::r=>if x=0 then zcm r else x
theorem Tryz.zdZ: ∀(rs:List Int) (k:Nat),(∀j,j<k→rs.getD j 0=0)→zcm rs=zcm (rs.drop k)
 | [], k,_=>by simp
 | x::r,0,_=>rfl
 | x::r,k+1,h=>by
  have h0:=h 0 (by omega);simp only [List.getD_cons_zero] at h0;rw [zcm,if_pos h0,List.drop_succ_cons];exact zdZ r k fun j hj=>by have:=h (j+1) (by omega);simpa using this
set_option maxRecDepth 100000 in
theorem Tryz.zhx {w:World} {R o c:Nat} (es:List FnE) (rs:List Int) (hlen:rs.length=es.length) (hrow:w.rangeAt R o (es.map FnE.val)) (hl6:es.length≤64) (hR:R<w.heap.size)
    (hcall: ∀k (hk:k<es.length),∀w',Below w.heap.size w w'→Calls prog (es[k]'(hk)).fn #[.pointer (some ⟨(es[k]'(hk)).X,0,none⟩)] w' fun e w''=>e= .returned (.int .i64 (rs.getD k 0))∧Below w'.heap.size w' w''):
    Calls prog 107 #[.slice (some ⟨R,o,none⟩) es.length c] w fun e w'=>e= .returned (.int .i64 (zcm rs))∧Below w.heap.size w w':=by
  replace hcall:HidP (∀k (hk:k<es.length),∀w',Below w.heap.size w w'→Calls prog (es[k]'(hk)).fn #[.pointer (some ⟨(es[k]'(hk)).X,0,none⟩)] w' fun e w''=>e= .returned (.int .i64 (rs.getD k 0))∧Below w'.heap.size w' w''):=⟨hcall⟩;replace hlen:HidP (rs.length=es.length):=⟨hlen⟩;go_enter func107,ntmps107;go_wp2;go_loopw [8] (fun c wr=> ∃i:Nat,i≤es.length∧c= .int .i64 i∧HidP (∀j,j<i→rs.getD j 0=0)∧Below w.heap.size w wr) (fun c _=>es.length-(RowKit.intOf c).toNat)
  case atStart=>exact ⟨0,Nat.zero_le _,rfl,⟨fun j hj=>absurd hj (Nat.not_lt_zero j)⟩,Below.refl _ _⟩
  case round=>
    obtain ⟨i,hi,rfl,hz,hb⟩:=hrel;by_cases hik:i<es.length
    · have hcl:=hcall.out i hik wr hb;have hc:wr.cell? ⟨R,o+i,none⟩=some (es[i]'(hik)).val:=by
        have:=zag hrow (hb.block R hR) i _ (by rw [List.getElem?_map,List.getElem?_eq_getElem hik];rfl);exact this
      have hrk:i<rs.length:=by rw [hlen.out];exact hik
      have hsplit:HidP (zcm rs=zcm (rs.getD i 0::rs.drop (i+1))):=⟨by
        rw [zdZ rs i hz.out,List.drop_eq_getElem_cons hrk,List.getD_eq_getElem?_getD,List.getElem?_eq_getElem hrk];rfl⟩
      have hz1:HidP (rs.getD i 0=0→ ∀j,j<i+1→rs.getD j 0=0):=⟨fun h0 j hj=>by
        by_cases e:j=i
        · exact e▸h0
        · exact hz.out j (by omega)⟩
      unfold FnE.val FnE.fn at hc;unfold FnE.fn at hcl;clear hrow hrk;generalize es[i]'(hik)=e at hc hcl;generalize hrv:rs.getD i 0=rv at hcl;replace hrv:HidP (rs.getD i 0=rv):=⟨hrv⟩;obtain ⟨b,X⟩:=e;cases b
      all_goals
        simp only [if_true,if_false,Bool.false_eq_true] at hc hcl;by_cases h0:rv=0
        · subst h0;go_wp2_with (first
            | (go_at_call 151;refine hcl.mono ?_;rintro en w1 ⟨rfl,hb1⟩)
            | (go_at_call 153;refine hcl.mono ?_;rintro en w1 ⟨rfl,hb1⟩)
            | go_in)
          exact ⟨⟨i+1,by omega,by push_cast;rfl,⟨hz1.out hrv.out⟩,hb.trans (hb1.mono hb.size)⟩,by simp only [RowKit.intOf];omega⟩
        · go_wp2_with (first
            | (go_at_call 151;refine hcl.mono ?_;rintro en w1 ⟨rfl,hb1⟩)
            | (go_at_call 153;refine hcl.mono ?_;rintro en w1 ⟨rfl,hb1⟩)
            | go_in)
          go_ret;refine ⟨?_,hb.trans (hb1.mono hb.size)⟩;rw [hsplit.out,hrv.out,zcm,if_neg h0];rfl
    · have hik':i=es.length:=by omega
      have hf:HidP (zcm rs=0):=⟨by rw [zdZ rs i hz.out,List.drop_of_length_le (by rw [hlen.out];omega)];rfl⟩;subst hik';go_wp2;go_ret;exact ⟨by rw [hf.out];rfl,hb⟩
theorem Tryz.ziT {l:List Sg} {q:Nat} (h:q<l.length):zao (l.take (q+1))=zao (l.take q)++(zcQ (l[q]'(h))).bytes:=by
 unfold zao;rw [List.take_add_one,List.getElem?_eq_getElem h,List.flatMap_append];simp
theorem Tryz.zfW (l:List Sg):(zao l).length=16*l.length:=by
 induction l with
 | nil=>rfl
 | cons s r ih=>
  unfold zao at ih ⊢;rw [List.flatMap_cons,List.length_append,ih,Pt.bytes_len,List.length_cons];omega
set_option maxRecDepth 100000 in
theorem Tryz.zoo {A:Nat→Prop} {w:World} {v:Value} {l:List Sg} (h:SegV A w v l) (hl:l.length≤64) (he:zbc l=0):
    Calls prog 116 #[v] w fun e w'=>(∃u,e= .returned (.tuple #[u,.int .i64 0])∧OwnR 5 1 w' w.heap.size u (zao l).length (zaf (zao l)))∧Below w.heap.size w w':=by
  have hinfo:=ztk;cases hi:prog.info? 5 with
  | none=>rw [hi] at hinfo;cases hinfo
  | some i=>
  rw [hi] at hinfo;simp only [Option.map_some,Option.some.injEq,Prod.mk.injEq] at hinfo;obtain ⟨i1,i2,i3⟩:=hinfo;have hbx:=(Below.refl w.heap.size w).alloc (Nat.le_refl _) (Obj.cells #[v] 49);have kb:=Cl.new w #[v] 49;have hbf:=ziN w v (by obtain ⟨sa,c,rfl,_⟩:=h;rfl);have hfirst: ∀w1,Below (w.heap.size+1) (w.alloc (Obj.cells #[v] 49)) w1→ ∀R,R<w1.heap.size→w1.rangeAt R 0 [(FnE.mk true w.heap.size).val]→Calls prog 107 #[.slice (some ⟨R,0,none⟩) 1 1] w1 fun e w'=>e= .returned (.int .i64 0)∧Below w1.heap.size w1 w':=fun w1 hb1 R hR hr=>by
    have:=zhx (w:=w1) (c:=1) [⟨true,w.heap.size⟩] [zbc l] rfl hr (by show 1≤64;decide) hR (fun k hk w' hb'=>by
      have hk0:k=0:=by simp at hk;omega
      subst hk0;have h1:=(h.below (hbx.trans (hb1.mono (by omega)))).below (hb'.mono (Nat.le_refl _));have k1:=(kb.kept (w':=w1) (hb1.block _ (by omega))).below hb' (by have:=hb1.size;simp at this;omega);exact zhL k1 h1)
    have e0:zcm [zbc l]=0:=by rw [he];rfl
    rw [e0] at this;exact this
  obtain ⟨sa,c,rfl,hok,hr⟩:=h;replace hok:HidP (∀x∈l,x.ok):=⟨hok⟩;replace hr:HidP (l= []∨ ∃R o,sa=some ⟨R,o,none⟩∧ ¬A R∧w.rangeAt R o (zan l)):=⟨hr⟩;clear he;go_enter func116,ntmps116;go_wp2_with (first
    | (go_at_call 112;refine hbf.mono ?_;rintro en w1 ⟨rfl,hw1⟩;have hw1:=hw1.symm;subst hw1)
    | (go_at_call 107;refine (hfirst _ ((Below.refl _ _).alloc (by simp) _) (w.heap.size+1) (by simp) (fun j y hy=>by
         have:=(Cl.new (w.alloc (Obj.cells #[Value.slice sa l.length c] 49)) #[(FnE.mk true w.heap.size).val] 57).cell j y hy;rw [zas] at this;rwa [Nat.zero_add])).mono ?_;rintro en w2 ⟨rfl,hb2⟩)
    | go_in)
  have hW:Below w.heap.size w w2:=((hbx.alloc hbx.size _).trans (hb2.mono (by simp;omega)));clear hb2 hbf hfirst kb hbx;go_loopw [5,18] (fun c k wr=> ∃(q:Nat) (cv:Value),cv=c∧q≤l.length∧k= .int .i64 q∧OwnR 5 1 wr w.heap.size cv (zao (l.take q)).length (zaf (zao (l.take q)))∧Below w.heap.size w wr) (fun _ k _=>l.length-(RowKit.intOf k).toNat)
  case atStart=>exact ⟨0,_,rfl,Nat.zero_le _,rfl,by simpa [zao,zaf] using OwnR.nil 5 1 _ _,hW⟩
  case round=>
    obtain ⟨q,cv,hcv,hq,rfl,ho,hb⟩:=hrel;subst hcv;by_cases hqn:q<l.length
    · obtain ⟨R,o,rfl,hA,hrg⟩:=hr.out.resolve_left (by intro e;rw [e] at hqn;exact absurd hqn (by simp));have hsg:=zag (zcS hrg q hqn) (hb.block R (zgZ hrg (by intro e;rw [e] at hqn;exact absurd hqn (by simp))));have hsok:=hok.out _ (List.getElem_mem hqn);have htk:=ziT hqn;have hol:=OwnR.lt ho;have hlen:(zao (l.take q)).length≤1024:=by rw [zfW,List.length_take];omega
      generalize l[q]'(hqn)=s at hsg hsok htk;have hpb:=fun w'=>zee (zcQ s) ⟨⟨hsok.1,hsok.2.1⟩,⟨hsok.2.2.1,hsok.2.2.2⟩,⟨by show (0:Int)≤0;decide,by show (0:Int)<65536;decide⟩,by show 0≤(if s.wr then (2:Int) else 0)∧(if s.wr then (2:Int) else 0)<65536;split<;>decide⟩ w';rw [Nat.mul_comm 3 q] at hsg;have s0:=hsg 0 _ rfl;have s1:=hsg 1 _ rfl;have s2:=hsg 2 _ rfl;rw [Nat.add_zero] at s0;obtain ⟨sat,sln,swr⟩:=s;cases swr
      · skip
        go_wp2_with (first
          | (go_at_call 117;refine (hpb _).mono ?_;rintro en w3 ⟨X,hX,rfl,hXc,hb3⟩;have hb4:Below wr.heap.size wr w3:=(((Below.refl wr.heap.size wr).alloc (Nat.le_refl _) _).alloc (by simp) _).trans (hb3.mono (by simp;omega));have ho3:=OwnR.kept ho (w':=w3) fun b e=>hb4.block b (hol b e).2;have hnews: ∀j u,(zaf (zcQ ⟨sat,sln,false⟩).bytes)[j]? =some u→w3.cell? ((⟨X,0,none⟩:Addr).add j)=some u:=fun j u hu=>by
               rw [Dw.addr_add];exact hXc.cell (0+j) u (by rw [Nat.zero_add];exact hu)
             have hbs:=hb.size;have hb4s:=hb4.size)
          | (at_builtin;go_loud (refine wpList_append_own_at _ rfl _ _ 59 rfl w.heap.size 5 i _ 1 1 (by kernel_rfl) hi i1 i2 i3 rfl (by decide) cv _ (zaf (zao (l.take q))) rfl ho3 ⟨X,0,none⟩ 16 16 (zaf (zcQ ⟨sat,sln,false⟩).bytes) rfl (by rw [zaf,List.length_map,Pt.bytes_len]) hnews (by intro y hy;obtain ⟨x,_,rfl⟩:=List.mem_map.1 hy;rfl) (by unfold maxLen;omega) (by omega) (by omega) ?_);intro u w' h2 h3 h4 h5;go_frame)
          | go_in)
        refine ⟨⟨q+1,u,rfl,by omega,by push_cast;rfl,?_,?_⟩,by simp only [RowKit.intOf];omega⟩
        · rw [htk,List.length_append,Pt.bytes_len,show zaf (zao (l.take q)++(zcQ ⟨sat,sln,false⟩).bytes)=zaf (zao (l.take q))++zaf (zcQ ⟨sat,sln,false⟩).bytes from List.map_append];exact h2
        · have hbw:=hb.trans (hb4.mono hbs);exact ⟨h3.os.trans hbw.os,h3.tape.trans hbw.tape,h3.output.trans hbw.output,Nat.le_trans hbw.size h3.size,fun y hy=>(h3.block y (Nat.lt_of_lt_of_le hy hbw.size) (fun e=>by have:=(hol y e.symm).1;omega)).trans (hbw.block y hy)⟩
      · skip
        go_wp2_with (first
          | (go_at_call 117;refine (hpb _).mono ?_;rintro en w3 ⟨X,hX,rfl,hXc,hb3⟩;have hb4:Below wr.heap.size wr w3:=(((Below.refl wr.heap.size wr).alloc (Nat.le_refl _) _).alloc (by simp) _).trans (hb3.mono (by simp;omega));have ho3:=OwnR.kept ho (w':=w3) fun b e=>hb4.block b (hol b e).2;have hnews: ∀j u,(zaf (zcQ ⟨sat,sln,true⟩).bytes)[j]? =some u→w3.cell? ((⟨X,0,none⟩:Addr).add j)=some u:=fun j u hu=>by
               rw [Dw.addr_add];exact hXc.cell (0+j) u (by rw [Nat.zero_add];exact hu)
             have hbs:=hb.size;have hb4s:=hb4.size)
          | (at_builtin;go_loud (refine wpList_append_own_at _ rfl _ _ 59 rfl w.heap.size 5 i _ 1 1 (by kernel_rfl) hi i1 i2 i3 rfl (by decide) cv _ (zaf (zao (l.take q))) rfl ho3 ⟨X,0,none⟩ 16 16 (zaf (zcQ ⟨sat,sln,true⟩).bytes) rfl (by rw [zaf,List.length_map,Pt.bytes_len]) hnews (by intro y hy;obtain ⟨x,_,rfl⟩:=List.mem_map.1 hy;rfl) (by unfold maxLen;omega) (by omega) (by omega) ?_);intro u w' h2 h3 h4 h5;go_frame)
          | go_in)
        refine ⟨⟨q+1,u,rfl,by omega,by push_cast;rfl,?_,?_⟩,by simp only [RowKit.intOf];omega⟩
        · rw [htk,List.length_append,Pt.bytes_len,show zaf (zao (l.take q)++(zcQ ⟨sat,sln,true⟩).bytes)=zaf (zao (l.take q))++zaf (zcQ ⟨sat,sln,true⟩).bytes from List.map_append];exact h2
        · have hbw:=hb.trans (hb4.mono hbs);exact ⟨h3.os.trans hbw.os,h3.tape.trans hbw.tape,h3.output.trans hbw.output,Nat.le_trans hbw.size h3.size,fun y hy=>(h3.block y (Nat.lt_of_lt_of_le hy hbw.size) (fun e=>by have:=(hol y e.symm).1;omega)).trans (hbw.block y hy)⟩
    · have hqq:q=l.length:=by omega
      subst hqq;go_wp2;go_ret2;rw [List.take_length] at ho;exact ⟨⟨_,rfl,ho⟩,hb⟩
theorem Tryz.zhl (p:Pt): ∀(l:List Pt) (k:Nat) (g:Nat→Int),za1 k (l++ [p]) g=zfg (za1 k l g) (k+l.length) p
 | [], _,_=>rfl
 | x::r,k,g=>by
  rw [List.cons_append,za1,za1,zhl p r,List.length_cons,show k+1+r.length=k+(r.length+1) by omega]
theorem Tryz.zdU {l:List Pt} {i:Nat} {g:Nat→Int} (h:i<l.length):za1 0 (l.take (i+1)) g=zfg (za1 0 (l.take i) g) i (l[i]'(h)):=by
 have h1:(l.take i).length=i:=by rw [List.length_take];omega
 rw [List.take_add_one,List.getElem?_eq_getElem h];show za1 0 (l.take i++ [l[i]'(h)]) g=_;rw [zhl,h1,Nat.zero_add]
theorem Tryz.zjW (l:List Sg): ∀x∈zao l,0≤x∧x<256:=fun x hx=>by
 unfold zao at hx;obtain ⟨s,_,hs⟩:=List.mem_flatMap.1 hx;exact Pt.bytes_bnd _ x hs
theorem Tryz.zbj (p:Pt):(p.bytes.take 14).length=14:=by rw [List.length_take,Pt.bytes_len];rfl
theorem Tryz.zdO {w:World} {X:Nat} {p:Pt} (h:Cl w X (p.bytes.map (Value.int .u8))):w.rangeAt X 0 ((p.bytes.take 14).map (Value.int .u8)):=fun j y hy=>by
 rw [Nat.zero_add];rw [List.map_take] at hy;have hj:j<14:=by
  have:=(List.getElem?_eq_some_iff.1 hy).1;rw [List.length_take] at this;omega
 rw [List.getElem?_take_of_lt hj] at hy;exact h.cell j y hy
section
variable {fns fns':List Nat} {nw nw':Prop} {A A':Nat→Prop} {w w':World} {S P L Bs B I N:Nat} {r:Tryz.Rg} {s s':Tryz.DS} {g g':Nat→Int}
set_option maxRecDepth 100000 in
theorem Tryz.zq4 (h:DWf fns nw A w S P L Bs B I N r s g) (hnw:nw) (hid:0≤s.c.id∧s.c.id<r.n) (hp:0<s.pu.length) (hp16:s.pu.length≤16) (hps: ∀p∈s.pu,p.ok∧0≤p.at0∧p.at0<r.n) (hsg:s.sg.length≤64) (hse:zbc s.sg=0):
    Calls prog 70 #[.pointer (some ⟨S,0,none⟩)] w fun e w'=>e= .returned (.tuple #[.agg #[.int .i64 1,.int .i64 0,.int .i64 0],.bool true])∧DWf fns nw A w' S P L Bs B I N r s (zjD s g)∧Dw.Mv (· =B) w w':=by
  have hlt:=h.mvNe;have hb:=h.rg.bnd;have hd:=h.rg.d;have hN:=h.hN;have hF:=h.fit;replace hps:HidP (∀p∈s.pu,p.ok∧0≤p.at0∧p.at0<r.n):=⟨hps⟩;have hXB:w.heap.size≠B:=by omega
  have hbx:=(Below.refl w.heap.size w).alloc (Nat.le_refl _) (Obj.cells #[.int .i64 0,.int .i64 0,.int .i64 0] 54);have kW:=Cl.new w #[.int .i64 0,.int .i64 0,.int .i64 0] 54;have hW:=h.box (Obj.cells #[.int .i64 0,.int .i64 0,.int .i64 0] 54);have hmW:=zaa (K:=(· =B)) hbx;unfold zjD;obtain ⟨stv,nowv,sgv,puv,oW,_,_,hnv,hsv,hpu⟩:=hW.obj;have c7:=oW.cell 7 _ rfl;have c18:=oW.cell 18 _ rfl;by_cases htb:s.tab s.sg=true
  · rw [if_pos htb];have htb1:s.tb=true∧(1:Int)<s.sg.length:=by
      unfold DS.tab at htb;simp only [Bool.and_eq_true,decide_eq_true_eq] at htb;exact ⟨htb.1,by omega⟩
    obtain ⟨htb2,hsl⟩:=htb1;rw [htb2] at c7;have hpt:=zoo hsv hsg hse;have htl:(zao s.sg).length=16*s.sg.length:=zfW _;have htbb: ∀x∈zao s.sg,0≤x∧x<256:=zjW _;obtain ⟨ssa,sc,rfl,hq1,hq2⟩:=hsv;clear hq1 hq2;obtain ⟨O,rfl,hOA,hOr⟩:=hnv hnw;have hOB:O≠B:=fun q=>hOA (.inl (q▸h.aB));have hOl:O<(w.alloc (Obj.cells #[.int .i64 0,.int .i64 0,.int .i64 0] 54)).heap.size:=zaP hOr (by simp [DO.cells]);obtain ⟨ta,ha,ha2⟩: ∃ta:Nat,(ta:Int)=20000+s.c.id*1024∧ta+1024≤N:=⟨(20000+s.c.id*1024).toNat,by omega,by omega⟩;have ea:(zcD s.c.id).toNat=ta:=by unfold zcD;omega
    rw [ea];have e1:IntKind.wrap .u64 s.c.id=s.c.id:=wrap_u64 _ (by omega) (by omega);have e2:IntKind.wrap .u64 (s.c.id*1024)=s.c.id*1024:=wrap_u64 _ (by omega) (by omega);have e3:IntKind.wrap .u64 (20000+s.c.id*1024)=20000+s.c.id*1024:=wrap_u64 _ (by omega) (by omega);go_enter func70,ntmps70;go_wp2_with (first
      | (go_at_call 116;refine hpt.mono ?_;rintro en w2 ⟨⟨u,rfl,hu⟩,hb2⟩;have h2:=hW.below hb2;have o2:=oW.below hb2 oW.lt;have k2:=kW.below hb2 kW.lt;have n2:=zag hOr (hb2.block O hOl);have hp2:PutV (fun b=>A b∨b=w.heap.size) w2 puv s.pu:=PutV.setK hpu (fun _ _ q=>q) fun b hb' _=>hb2.block b hb')
      | go_in)
    obtain ⟨sa2,c2,rfl,hrow⟩:=OwnR.row hu;obtain ⟨G,rfl,_,hG⟩:=hrow.resolve_left (by intro e;have:=congrArg List.length e;rw [zaf,List.length_map,htl] at this;simp at this;omega);have hGl:G<w2.heap.size:=zaP hG (by intro e;have:=congrArg List.length e;rw [zaf,List.length_map,htl] at this;simp at this;omega);have hbd:=(Below.refl w2.heap.size w2).drew;have hwr:=zcq P L Bs B N ta G 0 c2 (zao s.sg) g w2.drew (h2.below hbd).mem h.hN (by omega) (by omega) htbb (zag (w':=w2.drew) hG rfl) hGl;rw [ha] at hwr;have x0:=o2.cell 0 _ rfl;have x9:=o2.cell 9 _ rfl;have x17:=o2.cell 17 _ rfl;have xO:=n2 0 _ rfl;rw [Nat.add_zero] at xO;have d2:=o2.kept (w':=w2.drew) rfl;have nd2:=zag (w':=w2.drew) n2 rfl;have y0:=d2.cell 0 _ rfl;have y9:=d2.cell 9 _ rfl;have y17:=d2.cell 17 _ rfl;have yO:=nd2 0 _ rfl;rw [Nat.add_zero] at yO;clear hu hG hpt hse ha ha2 ea htl htbb hsl htb c7 c18 hid hb hd hN hF hrow;go_region_held3 (fun w'=>w'.cell? ⟨S,0,none⟩=some (.pointer (some ⟨P,0,none⟩))∧w'.cell? ⟨S,9,none⟩=some (.int .u64 20000)∧w'.cell? ⟨S,17,none⟩=some (.pointer (some ⟨O,0,none⟩))∧w'.cell? ⟨O,0,none⟩=some (.int .i64 s.c.id)) (go_keep)
      ((first
        | (go_at_call 22;refine hwr.mono ?_;rintro en wt ⟨rfl,hg5,hm5⟩;have hm5':=zeu hm5;have o5:=d2.kept (hm5.block S o2.lt h.sd.2.2.2);have k5:=(k2.kept (w':=w2.drew) rfl).kept (hm5.block _ k2.lt hXB);have n5:=zag nd2 (hm5.block O (Nat.lt_of_lt_of_le hOl hb2.size) hOB);have z0:=o5.cell 0 _ rfl;have z9:=o5.cell 9 _ rfl;have z17:=o5.cell 17 _ rfl;have zO:=n5 0 _ rfl;rw [Nat.add_zero] at zO)))
    all_goals
      have hWn:=(h2.below hbd).memB hm5' hg5;have hpun:PutV (fun b=>A b∨b=w.heap.size) wt puv s.pu:=PutV.setK (PutV.setK hp2 (fun _ _ q=>q) (fun b hb' _=>hbd.block b hb')) (fun _ _ q=>q) fun b hb' hn=>hm5.block b hb' fun e=>hn (by have e:b=B:=e;exact .inl (e▸h.aB));have hmWn:=((hmW.trans (zaa hb2)).trans (zaa hbd)).trans hm5';clear oW hpu kW hW hmW hOr y0 y9 y17 yO x0 x9 x17 xO z0 z9 z17 zO hp2 hm5 hg5 hwr e1 e2 e3;have hW:=hWn;have hpu:=hpun;have hmW:=hmWn;have oW:=o5;have kW:=k5;clear hWn hpun hmWn o5 k5;have hb:=h.rg.bnd;have hd:=h.rg.d;have hN:=h.hN;have hF:=h.fit;have hR': ∃R o cp,puv= .slice (some ⟨R,o,none⟩) s.pu.length cp∧ ¬(A R∨R=w.heap.size)∧wt.rangeAt R o (zaQ s.pu):=by
        obtain ⟨sa,c,e,hr⟩:=hpu;rcases hr with hr|⟨R,o,e1,hA,h2⟩
        · rw [hr] at hp;exact absurd hp (by decide)
        · exact ⟨R,o,c,by rw [e,e1],hA,h2⟩
      obtain ⟨R,o,cp,rfl,hRA,hRr⟩:=hR';have hRB:R≠B:=fun q=>hRA (.inl (q▸h.aB));have hRX:R≠w.heap.size:=fun q=>hRA (.inr q);have hRl:R<wt.heap.size:=zaP hRr (zed (by intro e;rw [e] at hp;exact absurd hp (by decide)));replace hRr:HidP (wt.rangeAt R o (zaQ s.pu)):=⟨hRr⟩;have c19:=oW.cell 19 _ rfl;clear hpu;go_wp2_with fail;go_loopw [55] (fun c wr=> ∃i:Nat,i≤s.pu.length∧c= .int .i64 i∧GM wr P L Bs B N (za1 0 (s.pu.take i) (putL g ta (zao s.sg)))∧Dw.Mv (· =B) wt wr) (fun c _=>s.pu.length-(RowKit.intOf c).toNat)
      case atStart=>exact ⟨0,Nat.zero_le _,rfl,hW.mem,Dw.Mv.refl (· =B) _⟩
      case round=>
        obtain ⟨i,hi,rfl,hg,hmr⟩:=hrel;by_cases hik:i<s.pu.length
        · have hcs:=zag (zgD hRr.out i hik) (hmr.block R hRl hRB);have hstep:=zdU (g:=(putL g ta (zao s.sg))) hik;obtain ⟨hok,hat⟩:=hps.out _ (List.getElem_mem hik);generalize s.pu[i]'(hik)=p at hcs hok hat hstep;have hD:=hW.memB hmr hg;have oR:=oW.kept (hmr.block S oW.lt h.sd.2.2.2);rw [Nat.mul_comm 5 i] at hcs;have hrs:=hmr.size;have hWlt:=hW.mvNe;have hBr:wr.heap.size≠B:=by omega
          obtain ⟨a,ha,ha2⟩: ∃a:Nat,(a:Int)=r.d+16*p.at0∧a+16≤N:=⟨(r.d+16*p.at0).toNat,by omega,by omega⟩;have ea:(4096+16*p.at0).toNat=a:=by omega
          unfold zfg at hstep;rw [ea] at hstep;have hbY:=(Below.refl wr.heap.size wr).alloc (Nat.le_refl _) (Obj.cells #[.int .i64 p.at0,.int .u64 p.a,.int .u32 p.ln,.int .u16 p.f,.int .u16 p.nx] 139);have y2:=Cl.new wr #[.int .i64 p.at0,.int .u64 p.a,.int .u32 p.ln,.int .u16 p.f,.int .u16 p.nx] 139;have hpb:=fun w'=>zee p hok w';have hgb:=hD.mem.byte;generalize za1 0 (s.pu.take i) (putL g ta (zao s.sg))=gi at hg hstep hD hgb;have hpbl:=Pt.bytes_len p;have hpbb:=Pt.bytes_bnd p;have hb16:(zaf p.bytes).length=16:=by rw [zaf,List.length_map,hpbl]
          by_cases hi0:i=0
          · rw [if_pos hi0] at hstep;subst hi0;rw [Nat.zero_mul,Nat.add_zero] at hcs;have r0:=hcs 0 _ rfl;have r1:=hcs 1 _ rfl;have r2:=hcs 2 _ rfl;have r3:=hcs 3 _ rfl;have r4:=hcs 4 _ rfl;rw [Nat.add_zero] at r0;replace hstep:HidP _:=⟨hstep⟩;go_wp2_with (first
              | (go_at_call 117;refine (hpb _).mono ?_;rintro en w3 ⟨X,hX3,rfl,hXc,hb3⟩;have hbw:Below wr.heap.size wr w3:=hbY.trans (hb3.mono (by simp));have y3:=y2.below hb3 y2.lt;have o3:=oR.below hbw oR.lt;have hD3:=hD.below hbw;have hpl:=fun {w'} (q:Below w3.heap.size w3 w')=>zbs (hD3.below q) hat;have hgm3:=hD3.mem;have y30:=y3.cell 0 _ rfl;have o30:=o3.cell 0 _ rfl)
              | go_in)
            have hbd:=(Below.refl w3.heap.size w3).drew;have hXl:=hXc.lt;have hwr:=zcq P L Bs B N a X 0 16 (p.bytes.take 14) gi w3.drew (hgm3.below hbd) h.hN (by rw [zbj p];decide) (by rw [zbj p];omega) (fun x hx=>hpbb x (List.mem_of_mem_take hx)) (zdO (hXc.kept (w':=w3.drew) rfl)) hXl;rw [zbj p] at hwr;clear hgb hpbl hpbb hb16 hpb hcs;rw [show (r.d+16*p.at0)=(a:Int) from ha.symm] at hpl;have d30:=(o3.kept (w':=w3.drew) rfl).cell 0 _ rfl;have z30:=(y3.kept (w':=w3.drew) rfl).cell 0 _ rfl;clear hg hgm3 hD3 hD hps hsg  ha ea ha2;go_region_held3 (fun w'=>w'.cell? ⟨S,0,none⟩=some (.pointer (some ⟨P,0,none⟩))∧w'.cell? ⟨wr.heap.size,0,none⟩=some (.int .i64 p.at0)) (go_keep)
              ((first
                | (go_at_call 57;refine (hpl hbd).mono ?_;rintro en w4 ⟨rfl,hw4⟩;have hw4:=hw4.symm;subst hw4)
                | (go_at_call 22;refine hwr.mono ?_;rintro en w5 ⟨rfl,hg5,hm5⟩;have hm5':=zeu hm5;have o5:=(o3.kept (w':=w3.drew) rfl).kept (hm5.block S o3.lt h.sd.2.2.2);have y5:=(y3.kept (w':=w3.drew) rfl).kept (hm5.block _ y3.lt hBr);have x50:=o5.cell 0 _ rfl;have x51:=y5.cell 0 _ rfl)))
            all_goals
              go_wp2_with fail;have hmf:=(((hmr.trans (zaa hbw)).trans (zaa hbd)).trans hm5');rw [←hstep.out] at hg5;exact ⟨⟨0+1,by omega,by push_cast;rfl,hg5,hmf⟩,by simp only [RowKit.intOf];omega⟩
          · rw [if_neg hi0] at hstep;have hb0:((i:Int)==0)=false:=by simpa using hi0
            have r0:=hcs 0 _ rfl;have r1:=hcs 1 _ rfl;have r2:=hcs 2 _ rfl;have r3:=hcs 3 _ rfl;have r4:=hcs 4 _ rfl;rw [Nat.add_zero] at r0;replace hstep:HidP _:=⟨hstep⟩;go_wp2_with (first
              | (go_at_call 117;refine (hpb _).mono ?_;rintro en w3 ⟨X,hX3,rfl,hXc,hb3⟩;have hbw:Below wr.heap.size wr w3:=hbY.trans (hb3.mono (by simp));have y3:=y2.below hb3 y2.lt;have o3:=oR.below hbw oR.lt;have hD3:=hD.below hbw;have hpl:=fun {w'} (q:Below w3.heap.size w3 w')=>zbs (hD3.below q) hat;have hgm3:=hD3.mem;have y30:=y3.cell 0 _ rfl;have o30:=o3.cell 0 _ rfl)
              | go_in)
            have hbd:=(Below.refl w3.heap.size w3).drew;have hXl:=hXc.lt;have hwr:=zcq P L Bs B N a X 0 16 p.bytes gi w3.drew (hgm3.below hbd) h.hN (by rw [hpbl];decide) (by rw [hpbl];omega) hpbb (fun j y hy=>by rw [Nat.zero_add];exact (hXc.kept (w':=w3.drew) rfl).cell j y hy) hXl;rw [hpbl] at hwr;clear hgb hpbl hpbb hb16 hpb hi0 hb0 hcs;rw [show (r.d+16*p.at0)=(a:Int) from ha.symm] at hpl;have d30:=(o3.kept (w':=w3.drew) rfl).cell 0 _ rfl;have z30:=(y3.kept (w':=w3.drew) rfl).cell 0 _ rfl;clear hg hgm3 hD3 hD hps hsg  ha ea ha2;go_region_held3 (fun w'=>w'.cell? ⟨S,0,none⟩=some (.pointer (some ⟨P,0,none⟩))∧w'.cell? ⟨wr.heap.size,0,none⟩=some (.int .i64 p.at0)) (go_keep)
              ((first
                | (go_at_call 57;refine (hpl hbd).mono ?_;rintro en w4 ⟨rfl,hw4⟩;have hw4:=hw4.symm;subst hw4)
                | (go_at_call 22;refine hwr.mono ?_;rintro en w5 ⟨rfl,hg5,hm5⟩;have hm5':=zeu hm5;have o5:=(o3.kept (w':=w3.drew) rfl).kept (hm5.block S o3.lt h.sd.2.2.2);have y5:=(y3.kept (w':=w3.drew) rfl).kept (hm5.block _ y3.lt hBr);have x50:=o5.cell 0 _ rfl;have x51:=y5.cell 0 _ rfl)))
            all_goals
              go_wp2_with fail;have hmf:=(((hmr.trans (zaa hbw)).trans (zaa hbd)).trans hm5');rw [←hstep.out] at hg5;exact ⟨⟨i+1,by omega,by push_cast;rfl,hg5,hmf⟩,by simp only [RowKit.intOf];omega⟩
        · have hik':i=s.pu.length:=by omega
          subst hik';rw [List.take_length] at hg;have hD:=hW.memB hmr hg;have kR:=kW.kept (hmr.block _ kW.lt hXB);have hmv:=hmW.trans hmr;have b0:=kR.cell 0 _ rfl;have q0:=kR.free 0;have b1:=kR.cell 1 _ rfl;have q1:=kR.free 1;have b2:=kR.cell 2 _ rfl;have q2:=kR.free 2;go_wp2_with fail;have kA:=(((kR.set 0 (.int .i64 1) (by simp)).set 1 (.int .i64 0) (by simp)).set 2 (.int .i64 0) (by simp));refine bodyPost_ret (zaB rfl _ _ w.heap.size [.int .i64 1,.int .i64 0,.int .i64 0] _ rfl (fun j y hy=>by rw [Nat.zero_add];exact kA.cell j y hy) underlying54 rfl (by kernel_rfl)) rfl ?_;exact ⟨rfl,hD.fin h.aS h.aI h.aB ⟨by omega,by omega,by omega,by omega,by omega,by omega⟩ (zaj (zaj (zaj (zaa (K:=(· =w.heap.size)) (Below.refl _ _)) w.heap.size 0 _ rfl) w.heap.size 1 _ rfl) w.heap.size 2 _ rfl),zai (zai (zai (hmv) w.heap.size 0 _ (.inr (Nat.le_refl _))) w.heap.size 1 _ (.inr (Nat.le_refl _))) w.heap.size 2 _ (.inr (Nat.le_refl _))⟩
  · rw [if_neg htb];have hbr:(s.tb&&decide ((1:Int)<s.sg.length))=false:=by
      cases q:s.tb with
      | false=>rfl
      | true=>
        unfold DS.tab at htb;rw [q] at htb;simp only [Bool.true_and,decide_eq_true_eq] at htb;simp only [Bool.true_and,decide_eq_false_iff_not];omega
    obtain ⟨ssa,sc,rfl,hq1,hq2⟩:=hsv;clear hq1 hq2;go_enter func70,ntmps70;cases htb2:s.tb
    · rw [htb2] at c7;have hR': ∃R o cp,puv= .slice (some ⟨R,o,none⟩) s.pu.length cp∧ ¬(A R∨R=w.heap.size)∧(w.alloc (Obj.cells #[.int .i64 0,.int .i64 0,.int .i64 0] 54)).rangeAt R o (zaQ s.pu):=by
        obtain ⟨sa,c,e,hr⟩:=hpu;rcases hr with hr|⟨R,o,e1,hA,h2⟩
        · rw [hr] at hp;exact absurd hp (by decide)
        · exact ⟨R,o,c,by rw [e,e1],hA,h2⟩
      obtain ⟨R,o,cp,rfl,hRA,hRr⟩:=hR';have hRB:R≠B:=fun q=>hRA (.inl (q▸h.aB));have hRX:R≠w.heap.size:=fun q=>hRA (.inr q);have hRl:R<(w.alloc (Obj.cells #[.int .i64 0,.int .i64 0,.int .i64 0] 54)).heap.size:=zaP hRr (zed (by intro e;rw [e] at hp;exact absurd hp (by decide)));replace hRr:HidP ((w.alloc (Obj.cells #[.int .i64 0,.int .i64 0,.int .i64 0] 54)).rangeAt R o (zaQ s.pu)):=⟨hRr⟩;have c19:=oW.cell 19 _ rfl;clear hpu;go_wp2_with fail;go_loopw [55] (fun c wr=> ∃i:Nat,i≤s.pu.length∧c= .int .i64 i∧GM wr P L Bs B N (za1 0 (s.pu.take i) g)∧Dw.Mv (· =B) (w.alloc (Obj.cells #[.int .i64 0,.int .i64 0,.int .i64 0] 54)) wr) (fun c _=>s.pu.length-(RowKit.intOf c).toNat)
      case atStart=>exact ⟨0,Nat.zero_le _,rfl,hW.mem,Dw.Mv.refl (· =B) _⟩
      case round=>
        obtain ⟨i,hi,rfl,hg,hmr⟩:=hrel;by_cases hik:i<s.pu.length
        · have hcs:=zag (zgD hRr.out i hik) (hmr.block R hRl hRB);have hstep:=zdU (g:=g) hik;obtain ⟨hok,hat⟩:=hps.out _ (List.getElem_mem hik);generalize s.pu[i]'(hik)=p at hcs hok hat hstep;have hD:=hW.memB hmr hg;have oR:=oW.kept (hmr.block S oW.lt h.sd.2.2.2);rw [Nat.mul_comm 5 i] at hcs;have hrs:=hmr.size;have hWlt:=hW.mvNe;have hBr:wr.heap.size≠B:=by omega
          obtain ⟨a,ha,ha2⟩: ∃a:Nat,(a:Int)=r.d+16*p.at0∧a+16≤N:=⟨(r.d+16*p.at0).toNat,by omega,by omega⟩;have ea:(4096+16*p.at0).toNat=a:=by omega
          unfold zfg at hstep;rw [ea] at hstep;have hbY:=(Below.refl wr.heap.size wr).alloc (Nat.le_refl _) (Obj.cells #[.int .i64 p.at0,.int .u64 p.a,.int .u32 p.ln,.int .u16 p.f,.int .u16 p.nx] 139);have y2:=Cl.new wr #[.int .i64 p.at0,.int .u64 p.a,.int .u32 p.ln,.int .u16 p.f,.int .u16 p.nx] 139;have hpb:=fun w'=>zee p hok w';have hgb:=hD.mem.byte;generalize za1 0 (s.pu.take i) g=gi at hg hstep hD hgb;have hpbl:=Pt.bytes_len p;have hpbb:=Pt.bytes_bnd p;have hb16:(zaf p.bytes).length=16:=by rw [zaf,List.length_map,hpbl]
          by_cases hi0:i=0
          · rw [if_pos hi0] at hstep;subst hi0;rw [Nat.zero_mul,Nat.add_zero] at hcs;have r0:=hcs 0 _ rfl;have r1:=hcs 1 _ rfl;have r2:=hcs 2 _ rfl;have r3:=hcs 3 _ rfl;have r4:=hcs 4 _ rfl;rw [Nat.add_zero] at r0;replace hstep:HidP _:=⟨hstep⟩;go_wp2_with (first
              | (go_at_call 117;refine (hpb _).mono ?_;rintro en w3 ⟨X,hX3,rfl,hXc,hb3⟩;have hbw:Below wr.heap.size wr w3:=hbY.trans (hb3.mono (by simp));have y3:=y2.below hb3 y2.lt;have o3:=oR.below hbw oR.lt;have hD3:=hD.below hbw;have hpl:=fun {w'} (q:Below w3.heap.size w3 w')=>zbs (hD3.below q) hat;have hgm3:=hD3.mem;have y30:=y3.cell 0 _ rfl;have o30:=o3.cell 0 _ rfl)
              | go_in)
            have hbd:=(Below.refl w3.heap.size w3).drew;have hXl:=hXc.lt;have hwr:=zcq P L Bs B N a X 0 16 (p.bytes.take 14) gi w3.drew (hgm3.below hbd) h.hN (by rw [zbj p];decide) (by rw [zbj p];omega) (fun x hx=>hpbb x (List.mem_of_mem_take hx)) (zdO (hXc.kept (w':=w3.drew) rfl)) hXl;rw [zbj p] at hwr;clear hgb hpbl hpbb hb16 hpb hcs;rw [show (r.d+16*p.at0)=(a:Int) from ha.symm] at hpl;have d30:=(o3.kept (w':=w3.drew) rfl).cell 0 _ rfl;have z30:=(y3.kept (w':=w3.drew) rfl).cell 0 _ rfl;clear hg hgm3 hD3 hD hps hsg hse hid hnv ha ea ha2;go_region_held3 (fun w'=>w'.cell? ⟨S,0,none⟩=some (.pointer (some ⟨P,0,none⟩))∧w'.cell? ⟨wr.heap.size,0,none⟩=some (.int .i64 p.at0)) (go_keep)
              ((first
                | (go_at_call 57;refine (hpl hbd).mono ?_;rintro en w4 ⟨rfl,hw4⟩;have hw4:=hw4.symm;subst hw4)
                | (go_at_call 22;refine hwr.mono ?_;rintro en w5 ⟨rfl,hg5,hm5⟩;have hm5':=zeu hm5;have o5:=(o3.kept (w':=w3.drew) rfl).kept (hm5.block S o3.lt h.sd.2.2.2);have y5:=(y3.kept (w':=w3.drew) rfl).kept (hm5.block _ y3.lt hBr);have x50:=o5.cell 0 _ rfl;have x51:=y5.cell 0 _ rfl)))
            all_goals
              go_wp2_with fail;have hmf:=(((hmr.trans (zaa hbw)).trans (zaa hbd)).trans hm5');rw [←hstep.out] at hg5;exact ⟨⟨0+1,by omega,by push_cast;rfl,hg5,hmf⟩,by simp only [RowKit.intOf];omega⟩
          · rw [if_neg hi0] at hstep;have hb0:((i:Int)==0)=false:=by simpa using hi0
            have r0:=hcs 0 _ rfl;have r1:=hcs 1 _ rfl;have r2:=hcs 2 _ rfl;have r3:=hcs 3 _ rfl;have r4:=hcs 4 _ rfl;rw [Nat.add_zero] at r0;replace hstep:HidP _:=⟨hstep⟩;go_wp2_with (first
              | (go_at_call 117;refine (hpb _).mono ?_;rintro en w3 ⟨X,hX3,rfl,hXc,hb3⟩;have hbw:Below wr.heap.size wr w3:=hbY.trans (hb3.mono (by simp));have y3:=y2.below hb3 y2.lt;have o3:=oR.below hbw oR.lt;have hD3:=hD.below hbw;have hpl:=fun {w'} (q:Below w3.heap.size w3 w')=>zbs (hD3.below q) hat;have hgm3:=hD3.mem;have y30:=y3.cell 0 _ rfl;have o30:=o3.cell 0 _ rfl)
              | go_in)
            have hbd:=(Below.refl w3.heap.size w3).drew;have hXl:=hXc.lt;have hwr:=zcq P L Bs B N a X 0 16 p.bytes gi w3.drew (hgm3.below hbd) h.hN (by rw [hpbl];decide) (by rw [hpbl];omega) hpbb (fun j y hy=>by rw [Nat.zero_add];exact (hXc.kept (w':=w3.drew) rfl).cell j y hy) hXl;rw [hpbl] at hwr;clear hgb hpbl hpbb hb16 hpb hi0 hb0 hcs;rw [show (r.d+16*p.at0)=(a:Int) from ha.symm] at hpl;have d30:=(o3.kept (w':=w3.drew) rfl).cell 0 _ rfl;have z30:=(y3.kept (w':=w3.drew) rfl).cell 0 _ rfl;clear hg hgm3 hD3 hD hps hsg hse hid hnv ha ea ha2;go_region_held3 (fun w'=>w'.cell? ⟨S,0,none⟩=some (.pointer (some ⟨P,0,none⟩))∧w'.cell? ⟨wr.heap.size,0,none⟩=some (.int .i64 p.at0)) (go_keep)
              ((first
                | (go_at_call 57;refine (hpl hbd).mono ?_;rintro en w4 ⟨rfl,hw4⟩;have hw4:=hw4.symm;subst hw4)
                | (go_at_call 22;refine hwr.mono ?_;rintro en w5 ⟨rfl,hg5,hm5⟩;have hm5':=zeu hm5;have o5:=(o3.kept (w':=w3.drew) rfl).kept (hm5.block S o3.lt h.sd.2.2.2);have y5:=(y3.kept (w':=w3.drew) rfl).kept (hm5.block _ y3.lt hBr);have x50:=o5.cell 0 _ rfl;have x51:=y5.cell 0 _ rfl)))
            all_goals
              go_wp2_with fail;have hmf:=(((hmr.trans (zaa hbw)).trans (zaa hbd)).trans hm5');rw [←hstep.out] at hg5;exact ⟨⟨i+1,by omega,by push_cast;rfl,hg5,hmf⟩,by simp only [RowKit.intOf];omega⟩
        · have hik':i=s.pu.length:=by omega
          subst hik';rw [List.take_length] at hg;have hD:=hW.memB hmr hg;have kR:=kW.kept (hmr.block _ kW.lt hXB);have hmv:=hmW.trans hmr;have b0:=kR.cell 0 _ rfl;have q0:=kR.free 0;have b1:=kR.cell 1 _ rfl;have q1:=kR.free 1;have b2:=kR.cell 2 _ rfl;have q2:=kR.free 2;go_wp2_with fail;have kA:=(((kR.set 0 (.int .i64 1) (by simp)).set 1 (.int .i64 0) (by simp)).set 2 (.int .i64 0) (by simp));refine bodyPost_ret (zaB rfl _ _ w.heap.size [.int .i64 1,.int .i64 0,.int .i64 0] _ rfl (fun j y hy=>by rw [Nat.zero_add];exact kA.cell j y hy) underlying54 rfl (by kernel_rfl)) rfl ?_;exact ⟨rfl,hD.fin h.aS h.aI h.aB ⟨by omega,by omega,by omega,by omega,by omega,by omega⟩ (zaj (zaj (zaj (zaa (K:=(· =w.heap.size)) (Below.refl _ _)) w.heap.size 0 _ rfl) w.heap.size 1 _ rfl) w.heap.size 2 _ rfl),zai (zai (zai (hmv) w.heap.size 0 _ (.inr (Nat.le_refl _))) w.heap.size 1 _ (.inr (Nat.le_refl _))) w.heap.size 2 _ (.inr (Nat.le_refl _))⟩
    · rw [htb2] at c7 hbr;have hs1: ¬(1:Int)<s.sg.length:=by simpa using hbr
      have hR': ∃R o cp,puv= .slice (some ⟨R,o,none⟩) s.pu.length cp∧ ¬(A R∨R=w.heap.size)∧(w.alloc (Obj.cells #[.int .i64 0,.int .i64 0,.int .i64 0] 54)).rangeAt R o (zaQ s.pu):=by
        obtain ⟨sa,c,e,hr⟩:=hpu;rcases hr with hr|⟨R,o,e1,hA,h2⟩
        · rw [hr] at hp;exact absurd hp (by decide)
        · exact ⟨R,o,c,by rw [e,e1],hA,h2⟩
      obtain ⟨R,o,cp,rfl,hRA,hRr⟩:=hR';have hRB:R≠B:=fun q=>hRA (.inl (q▸h.aB));have hRX:R≠w.heap.size:=fun q=>hRA (.inr q);have hRl:R<(w.alloc (Obj.cells #[.int .i64 0,.int .i64 0,.int .i64 0] 54)).heap.size:=zaP hRr (zed (by intro e;rw [e] at hp;exact absurd hp (by decide)));replace hRr:HidP ((w.alloc (Obj.cells #[.int .i64 0,.int .i64 0,.int .i64 0] 54)).rangeAt R o (zaQ s.pu)):=⟨hRr⟩;have c19:=oW.cell 19 _ rfl;clear hpu;go_wp2_with fail;go_loopw [55] (fun c wr=> ∃i:Nat,i≤s.pu.length∧c= .int .i64 i∧GM wr P L Bs B N (za1 0 (s.pu.take i) g)∧Dw.Mv (· =B) (w.alloc (Obj.cells #[.int .i64 0,.int .i64 0,.int .i64 0] 54)) wr) (fun c _=>s.pu.length-(RowKit.intOf c).toNat)
      case atStart=>exact ⟨0,Nat.zero_le _,rfl,hW.mem,Dw.Mv.refl (· =B) _⟩
      case round=>
        obtain ⟨i,hi,rfl,hg,hmr⟩:=hrel;by_cases hik:i<s.pu.length
        · have hcs:=zag (zgD hRr.out i hik) (hmr.block R hRl hRB);have hstep:=zdU (g:=g) hik;obtain ⟨hok,hat⟩:=hps.out _ (List.getElem_mem hik);generalize s.pu[i]'(hik)=p at hcs hok hat hstep;have hD:=hW.memB hmr hg;have oR:=oW.kept (hmr.block S oW.lt h.sd.2.2.2);rw [Nat.mul_comm 5 i] at hcs;have hrs:=hmr.size;have hWlt:=hW.mvNe;have hBr:wr.heap.size≠B:=by omega
          obtain ⟨a,ha,ha2⟩: ∃a:Nat,(a:Int)=r.d+16*p.at0∧a+16≤N:=⟨(r.d+16*p.at0).toNat,by omega,by omega⟩;have ea:(4096+16*p.at0).toNat=a:=by omega
          unfold zfg at hstep;rw [ea] at hstep;have hbY:=(Below.refl wr.heap.size wr).alloc (Nat.le_refl _) (Obj.cells #[.int .i64 p.at0,.int .u64 p.a,.int .u32 p.ln,.int .u16 p.f,.int .u16 p.nx] 139);have y2:=Cl.new wr #[.int .i64 p.at0,.int .u64 p.a,.int .u32 p.ln,.int .u16 p.f,.int .u16 p.nx] 139;have hpb:=fun w'=>zee p hok w';have hgb:=hD.mem.byte;generalize za1 0 (s.pu.take i) g=gi at hg hstep hD hgb;have hpbl:=Pt.bytes_len p;have hpbb:=Pt.bytes_bnd p;have hb16:(zaf p.bytes).length=16:=by rw [zaf,List.length_map,hpbl]
          by_cases hi0:i=0
          · rw [if_pos hi0] at hstep;subst hi0;rw [Nat.zero_mul,Nat.add_zero] at hcs;have r0:=hcs 0 _ rfl;have r1:=hcs 1 _ rfl;have r2:=hcs 2 _ rfl;have r3:=hcs 3 _ rfl;have r4:=hcs 4 _ rfl;rw [Nat.add_zero] at r0;replace hstep:HidP _:=⟨hstep⟩;go_wp2_with (first
              | (go_at_call 117;refine (hpb _).mono ?_;rintro en w3 ⟨X,hX3,rfl,hXc,hb3⟩;have hbw:Below wr.heap.size wr w3:=hbY.trans (hb3.mono (by simp));have y3:=y2.below hb3 y2.lt;have o3:=oR.below hbw oR.lt;have hD3:=hD.below hbw;have hpl:=fun {w'} (q:Below w3.heap.size w3 w')=>zbs (hD3.below q) hat;have hgm3:=hD3.mem;have y30:=y3.cell 0 _ rfl;have o30:=o3.cell 0 _ rfl)
              | go_in)
            have hbd:=(Below.refl w3.heap.size w3).drew;have hXl:=hXc.lt;have hwr:=zcq P L Bs B N a X 0 16 (p.bytes.take 14) gi w3.drew (hgm3.below hbd) h.hN (by rw [zbj p];decide) (by rw [zbj p];omega) (fun x hx=>hpbb x (List.mem_of_mem_take hx)) (zdO (hXc.kept (w':=w3.drew) rfl)) hXl;rw [zbj p] at hwr;clear hgb hpbl hpbb hb16 hpb hcs;rw [show (r.d+16*p.at0)=(a:Int) from ha.symm] at hpl;have d30:=(o3.kept (w':=w3.drew) rfl).cell 0 _ rfl;have z30:=(y3.kept (w':=w3.drew) rfl).cell 0 _ rfl;clear hg hgm3 hD3 hD hps hsg hse hid hnv ha ea ha2;go_region_held3 (fun w'=>w'.cell? ⟨S,0,none⟩=some (.pointer (some ⟨P,0,none⟩))∧w'.cell? ⟨wr.heap.size,0,none⟩=some (.int .i64 p.at0)) (go_keep)
              ((first
                | (go_at_call 57;refine (hpl hbd).mono ?_;rintro en w4 ⟨rfl,hw4⟩;have hw4:=hw4.symm;subst hw4)
                | (go_at_call 22;refine hwr.mono ?_;rintro en w5 ⟨rfl,hg5,hm5⟩;have hm5':=zeu hm5;have o5:=(o3.kept (w':=w3.drew) rfl).kept (hm5.block S o3.lt h.sd.2.2.2);have y5:=(y3.kept (w':=w3.drew) rfl).kept (hm5.block _ y3.lt hBr);have x50:=o5.cell 0 _ rfl;have x51:=y5.cell 0 _ rfl)))
            all_goals
              go_wp2_with fail;have hmf:=(((hmr.trans (zaa hbw)).trans (zaa hbd)).trans hm5');rw [←hstep.out] at hg5;exact ⟨⟨0+1,by omega,by push_cast;rfl,hg5,hmf⟩,by simp only [RowKit.intOf];omega⟩
          · rw [if_neg hi0] at hstep;have hb0:((i:Int)==0)=false:=by simpa using hi0
            have r0:=hcs 0 _ rfl;have r1:=hcs 1 _ rfl;have r2:=hcs 2 _ rfl;have r3:=hcs 3 _ rfl;have r4:=hcs 4 _ rfl;rw [Nat.add_zero] at r0;replace hstep:HidP _:=⟨hstep⟩;go_wp2_with (first
              | (go_at_call 117;refine (hpb _).mono ?_;rintro en w3 ⟨X,hX3,rfl,hXc,hb3⟩;have hbw:Below wr.heap.size wr w3:=hbY.trans (hb3.mono (by simp));have y3:=y2.below hb3 y2.lt;have o3:=oR.below hbw oR.lt;have hD3:=hD.below hbw;have hpl:=fun {w'} (q:Below w3.heap.size w3 w')=>zbs (hD3.below q) hat;have hgm3:=hD3.mem;have y30:=y3.cell 0 _ rfl;have o30:=o3.cell 0 _ rfl)
              | go_in)
            have hbd:=(Below.refl w3.heap.size w3).drew;have hXl:=hXc.lt;have hwr:=zcq P L Bs B N a X 0 16 p.bytes gi w3.drew (hgm3.below hbd) h.hN (by rw [hpbl];decide) (by rw [hpbl];omega) hpbb (fun j y hy=>by rw [Nat.zero_add];exact (hXc.kept (w':=w3.drew) rfl).cell j y hy) hXl;rw [hpbl] at hwr;clear hgb hpbl hpbb hb16 hpb hi0 hb0 hcs;rw [show (r.d+16*p.at0)=(a:Int) from ha.symm] at hpl;have d30:=(o3.kept (w':=w3.drew) rfl).cell 0 _ rfl;have z30:=(y3.kept (w':=w3.drew) rfl).cell 0 _ rfl;clear hg hgm3 hD3 hD hps hsg hse hid hnv ha ea ha2;go_region_held3 (fun w'=>w'.cell? ⟨S,0,none⟩=some (.pointer (some ⟨P,0,none⟩))∧w'.cell? ⟨wr.heap.size,0,none⟩=some (.int .i64 p.at0)) (go_keep)
              ((first
                | (go_at_call 57;refine (hpl hbd).mono ?_;rintro en w4 ⟨rfl,hw4⟩;have hw4:=hw4.symm;subst hw4)
                | (go_at_call 22;refine hwr.mono ?_;rintro en w5 ⟨rfl,hg5,hm5⟩;have hm5':=zeu hm5;have o5:=(o3.kept (w':=w3.drew) rfl).kept (hm5.block S o3.lt h.sd.2.2.2);have y5:=(y3.kept (w':=w3.drew) rfl).kept (hm5.block _ y3.lt hBr);have x50:=o5.cell 0 _ rfl;have x51:=y5.cell 0 _ rfl)))
            all_goals
              go_wp2_with fail;have hmf:=(((hmr.trans (zaa hbw)).trans (zaa hbd)).trans hm5');rw [←hstep.out] at hg5;exact ⟨⟨i+1,by omega,by push_cast;rfl,hg5,hmf⟩,by simp only [RowKit.intOf];omega⟩
        · have hik':i=s.pu.length:=by omega
          subst hik';rw [List.take_length] at hg;have hD:=hW.memB hmr hg;have kR:=kW.kept (hmr.block _ kW.lt hXB);have hmv:=hmW.trans hmr;have b0:=kR.cell 0 _ rfl;have q0:=kR.free 0;have b1:=kR.cell 1 _ rfl;have q1:=kR.free 1;have b2:=kR.cell 2 _ rfl;have q2:=kR.free 2;go_wp2_with fail;have kA:=(((kR.set 0 (.int .i64 1) (by simp)).set 1 (.int .i64 0) (by simp)).set 2 (.int .i64 0) (by simp));refine bodyPost_ret (zaB rfl _ _ w.heap.size [.int .i64 1,.int .i64 0,.int .i64 0] _ rfl (fun j y hy=>by rw [Nat.zero_add];exact kA.cell j y hy) underlying54 rfl (by kernel_rfl)) rfl ?_;exact ⟨rfl,hD.fin h.aS h.aI h.aB ⟨by omega,by omega,by omega,by omega,by omega,by omega⟩ (zaj (zaj (zaj (zaa (K:=(· =w.heap.size)) (Below.refl _ _)) w.heap.size 0 _ rfl) w.heap.size 1 _ rfl) w.heap.size 2 _ rfl),zai (zai (zai (hmv) w.heap.size 0 _ (.inr (Nat.le_refl _))) w.heap.size 1 _ (.inr (Nat.le_refl _))) w.heap.size 2 _ (.inr (Nat.le_refl _))⟩
end
end Go.Proofs
namespace Go.Proofs
open Go.Dw Go.RowKit Go.Maps Go.Sort Go.Deep
section
variable {fns fns':List Nat} {nw nw':Prop} {A A':Nat→Prop} {w w':World} {S P L Bs B I N:Nat} {r:Tryz.Rg} {s s':Tryz.DS} {g g':Nat→Int}
theorem Tryz.DWf.nwMono (h:DWf fns nw A w S P L Bs B I N r s g) (hn:nw'→nw):DWf fns nw' A w S P L Bs B I N r s g:=by
 obtain ⟨stv,nowv,sgv,puv,h1,h2,h3,h4,h5,h6⟩:=h.obj;exact ⟨⟨stv,nowv,sgv,puv,h1,h2,h3,fun q=>h4 (hn q),h5,h6⟩,h.ids,h.mem,h.ne,h.aS,h.aI,h.aB,h.lt,h.rg,h.hN,h.fit,h.sd,h.md⟩
set_option maxRecDepth 100000 in
theorem Tryz.zhO (h:DWf fns nw A w S P L Bs B I N r s g) {stv:Value} (hs:StepV A w S stv fns') (op tok wr:Int) (nn kk:Bool):
  Calls prog 69 #[.pointer (some ⟨S,0,none⟩),.agg #[.int .i64 op,.bool nn,.int .i64 tok,.int .u32 wr,.bool kk],stv] w fun e w'=>e= .returned (.tuple #[])∧DWf fns' nw A w' S P L Bs B I N r { s with op:=op,nn:=nn,tok:=tok,wr:=wr,kk:=kk,dn:=false } g∧Dw.Mv (· =S) w w':=by
 have hlt:=h.mvNe;have hbx:=(Below.refl w.heap.size w).alloc (Nat.le_refl _) (Obj.cells #[.int .i64 op,.bool nn,.int .i64 tok,.int .u32 wr,.bool kk] 67);have k2:=Cl.new w #[.int .i64 op,.bool nn,.int .i64 tok,.int .u32 wr,.bool kk] 67;have hX:=h.below hbx;have hsX:StepV A (w.alloc (Obj.cells #[.int .i64 op,.bool nn,.int .i64 tok,.int .u32 wr,.bool kk] 67)) S stv fns':=hs.setK (fun _ _ q=>q) fun b hb _=>hbx.block b hb;have hSX:S≠w.heap.size:=by omega
 have hXS:w.heap.size≠S:=by omega
 obtain ⟨stv0,nowv,sgv,puv,oX,_⟩:=hX.obj;have x16:=oX.cell 16 _ rfl;have f16:=oX.free 16;have x20:=oX.cell 20 _ rfl;have f20:=oX.free 20;have x21:=oX.cell 21 _ rfl;have f21:=oX.free 21;have x22:=oX.cell 22 _ rfl;have f22:=oX.free 22;have x23:=oX.cell 23 _ rfl;have f23:=oX.free 23;have x24:=oX.cell 24 _ rfl;have f24:=oX.free 24;have x25:=oX.cell 25 _ rfl;have f25:=oX.free 25;have b0:=k2.cell 0 _ rfl;have b1:=k2.cell 1 _ rfl;have b2:=k2.cell 2 _ rfl;have b3:=k2.cell 3 _ rfl;have b4:=k2.cell 4 _ rfl;have hst:=hs;obtain ⟨sa,sc,rfl,hs1,hs2⟩:=hs;replace hst:HidP _:=⟨hst⟩;clear hlt hs1 hs2 hsX;go_enter func69,ntmps69;go_wp2_with fail;go_end0;have hm6:=zaj (K:=(· =S)) (zaj (K:=(· =S)) (zaj (K:=(· =S)) (zaj (K:=(· =S)) (zaj (K:=(· =S)) (zaj (K:=(· =S)) (zaa (K:=(· =S)) hbx) S 20 (.int .i64 op) rfl) S 21 (.bool nn) rfl) S 22 (.int .i64 tok) rfl) S 23 (.int .u32 wr) rfl) S 24 (.bool kk) rfl) S 25 (.bool false) rfl;refine ⟨rfl,((((((hX.setRow (s':= { s with op:=op }) 20 (.int .i64 op) (by decide) (fun _ _ _ _=>rfl) rfl rfl rfl rfl).setRow (s':= { s with op:=op,nn:=nn }) 21 (.bool nn) (by decide) (fun _ _ _ _=>rfl) rfl rfl rfl rfl).setRow (s':= { s with op:=op,nn:=nn,tok:=tok }) 22 (.int .i64 tok) (by decide) (fun _ _ _ _=>rfl) rfl rfl rfl rfl).setRow (s':= { s with op:=op,nn:=nn,tok:=tok,wr:=wr }) 23 (.int .u32 wr) (by decide) (fun _ _ _ _=>rfl) rfl rfl rfl rfl).setRow (s':= { s with op:=op,nn:=nn,tok:=tok,wr:=wr,kk:=kk }) 24 (.bool kk) (by decide) (fun _ _ _ _=>rfl) rfl rfl rfl rfl).setRow (s':= { s with op:=op,nn:=nn,tok:=tok,wr:=wr,kk:=kk,dn:=false }) 25 (.bool false) (by decide) (fun _ _ _ _=>rfl) rfl rfl rfl rfl).setStep (hst.out.setK (fun _ _ q=>q) fun b hb hn=>hm6.block b hb fun e=>hn (by have e:b=S:=e;exact e▸h.aS)),zaj (K:=(· =S)) hm6 S 16 _ rfl⟩
theorem Tryz.DWf.alt (h:DWf fns nw A w S P L Bs B I N r s g) (hr: ∀stv nowv sgv puv,s.row r P I stv nowv sgv puv=s'.row r P I stv nowv sgv puv) (hc:s'.c=s.c) (hsg:s'.sg=s.sg) (hpu:s'.pu=s.pu) (hL:s'.L=s.L):DWf fns nw A w S P L Bs B I N r s' g:=by
 obtain ⟨stv,nowv,sgv,puv,h1,h2,h3,h4,h5,h6⟩:=h.obj;exact ⟨⟨stv,nowv,sgv,puv,hr stv nowv sgv puv▸h1,h2,h3,fun q=>hc▸h4 q,hsg▸h5,hpu▸h6⟩,hL▸h.ids,h.mem,h.ne,h.aS,h.aI,h.aB,h.lt,h.rg,h.hN,h.fit,h.sd,h.md⟩
set_option maxRecDepth 100000 in
theorem Tryz.zlP (h:DW A w S P L Bs B I N r s g):Calls prog 16 #[.pointer (some ⟨S,0,none⟩)] w fun e w'=>e= .returned (.int .i64 (zcM s).1)∧DW A w' S P L Bs B I N r (zcM s).2 g∧Dw.Mv (· =S) w w':=by
  have hrd:=ze5 h;unfold DS.rdy at hrd;by_cases hb:s.br=true
  · have e1:zcM s=(4,s):=by unfold zcM;rw [if_pos hb]
    rw [e1];rw [if_pos hb] at hrd;clear e1 hb;go_enter func16,ntmps16;go_wp2_with (first
      | (go_at_call 61;refine hrd.mono ?_;rintro e w' ⟨rfl,hw⟩;have hw:=hw.symm;subst hw)
      | go_in)
    go_ret;exact ⟨rfl,h,Dw.Mv.refl (· =S) _⟩
  · by_cases hp:s.ph=0
    · have hpb:=h.pb.recl;have e1:zcM s=(0,{ s with ph:=11,dn:=false,op:=2,nn:=false,tok:=0,wr:=0,kk:=false }):=by unfold zcM;rw [if_neg hb,if_neg (by simp [hp])]
      rw [e1] at hpb ⊢;rw [if_neg hb,if_neg (by simp [hp])] at hrd;have hbx:=(Below.refl w.heap.size w).alloc (Nat.le_refl _) (Obj.cells #[.func (.func 79) #[.pointer (some ⟨S,0,none⟩)] #[]] 155);have hX:=h.f.below hbx;have hst:=StepV.new (A:=A) (S:=S) (w:=w) (l:=dFns 11) (cs:= #[.func (.func 79) #[.pointer (some ⟨S,0,none⟩)] #[]]) h.f.lt 155 rfl;have hbg:=zhO hX hst 2 0 0 false false;clear e1 hb;go_enter func16,ntmps16;go_wp2_with (first
        | (go_at_call 61;refine hrd.mono ?_;rintro e w' ⟨rfl,hw⟩;have hw:=hw.symm;subst hw)
        | (go_at_call 69;refine hbg.mono ?_;rintro e w2 ⟨rfl,h2,hm2⟩)
        | go_in)
      go_ret;exact ⟨rfl,⟨(h2.nwMono (nw':=1≤11∧11≤5) fun q=>absurd q.2 (by decide)).alt (s':= { s with ph:=11,dn:=false,op:=2,nn:=false,tok:=0,wr:=0,kk:=false }) (fun _ _ _ _=>rfl) rfl rfl rfl rfl,hpb⟩,(zaa (K:=(· =S)) hbx).trans hm2⟩
    · have e1:zcM s=(8,s):=by unfold zcM;rw [if_neg hb,if_pos hp]
      rw [e1];rw [if_neg hb,if_pos hp] at hrd;clear e1 hb hp;go_enter func16,ntmps16;go_wp2_with (first
        | (go_at_call 61;refine hrd.mono ?_;rintro e w' ⟨rfl,hw⟩;have hw:=hw.symm;subst hw)
        | go_in)
      go_ret;exact ⟨rfl,h,Dw.Mv.refl (· =S) _⟩
end
end Go.Proofs
namespace Go.Proofs
open Go.Dw Go.RowKit Go.Maps Go.Sort Go.Deep
section
variable {fns fns':List Nat} {nw nw':Prop} {A A':Nat→Prop} {w w':World} {S P L Bs B I N:Nat} {r:Tryz.Rg} {s s':Tryz.DS} {g g':Nat→Int}
set_option maxRecDepth 100000 in
theorem Tryz.zo9 (hd:DW A w S P L Bs B I N r s g) (hb:s.br=false) (hp:s.ph≠0) {fn:Nat} {rest:List Nat} (hen: ∀args w,(callFunc fn args).run prog w= .ok (.enter fn args) w) (hf:dFns s.ph=fn::rest) {k wh i:Int} {fns1:List Nat} {nw1:Prop} {s1:DS} {g1:Nat→Int}
    (hcall: ∀A1 w1,DWf rest (1≤s.ph∧s.ph≤5) A1 w1 S P L Bs B I N r s g→Calls prog fn #[.pointer (some ⟨S,0,none⟩)] w1 fun e w'=>e= .returned (.tuple #[.agg #[.int .i64 k,.int .i64 wh,.int .i64 i],.bool true])∧DWf fns1 nw1 A1 w' S P L Bs B I N r s1 g1∧Dw.Mv (dK S I B) w1 w'):
    Calls prog 25 #[.pointer (some ⟨S,0,none⟩)] w fun e w'=>e= .returned (.tuple #[.agg #[.int .i64 k,.int .i64 wh,.int .i64 i],.int .i64 0])∧DWf fns1 nw1 A w' S P L Bs B I N r { s1 with dn:=decide (fns1.length=0) } g1∧Dw.Mv (dK S I B) w w':=by
  have h:=hd.f;have hlt:=h.mvNe;have hbx:=(Below.refl w.heap.size w).alloc (Nat.le_refl _) (Obj.cells #[.int .i64 0,.int .i64 0,.int .i64 0] 54);have k2:=Cl.new w #[.int .i64 0,.int .i64 0,.int .i64 0] 54;have he:=zhz (hd.below hbx);have hz:=zdy (hd.below hbx);rw [hb,if_neg (by decide)] at he;rw [decide_eq_true hp] at hz;have hX:=h.box (Obj.cells #[.int .i64 0,.int .i64 0,.int .i64 0] 54);obtain ⟨stv,nowv,sgv,puv,oX,hstv,hrest⟩:=hX.obj;obtain ⟨sa,c,rfl,hsc,hsr⟩:=hstv;rw [hf] at hsc;rw [hf,List.length_cons] at oX;obtain ⟨R,o,rfl,hRA,hRr⟩:=hsr.resolve_left (by rw [hf];intro e;cases e);rw [hf] at hRr;have hRS:R≠S:=fun q=>hRA (.inl (q▸h.aS));rw [List.length_cons] at hsc;obtain ⟨o1,c1,ho1⟩: ∃o1 c1,(c=1∧o1=o∧c1=0)∨(c≠1∧o1=o+1∧c1=c-1):=by
    by_cases q:c=1
    · exact ⟨o,0,.inl ⟨q,rfl,rfl⟩⟩
    · exact ⟨o+1,c-1,.inr ⟨q,rfl,rfl⟩⟩
  have hst2:StepV (fun b=>A b∨b=w.heap.size) (w.alloc (Obj.cells #[.int .i64 0,.int .i64 0,.int .i64 0] 54)) S (.slice (some ⟨R,o1,none⟩) rest.length c1) rest:=⟨_,_,rfl,by omega,by
    rcases ho1 with ⟨q,_,_⟩|⟨_,q,_⟩
    · exact .inl (List.length_eq_zero_iff.1 (by omega))
    · refine .inr ⟨R,o1,rfl,hRA,fun j y hy=> ?_⟩;have:=hRr (j+1) y (by rw [List.map_cons,List.getElem?_cons_succ];exact hy)
      rwa [q,show o+1+j=o+(j+1) by omega]⟩
  have h2:=hX.setStep hst2;have hmS:Dw.Mv (· =S) (w.alloc (Obj.cells #[.int .i64 0,.int .i64 0,.int .i64 0] 54)) ((w.alloc (Obj.cells #[.int .i64 0,.int .i64 0,.int .i64 0] 54)).setCell ⟨S,16,none⟩ (.slice (some ⟨R,o1,none⟩) rest.length c1)):=zaj (K:=(· =S)) (zaa (Below.refl _ _)) S 16 _ rfl;have x16:=oX.cell 16 _ rfl;have f16:=oX.free 16;have r0:(w.alloc (Obj.cells #[.int .i64 0,.int .i64 0,.int .i64 0] 54)).cell? ⟨R,o,none⟩=some (.func (.func fn) #[.pointer (some ⟨S,0,none⟩)] #[]):=hRr 0 _ rfl;have hsz:w.heap.size<(w.alloc (Obj.cells #[.int .i64 0,.int .i64 0,.int .i64 0] 54)).heap.size:=by simp
  have hne:w.heap.size≠S∧w.heap.size≠I∧w.heap.size≠P∧w.heap.size≠L∧w.heap.size≠Bs∧w.heap.size≠B:=⟨by omega,by omega,by omega,by omega,by omega,by omega⟩;have k3:=k2.kept (hmS.block _ k2.lt hne.1);have hc1:(0:Int)<(rest.length:Int)+1:=by omega
  have hc2:(1:Int)≤(rest.length:Int)+1:=by omega
  have hc3:(rest.length:Int)+1≤(c:Int):=by omega
  have hh:=hcall _ _ h2;have hdkm: ∀b,b<(w.alloc (Obj.cells #[.int .i64 0,.int .i64 0,.int .i64 0] 54)).heap.size→b≠S→b≠I→b≠B→ ∀ {w3:World},Dw.Mv (dK S I B) ((w.alloc (Obj.cells #[.int .i64 0,.int .i64 0,.int .i64 0] 54)).setCell ⟨S,16,none⟩ (.slice (some ⟨R,o1,none⟩) rest.length c1)) w3→w3.heap[b]? =((w.alloc (Obj.cells #[.int .i64 0,.int .i64 0,.int .i64 0] 54)).setCell ⟨S,16,none⟩ (.slice (some ⟨R,o1,none⟩) rest.length c1)).heap[b]? :=fun b hb1 n1 n2 n3 {w3} hm=>hm.block b (by have:=hmS.size;omega) fun q=>by rcases q with q|q|q<;>contradiction
  have hbxm:=zaa (K:=dK S I B) hbx;clear hRr hst2 hX hsr hrest hcall hf hlt hsz hbx hsc;rcases ho1 with ⟨rfl,rfl,rfl⟩|⟨hc4,rfl,rfl⟩
  all_goals
    go_enter func25,ntmps25;go_wp2_with (first
      | (go_at_call 34;refine he.mono ?_;rintro e w' ⟨rfl,hw⟩;have hw:=hw.symm;subst hw)
      | (go_at_call 33;refine hz.mono ?_;rintro e w' ⟨rfl,hw⟩;have hw:=hw.symm;subst hw)
      | (refine hh.mono ?_;rintro en w3 ⟨rfl,h3,hm3⟩;have k4:=k3.kept (hdkm _ k2.lt hne.1 hne.2.1 hne.2.2.2.2.2 hm3);have hbY:=(Below.refl w3.heap.size w3).alloc (Nat.le_refl _) (Obj.cells #[.int .i64 k,.int .i64 wh,.int .i64 i] 54);have h4:=h3.below hbY;have y4:=Cl.new w3 #[.int .i64 k,.int .i64 wh,.int .i64 i] 54;have k5:=k4.below hbY k4.lt;have hyn:w3.heap.size≠w.heap.size:=fun q=>Nat.lt_irrefl _ (q▸k4.lt);have hyS:w3.heap.size≠S:=fun q=>Nat.lt_irrefl _ (q▸h3.lt S h3.aS);obtain ⟨stv1,nowv1,sgv1,puv1,o4,⟨sa1,cc1,rfl,hz1,hz2⟩,hz3⟩:=h4.obj;clear hz1 hz2 hz3;have v16:=o4.cell 16 _ rfl;have v25:=o4.cell 25 _ rfl;have fv25:=o4.free 25;have h5:=h4.setRow (s':= { s1 with dn:=((fns1.length:Int)==0) }) 25 (.bool ((fns1.length:Int)==0)) (by decide) (fun _ _ _ _=>rfl) rfl rfl rfl rfl;have hm5:Dw.Mv (· =S) (w3.alloc (Obj.cells #[.int .i64 k,.int .i64 wh,.int .i64 i] 54)) ((w3.alloc (Obj.cells #[.int .i64 k,.int .i64 wh,.int .i64 i] 54)).setCell ⟨S,25,none⟩ (.bool ((fns1.length:Int)==0))):=zaj (K:=(· =S)) (zaa (Below.refl _ _)) S 25 _ rfl;have k6:=k5.kept (hm5.block _ k5.lt hne.1);have y6:=y4.kept (hm5.block _ y4.lt hyS);have z0:=y6.cell 0 _ rfl;have z1:=y6.cell 1 _ rfl;have z2:=y6.cell 2 _ rfl;have b0:=k6.cell 0 _ rfl;have b1:=k6.cell 1 _ rfl;have b2:=k6.cell 2 _ rfl;have q0:=k6.free 0;have q1:=k6.free 1;have q2:=k6.free 2;have hmv:=(((hbxm.trans (hmS.mono fun b q=> .inl q)).trans hm3).trans (zaa hbY)).trans (hm5.mono fun b q=> .inl q))
      | go_in)
    have hq:((fns1.length:Int)==0)=decide (fns1.length=0):=by rw [Bool.eq_iff_iff];simp
    have h5f:=h5.alt (s':= { s1 with dn:=decide (fns1.length=0) }) (fun _ _ _ _=>by unfold DS.row;simp only [hq]) rfl rfl rfl rfl;have kA:=(((k6.set 0 (.int .i64 k) (by simp)).set 1 (.int .i64 wh) (by simp)).set 2 (.int .i64 i) (by simp));refine bodyPost_ret (zaB rfl _ _ w.heap.size [.int .i64 k,.int .i64 wh,.int .i64 i] _ rfl (fun j y hy=>by rw [Nat.zero_add];exact kA.cell j y hy) underlying54 rfl (by kernel_rfl)) rfl ?_;exact ⟨rfl,h5f.fin h.aS h.aI h.aB ⟨by omega,by omega,by omega,by omega,by omega,by omega⟩ (zaj (zaj (zaj (zaa (K:=(· =w.heap.size)) (Below.refl _ _)) w.heap.size 0 _ rfl) w.heap.size 1 _ rfl) w.heap.size 2 _ rfl),zai (zai (zai (hmv) w.heap.size 0 _ (.inr (Nat.le_refl _))) w.heap.size 1 _ (.inr (Nat.le_refl _))) w.heap.size 2 _ (.inr (Nat.le_refl _))⟩
set_option maxRecDepth 100000 in
theorem Tryz.zpa (hd:DW A w S P L Bs B I N r s g) (hb:s.br=false) (hp:s.ph≠0) {fn:Nat} {rest:List Nat} (hen: ∀args w,(callFunc fn args).run prog w= .ok (.enter fn args) w) (hf:dFns s.ph=fn::rest) {k wh i:Int} {fns1:List Nat} {nw1:Prop} {s1:DS} {g1:Nat→Int}
    (hcall: ∀A1 w1,DWf rest (1≤s.ph∧s.ph≤5) A1 w1 S P L Bs B I N r s g→Calls prog fn #[.pointer (some ⟨S,0,none⟩)] w1 fun e w'=>e= .returned (.tuple #[.agg #[.int .i64 k,.int .i64 wh,.int .i64 i],.bool false])∧DWf fns1 nw1 A1 w' S P L Bs B I N r s1 g1∧Dw.Mv (dK S I B) w1 w'):
    Calls prog 25 #[.pointer (some ⟨S,0,none⟩)] w fun e w'=>e= .returned (.tuple #[.agg #[.int .i64 k,.int .i64 wh,.int .i64 i],.int .i64 4])∧DWf [] nw1 A w' S P L Bs B I N r { s1 with br:=true,op:=0,nn:=false,tok:=0,wr:=0,kk:=false } g1∧Dw.Mv (dK S I B) w w':=by
  have h:=hd.f;have hlt:=h.mvNe;have hbx:=(Below.refl w.heap.size w).alloc (Nat.le_refl _) (Obj.cells #[.int .i64 0,.int .i64 0,.int .i64 0] 54);have k2:=Cl.new w #[.int .i64 0,.int .i64 0,.int .i64 0] 54;have he:=zhz (hd.below hbx);have hz:=zdy (hd.below hbx);rw [hb,if_neg (by decide)] at he;rw [decide_eq_true hp] at hz;have hX:=h.box (Obj.cells #[.int .i64 0,.int .i64 0,.int .i64 0] 54);obtain ⟨stv,nowv,sgv,puv,oX,hstv,hrest⟩:=hX.obj;obtain ⟨sa,c,rfl,hsc,hsr⟩:=hstv;rw [hf] at hsc;rw [hf,List.length_cons] at oX;obtain ⟨R,o,rfl,hRA,hRr⟩:=hsr.resolve_left (by rw [hf];intro e;cases e);rw [hf] at hRr;have hRS:R≠S:=fun q=>hRA (.inl (q▸h.aS));rw [List.length_cons] at hsc;obtain ⟨o1,c1,ho1⟩: ∃o1 c1,(c=1∧o1=o∧c1=0)∨(c≠1∧o1=o+1∧c1=c-1):=by
    by_cases q:c=1
    · exact ⟨o,0,.inl ⟨q,rfl,rfl⟩⟩
    · exact ⟨o+1,c-1,.inr ⟨q,rfl,rfl⟩⟩
  have hst2:StepV (fun b=>A b∨b=w.heap.size) (w.alloc (Obj.cells #[.int .i64 0,.int .i64 0,.int .i64 0] 54)) S (.slice (some ⟨R,o1,none⟩) rest.length c1) rest:=⟨_,_,rfl,by omega,by
    rcases ho1 with ⟨q,_,_⟩|⟨_,q,_⟩
    · exact .inl (List.length_eq_zero_iff.1 (by omega))
    · refine .inr ⟨R,o1,rfl,hRA,fun j y hy=> ?_⟩;have:=hRr (j+1) y (by rw [List.map_cons,List.getElem?_cons_succ];exact hy)
      rwa [q,show o+1+j=o+(j+1) by omega]⟩
  have h2:=hX.setStep hst2;have hmS:Dw.Mv (· =S) (w.alloc (Obj.cells #[.int .i64 0,.int .i64 0,.int .i64 0] 54)) ((w.alloc (Obj.cells #[.int .i64 0,.int .i64 0,.int .i64 0] 54)).setCell ⟨S,16,none⟩ (.slice (some ⟨R,o1,none⟩) rest.length c1)):=zaj (K:=(· =S)) (zaa (Below.refl _ _)) S 16 _ rfl;have x16:=oX.cell 16 _ rfl;have f16:=oX.free 16;have r0:(w.alloc (Obj.cells #[.int .i64 0,.int .i64 0,.int .i64 0] 54)).cell? ⟨R,o,none⟩=some (.func (.func fn) #[.pointer (some ⟨S,0,none⟩)] #[]):=hRr 0 _ rfl;have hsz:w.heap.size<(w.alloc (Obj.cells #[.int .i64 0,.int .i64 0,.int .i64 0] 54)).heap.size:=by simp
  have hne:w.heap.size≠S∧w.heap.size≠I∧w.heap.size≠P∧w.heap.size≠L∧w.heap.size≠Bs∧w.heap.size≠B:=⟨by omega,by omega,by omega,by omega,by omega,by omega⟩;have k3:=k2.kept (hmS.block _ k2.lt hne.1);have hc1:(0:Int)<(rest.length:Int)+1:=by omega
  have hc2:(1:Int)≤(rest.length:Int)+1:=by omega
  have hc3:(rest.length:Int)+1≤(c:Int):=by omega
  have hh:=hcall _ _ h2;have hdkm: ∀b,b<(w.alloc (Obj.cells #[.int .i64 0,.int .i64 0,.int .i64 0] 54)).heap.size→b≠S→b≠I→b≠B→ ∀ {w3:World},Dw.Mv (dK S I B) ((w.alloc (Obj.cells #[.int .i64 0,.int .i64 0,.int .i64 0] 54)).setCell ⟨S,16,none⟩ (.slice (some ⟨R,o1,none⟩) rest.length c1)) w3→w3.heap[b]? =((w.alloc (Obj.cells #[.int .i64 0,.int .i64 0,.int .i64 0] 54)).setCell ⟨S,16,none⟩ (.slice (some ⟨R,o1,none⟩) rest.length c1)).heap[b]? :=fun b hb1 n1 n2 n3 {w3} hm=>hm.block b (by have:=hmS.size;omega) fun q=>by rcases q with q|q|q<;>contradiction
  have hbxm:=zaa (K:=dK S I B) hbx;clear hRr hst2 hX hsr hrest hcall hf hlt hsz hbx hsc;rcases ho1 with ⟨rfl,rfl,rfl⟩|⟨hc4,rfl,rfl⟩
  all_goals
    go_enter func25,ntmps25;go_wp2_with (first
      | (go_at_call 34;refine he.mono ?_;rintro e w' ⟨rfl,hw⟩;have hw:=hw.symm;subst hw)
      | (go_at_call 33;refine hz.mono ?_;rintro e w' ⟨rfl,hw⟩;have hw:=hw.symm;subst hw)
      | (refine hh.mono ?_;rintro en w3 ⟨rfl,h3,hm3⟩;have k4:=k3.kept (hdkm _ k2.lt hne.1 hne.2.1 hne.2.2.2.2.2 hm3);have hbY:=(Below.refl w3.heap.size w3).alloc (Nat.le_refl _) (Obj.cells #[.int .i64 k,.int .i64 wh,.int .i64 i] 54);have h4:=h3.below hbY;have y4:=Cl.new w3 #[.int .i64 k,.int .i64 wh,.int .i64 i] 54;have k5:=k4.below hbY k4.lt;have hyn:w3.heap.size≠w.heap.size:=fun q=>Nat.lt_irrefl _ (q▸k4.lt);have hyS:w3.heap.size≠S:=fun q=>Nat.lt_irrefl _ (q▸h3.lt S h3.aS);obtain ⟨stv1,nowv1,sgv1,puv1,o4,⟨sa1,cc1,rfl,hz1,hz2⟩,hz3⟩:=h4.obj;clear hz1 hz2 hz3;have v16:=o4.cell 16 _ rfl;have fv16:=o4.free 16;have v20:=o4.cell 20 _ rfl;have fv20:=o4.free 20;have v21:=o4.cell 21 _ rfl;have fv21:=o4.free 21;have v22:=o4.cell 22 _ rfl;have fv22:=o4.free 22;have v23:=o4.cell 23 _ rfl;have fv23:=o4.free 23;have v24:=o4.cell 24 _ rfl;have fv24:=o4.free 24;have v26:=o4.cell 26 _ rfl;have fv26:=o4.free 26;have h5:=(((((((h4.setRow (s':= { s1 with br:=true }) 26 (.bool true) (by decide) (fun _ _ _ _=>rfl) rfl rfl rfl rfl).setStep (stv':= .slice none 0 0) (fns':= []) ⟨none,0,rfl,Nat.le_refl _,.inl rfl⟩).setRow (s':= { s1 with br:=true,op:=0 }) 20 (.int .i64 0) (by decide) (fun _ _ _ _=>rfl) rfl rfl rfl rfl).setRow (s':= { s1 with br:=true,op:=0,nn:=false }) 21 (.bool false) (by decide) (fun _ _ _ _=>rfl) rfl rfl rfl rfl).setRow (s':= { s1 with br:=true,op:=0,nn:=false,tok:=0 }) 22 (.int .i64 0) (by decide) (fun _ _ _ _=>rfl) rfl rfl rfl rfl).setRow (s':= { s1 with br:=true,op:=0,nn:=false,tok:=0,wr:=0 }) 23 (.int .u32 0) (by decide) (fun _ _ _ _=>rfl) rfl rfl rfl rfl).setRow (s':= { s1 with br:=true,op:=0,nn:=false,tok:=0,wr:=0,kk:=false }) 24 (.bool false) (by decide) (fun _ _ _ _=>rfl) rfl rfl rfl rfl);have hm5:Dw.Mv (· =S) (w3.alloc (Obj.cells #[.int .i64 k,.int .i64 wh,.int .i64 i] 54)) ((((((((w3.alloc (Obj.cells #[.int .i64 k,.int .i64 wh,.int .i64 i] 54)).setCell ⟨S,26,none⟩ (.bool true)).setCell ⟨S,16,none⟩ (.slice none 0 0)).setCell ⟨S,20,none⟩ (.int .i64 0)).setCell ⟨S,21,none⟩ (.bool false)).setCell ⟨S,22,none⟩ (.int .i64 0)).setCell ⟨S,23,none⟩ (.int .u32 0)).setCell ⟨S,24,none⟩ (.bool false)):=zaj (K:=(· =S)) (zaj (K:=(· =S)) (zaj (K:=(· =S)) (zaj (K:=(· =S)) (zaj (K:=(· =S)) (zaj (K:=(· =S)) (zaj (K:=(· =S)) (zaa (K:=(· =S)) (Below.refl (w3.alloc (Obj.cells #[.int .i64 k,.int .i64 wh,.int .i64 i] 54)).heap.size (w3.alloc (Obj.cells #[.int .i64 k,.int .i64 wh,.int .i64 i] 54)))) S 26 (.bool true) rfl) S 16 (.slice none 0 0) rfl) S 20 (.int .i64 0) rfl) S 21 (.bool false) rfl) S 22 (.int .i64 0) rfl) S 23 (.int .u32 0) rfl) S 24 (.bool false) rfl;have k6:=k5.kept (hm5.block _ k5.lt hne.1);have y6:=y4.kept (hm5.block _ y4.lt hyS);have z0:=y6.cell 0 _ rfl;have z1:=y6.cell 1 _ rfl;have z2:=y6.cell 2 _ rfl;have b0:=k6.cell 0 _ rfl;have b1:=k6.cell 1 _ rfl;have b2:=k6.cell 2 _ rfl;have q0:=k6.free 0;have q1:=k6.free 1;have q2:=k6.free 2;have hmv:=(((hbxm.trans (hmS.mono fun b q=> .inl q)).trans hm3).trans (zaa hbY)).trans (hm5.mono fun b q=> .inl q))
      | go_in)
    have kA:=(((k6.set 0 (.int .i64 k) (by simp)).set 1 (.int .i64 wh) (by simp)).set 2 (.int .i64 i) (by simp));refine bodyPost_ret (zaB rfl _ _ w.heap.size [.int .i64 k,.int .i64 wh,.int .i64 i] _ rfl (fun j y hy=>by rw [Nat.zero_add];exact kA.cell j y hy) underlying54 rfl (by kernel_rfl)) rfl ?_;exact ⟨rfl,h5.fin h.aS h.aI h.aB ⟨by omega,by omega,by omega,by omega,by omega,by omega⟩ (zaj (zaj (zaj (zaa (K:=(· =w.heap.size)) (Below.refl _ _)) w.heap.size 0 _ rfl) w.heap.size 1 _ rfl) w.heap.size 2 _ rfl),zai (zai (zai (hmv) w.heap.size 0 _ (.inr (Nat.le_refl _))) w.heap.size 1 _ (.inr (Nat.le_refl _))) w.heap.size 2 _ (.inr (Nat.le_refl _))⟩
end
end Go.Proofs
namespace Go.Proofs
open Go.Dw Go.RowKit Go.Maps Go.Sort Go.Deep
structure Tryz.DI (s:DS):Prop where
 se:1≤s.ph→s.ph≤5→zbc s.sg=0
 kk:1≤s.ph→s.ph≤5→s.kk=false
theorem Tryz.DI.fresh (ev tb:Bool) (n:Int):DI (DS.fresh ev tb n):=⟨fun h=>absurd h (by show¬1≤0;decide),fun h=>absurd h (by show¬1≤0;decide)⟩
theorem Tryz.DI.late {s:DS} (h:s.ph=0∨6≤s.ph):DI s:=⟨fun h1 h2=>by omega,fun h1 h2=>by omega⟩
theorem Tryz.DI.recl {s:DS} (h:DI s):DI (zcM s).2:=by
 unfold zcM;split
 ·exact h
 ·split
  ·exact h
  ·exact DI.late (.inr (by show 6≤11;decide))
theorem Tryz.DI.off {s:DS} {N:Nat} {n t:Int} {l:List Sg} (h:DI s):DI (za3 N n s t l).2:=by
 unfold za3;split
 ·exact h
 ·split
  ·exact h
  ·split
   ·exact h
   ·split
    ·exact h
    ·rename_i hin;split
     ·exact h
     ·rename_i hl0;simp only;split
      ·exact h
      ·refine ⟨fun _ _=> ?_,fun _ _=>rfl⟩;show zbc l=0;have h1:=(zbV (Decidable.not_not.1 hin)).2;unfold zbc;rw [h1,if_neg (by decide),if_neg hl0]
theorem Tryz.DI.step {r:Rg} {s:DS} {g:Nat→Int} (h:DI s) (hb:DB r s):DI (zaO r s g).2.2.1:=by
 unfold zaO;split
 ·exact h
 ·split
  ·exact h
  ·rename_i hb0 hp;have hph:=hb.ph;have hcs:s.ph=1∨s.ph=2∨s.ph=3∨s.ph=4∨s.ph=5∨s.ph=11∨s.ph=12∨s.ph=13∨s.ph=14∨s.ph=15∨s.ph=16:=by omega
   have go: ∀k,(1≤s.ph∧s.ph≤5)→DI (s.goto k):=fun k q=>⟨fun _ _=>h.se q.1 q.2,fun _ _=>h.kk q.1 q.2⟩;rcases hcs with q|q|q|q|q|q|q|q|q|q|q<;>rw [q]<;>unfold zgd<;>simp only
   ·exact go 2 (by omega)
   ·exact go 3 (by omega)
   ·exact go 4 (by omega)
   ·exact go 5 (by omega)
   ·exact DI.late (.inl rfl)
   ·split
    ·exact DI.late (.inr (by show 6≤15;decide))
    ·split
     ·exact DI.late (.inr (by show 6≤12;decide))
     ·exact DI.late (.inl rfl)
   ·exact DI.late (.inr (by show 6≤13;decide))
   ·exact DI.late (.inr (by show 6≤14;decide))
   ·split
    ·exact DI.late (.inr (by show 6≤15;decide))
    ·exact DI.late (.inl rfl)
   ·exact DI.late (.inr (by show 6≤16;decide))
   ·split
    ·exact DI.late (.inl rfl)
    ·exact DI.late (.inl rfl)
section
variable {fns fns':List Nat} {nw nw':Prop} {A A':Nat→Prop} {w w':World} {S P L Bs B I N:Nat} {r:Tryz.Rg} {s s':Tryz.DS} {g g':Nat→Int}
set_option maxRecDepth 100000 in
theorem Tryz.zjZ (h:DW A w S P L Bs B I N r s g) (hb:s.br=true∨s.ph=0):
    Calls prog 25 #[.pointer (some ⟨S,0,none⟩)] w fun e w'=>e= .returned (.tuple #[.agg #[.int .i64 0,.int .i64 0,.int .i64 0],.int .i64 (if s.br then 4 else 8)])∧DW A w' S P L Bs B I N r s g∧Dw.Mv (dK S I B) w w':=by
  have hbx:=(Below.refl w.heap.size w).alloc (Nat.le_refl _) (Obj.cells #[.int .i64 0,.int .i64 0,.int .i64 0] 54);have k2:=Cl.new w #[.int .i64 0,.int .i64 0,.int .i64 0] 54;have hX:=h.below hbx;have he:=zhz hX;have hz:=zdy hX;have hm2:=zaa (K:=dK S I B) hbx;by_cases hbr:s.br=true
  · rw [hbr] at he ⊢;go_enter func25,ntmps25;go_wp2_with (first
      | (go_at_call 34;refine he.mono ?_;rintro e w' ⟨rfl,hw⟩;have hw:=hw.symm;subst hw)
      | go_in)
    refine bodyPost_ret (zaB rfl _ _ w.heap.size [.int .i64 0,.int .i64 0,.int .i64 0] _ rfl (fun j y hy=>by rw [Nat.zero_add];exact k2.cell j y hy) underlying54 rfl (by kernel_rfl)) rfl ?_;exact ⟨rfl,hX,hm2⟩
  · have hbf:s.br=false:=by simpa using hbr
    have hp:s.ph=0:=hb.resolve_left hbr;rw [hbf] at he ⊢;rw [hp] at hz;clear hb hbr hbf hp;go_enter func25,ntmps25;go_wp2_with (first
      | (go_at_call 34;refine he.mono ?_;rintro e w' ⟨rfl,hw⟩;have hw:=hw.symm;subst hw)
      | (go_at_call 33;refine hz.mono ?_;rintro e w' ⟨rfl,hw⟩;have hw:=hw.symm;subst hw)
      | go_in)
    refine bodyPost_ret (zaB rfl _ _ w.heap.size [.int .i64 0,.int .i64 0,.int .i64 0] _ rfl (fun j y hy=>by rw [Nat.zero_add];exact k2.cell j y hy) underlying54 rfl (by kernel_rfl)) rfl ?_;exact ⟨rfl,hX,hm2⟩
theorem Tryz.dk_S {w w':World} (h:Dw.Mv (· =S) w w'):Dw.Mv (dK S I B) w w':=h.mono fun _ q=> .inl q
theorem Tryz.dk_B {w w':World} (h:Dw.Mv (· =B) w w'):Dw.Mv (dK S I B) w w':=h.mono fun _ q=> .inr (.inr q)
set_option maxRecDepth 100000 in
theorem Tryz.zrA (h:DW A w S P L Bs B I N r s g) (hi:DI s):
  Calls prog 25 #[.pointer (some ⟨S,0,none⟩)] w fun e w'=>e= .returned (.tuple #[(zaO r s g).1,.int .i64 (zaO r s g).2.1])∧DW A w' S P L Bs B I N r (zaO r s g).2.2.1 (zaO r s g).2.2.2∧Dw.Mv (dK S I B) w w':=by
 have hbn:=h.f.rg.bnd;have hpb:=h.pb.step (g:=g) h.f.mem.byte ⟨hbn.1,by omega⟩;unfold zaO at hpb ⊢;by_cases hb:s.br=true
 ·have:=zjZ h (.inl hb);rw [if_pos hb]
  rwa [if_pos hb] at this
 ·rw [if_neg hb] at hpb ⊢;by_cases hp:s.ph=0
  ·have:=zjZ h (.inr hp);rw [if_pos hp]
   rwa [if_neg hb] at this
  ·rw [if_neg hp] at hpb ⊢;have hbf:s.br=false:=by simpa using hb
   have hph:=h.pb.ph;have hcs:s.ph=1∨s.ph=2∨s.ph=3∨s.ph=4∨s.ph=5∨s.ph=11∨s.ph=12∨s.ph=13∨s.ph=14∨s.ph=15∨s.ph=16:=by omega
   have hgen:=fun {fn:Nat} {rest:List Nat} hen hf {k wh i:Int} {fns1:List Nat} {nw1:Prop} {s1:DS} {g1:Nat→Int} hcall=>zo9 (fn:=fn) (rest:=rest) (k:=k) (wh:=wh) (i:=i) (fns1:=fns1) (nw1:=nw1) (s1:=s1) (g1:=g1) h hbf hp hen hf hcall;have fin: ∀ {k wh i:Int} {fns1:List Nat} {nw1:Prop} {s1 s2:DS} {g1:Nat→Int},DB r s2→fns1=dFns s2.ph→(1≤s2.ph∧s2.ph≤5→nw1)→s2= { s1 with dn:=decide (fns1.length=0),ph:=s2.ph }→Calls prog 25 #[.pointer (some ⟨S,0,none⟩)] w (fun e w'=>e= .returned (.tuple #[.agg #[.int .i64 k,.int .i64 wh,.int .i64 i],.int .i64 0])∧DWf fns1 nw1 A w' S P L Bs B I N r { s1 with dn:=decide (fns1.length=0) } g1∧Dw.Mv (dK S I B) w w')→Calls prog 25 #[.pointer (some ⟨S,0,none⟩)] w fun e w'=>e= .returned (.tuple #[.agg #[.int .i64 k,.int .i64 wh,.int .i64 i],.int .i64 0])∧DW A w' S P L Bs B I N r s2 g1∧Dw.Mv (dK S I B) w w':=fun {k wh i fns1 nw1 s1 s2 g1} q1 q2 q3 q4 hc=>hc.mono fun e w' hh=>by
    obtain ⟨a,b,c⟩:=hh;refine ⟨a,⟨?_,q1⟩,c⟩;rw [←q2];exact (b.nwMono q3).alt (fun _ _ _ _=>by rw [q4];rfl) (by rw [q4]) (by rw [q4]) (by rw [q4]) (by rw [q4])
   rcases hcs with q|q|q|q|q|q|q|q|q|q|q
   all_goals
    rw [q] at hpb ⊢;unfold zgd at hpb ⊢;simp only at hpb ⊢
   ·have hc:=h.pb.c (by omega) (by omega);have hpu:=h.pb.pu (by omega) (by omega);exact fin hpb rfl (fun z=>⟨by omega,by omega⟩) rfl (hgen (fn:=70) (fun args w=>Dw.zar (w:=w) (Dw.enters_of (by kernel_rfl)) args) (by rw [q];rfl) (s1:=s) (fns1:=dFns 2) fun A1 w1 h1=>(zq4 h1 (by omega) (h.pb.el _ hc).1 hpu.1 hpu.2 h.pb.ps h.pb.sg.1 (hi.se (by omega) (by omega))).mono fun e w' hh=>⟨hh.1,hh.2.1,dk_B hh.2.2⟩)
   ·exact fin hpb rfl (fun z=>⟨by omega,by omega⟩) rfl (hgen (fn:=71) (fun args w=>Dw.zar (w:=w) (Dw.enters_of (by kernel_rfl)) args) (by rw [q];rfl) (s1:=s) (fns1:=dFns 3) fun A1 w1 h1=>(zep S w1).mono fun e w' hh=>⟨hh.1,h1.below hh.2,zaa hh.2⟩)
   ·have hpu:=(h.pb.pu (by omega) (by omega)).1;have h0:s.pu0∈s.pu:=by
     have:=znx s.pu hpu ⟨0,0,0,0,0⟩;have e:s.pu0=s.pu[0]:=this.symm;rw [e];exact List.getElem_mem hpu
    exact fin hpb rfl (fun z=>⟨by omega,by omega⟩) rfl (hgen (fn:=72) (fun args w=>Dw.zar (w:=w) (Dw.enters_of (by kernel_rfl)) args) (by rw [q];rfl) (s1:=s) (fns1:=dFns 4) fun A1 w1 h1=>(zqH h1 hpu (h.pb.ps _ h0)).mono fun e w' hh=>⟨hh.1,hh.2.1,dk_B hh.2.2⟩)
   ·exact fin hpb rfl (fun z=>⟨by omega,by omega⟩) rfl (hgen (fn:=71) (fun args w=>Dw.zar (w:=w) (Dw.enters_of (by kernel_rfl)) args) (by rw [q];rfl) (s1:=s) (fns1:=dFns 5) fun A1 w1 h1=>(zep S w1).mono fun e w' hh=>⟨hh.1,h1.below hh.2,zaa hh.2⟩)
   ·have hc:=(h.pb.el _ (h.pb.c (by omega) (by omega))).2.2;exact fin hpb rfl (fun z=>absurd z.1 (by show¬1≤0;decide)) rfl (hgen (fn:=73) (fun args w=>Dw.zar (w:=w) (Dw.enters_of (by kernel_rfl)) args) (by rw [q];rfl) (fns1:=dFns 0) fun A1 w1 h1=>(zsw h1 (by omega) h.pb.nx hc (hi.kk (by omega) (by omega))).mono fun e w' hh=>⟨hh.1,hh.2.1,dk_S hh.2.2⟩)
   ·by_cases hu:zdD g s=true
    ·rw [if_pos hu] at hpb ⊢;exact fin hpb rfl (fun z=>absurd z.2 (by show¬15≤5;decide)) rfl (hgen (fn:=79) (fun args w=>Dw.zar (w:=w) (Dw.enters_of (by kernel_rfl)) args) (by rw [q];rfl) (s1:=s) (fns1:=dFns 15) fun A1 w1 h1=>(zjg h1 h.pb.sx (.inl ⟨hu,rfl,rfl⟩)).mono fun e w' hh=>⟨hh.1,hh.2.1,dk_S hh.2.2⟩)
    ·rw [if_neg hu] at hpb ⊢;have huf:zdD g s=false:=by simpa using hu
     by_cases hv:s.ev=true
     ·rw [if_pos hv] at hpb ⊢;exact fin hpb rfl (fun z=>absurd z.2 (by show¬12≤5;decide)) rfl (hgen (fn:=79) (fun args w=>Dw.zar (w:=w) (Dw.enters_of (by kernel_rfl)) args) (by rw [q];rfl) (s1:=s) (fns1:=dFns 12) fun A1 w1 h1=>(zjg h1 h.pb.sx (.inr (.inl ⟨huf,hv,rfl,rfl⟩))).mono fun e w' hh=>⟨hh.1,hh.2.1,dk_S hh.2.2⟩)
     ·rw [if_neg hv] at hpb ⊢;have hvf:s.ev=false:=by simpa using hv
      exact fin hpb rfl (fun z=>absurd z.1 (by show¬1≤0;decide)) rfl (hgen (fn:=79) (fun args w=>Dw.zar (w:=w) (Dw.enters_of (by kernel_rfl)) args) (by rw [q];rfl) (s1:= { s with nn:=true }) (fns1:= []) fun A1 w1 h1=>(zjg h1 h.pb.sx (.inr (.inr ⟨huf,hvf,rfl,rfl⟩))).mono fun e w' hh=>⟨hh.1,hh.2.1,dk_S hh.2.2⟩)
   ·exact fin hpb rfl (fun z=>absurd z.2 (by show¬13≤5;decide)) rfl (hgen (fn:=127) (fun args w=>Dw.zar (w:=w) (Dw.enters_of (by kernel_rfl)) args) (by rw [q];rfl) (s1:=s) (fns1:=dFns 13) fun A1 w1 h1=>(zqL h1 h.pb.sx).mono fun e w' hh=>⟨hh.1,hh.2.1,dk_B hh.2.2⟩)
   ·exact fin hpb rfl (fun z=>absurd z.2 (by show¬14≤5;decide)) rfl (hgen (fn:=71) (fun args w=>Dw.zar (w:=w) (Dw.enters_of (by kernel_rfl)) args) (by rw [q];rfl) (s1:=s) (fns1:=dFns 14) fun A1 w1 h1=>(zep S w1).mono fun e w' hh=>⟨hh.1,h1.below hh.2,zaa hh.2⟩)
   ·by_cases hu:zdD g s=true
    ·rw [if_pos hu] at hpb ⊢;exact fin hpb rfl (fun z=>absurd z.2 (by show¬15≤5;decide)) rfl (hgen (fn:=128) (fun args w=>Dw.zar (w:=w) (Dw.enters_of (by kernel_rfl)) args) (by rw [q];rfl) (s1:=s) (fns1:=dFns 15) fun A1 w1 h1=>(zlp h1 h.pb.sx (.inl ⟨hu,rfl,rfl⟩)).mono fun e w' hh=>⟨hh.1,hh.2.1,dk_S hh.2.2⟩)
    ·rw [if_neg hu] at hpb ⊢;have huf:zdD g s=false:=by simpa using hu
     exact fin hpb rfl (fun z=>absurd z.1 (by show¬1≤0;decide)) rfl (hgen (fn:=128) (fun args w=>Dw.zar (w:=w) (Dw.enters_of (by kernel_rfl)) args) (by rw [q];rfl) (s1:= { s with nn:=true }) (fns1:= []) fun A1 w1 h1=>(zlp h1 h.pb.sx (.inr ⟨huf,rfl,rfl⟩)).mono fun e w' hh=>⟨hh.1,hh.2.1,dk_S hh.2.2⟩)
   ·exact fin hpb rfl (fun z=>absurd z.2 (by show¬16≤5;decide)) rfl (hgen (fn:=71) (fun args w=>Dw.zar (w:=w) (Dw.enters_of (by kernel_rfl)) args) (by rw [q];rfl) (s1:=s) (fns1:=dFns 16) fun A1 w1 h1=>(zep S w1).mono fun e w' hh=>⟨hh.1,h1.below hh.2,zaa hh.2⟩)
   ·cases hget:zby s.L (zac g (4096+16*s.sx+8).toNat 8/4294967296%65536) with
    | none=>
     rw [hget] at hpb;simp only at hpb ⊢;have hdn:s.dn=false:=h.pb.dn (.inl hp);refine (zpa (fn:=126) (rest:= []) h hbf hp (fun args w=>Dw.zar (w:=w) (Dw.enters_of (by kernel_rfl)) args) (by rw [q];rfl) (s1:=s) fun A1 w1 h1=>(zk7 h1 h.pb.sx (fun e he=>(h.pb.el e he).1.2) hget).mono fun e w' hh=>⟨hh.1,hh.2.1,dk_S hh.2.2⟩).mono fun e w' hh=> ?_;exact ⟨hh.1,⟨(hh.2.1.nwMono fun z=>absurd z.1 (by show¬1≤0;decide)).alt (fun _ _ _ _=>by unfold DS.row DS.brk;rw [hdn]) rfl rfl rfl rfl,hpb⟩,hh.2.2⟩
    | some e=>
     rw [hget] at hpb;simp only at hpb ⊢;obtain ⟨hm,hid⟩:=zce hget;have hel:=h.pb.el e hm;have hown:=h.pb.own;have hsum:=h.pb.sum;have hdel:=zlb hm h.pb.nd;have hpos:0≤((za8 s.L e.id).map (·.ct)).sum:=by
      have:=zbg (L:=za8 s.L e.id) fun x hx=>(h.pb.el x ((zfo _ _).subset hx)).2.2.1;omega
     exact fin hpb rfl (fun z=>absurd z.1 (by show¬1≤0;decide)) rfl (hgen (fn:=126) (fun args w=>Dw.zar (w:=w) (Dw.enters_of (by kernel_rfl)) args) (by rw [q];rfl) (fns1:= []) fun A1 w1 h1=>(zk6 h1 h.pb.sx h.pb.nd ⟨hel.1,hel.2.2⟩ ⟨hown,by omega⟩ hget rfl).mono fun e w' hh=>⟨hh.1,hh.2.1,hh.2.2.mono fun b z=>z.elim .inl fun z=> .inr (.inl z)⟩)
end
end Go.Proofs
namespace Go.Proofs
open Go.Dw Go.RowKit Go.Maps Go.Sort Go.Deep
structure Tryz.EqI (a b:Int):Prop where
 eq:a=b
def Tryz.zpt (n:Nat):List Value:= [.bool true,.int .i64 n,.int .u64 4096,.int .u64 (4096+16*n),.int .u64 (4100+16*n)]
section
variable {W0:World} {n:Nat} {d:Tryz.Ids} {r:Tryz.Rg} {x19:Nat} {c:Tryz.Dc} {w w':World} {s1 s1':Tryz.DS} {g1 g1':Nat→Int} {s2 s2':Tryz.DS} {g2 g2':Nat→Int} {p1 p2 p1' p2':List Value}
theorem Tryz.zoJ (s:DS) (g:Nat→Int): ∃x y z:Int,(zaO r s g).1= .agg #[.int .i64 x,.int .i64 y,.int .i64 z]:=by
  unfold zaO;split
  · exact ⟨_,_,_,rfl⟩
  · split
    · exact ⟨_,_,_,rfl⟩
    · unfold zgd;split
      all_goals first
        | exact ⟨_,_,_,rfl⟩
        | (simp only;split<;>exact ⟨_,_,_,rfl⟩)
theorem Tryz.OwnR.keepD {t:TypeId} {sz n:Nat} {b2:Nat} {v:Value} {cs:List Value} (h:OwnR t sz w b2 v n cs) (hb:Below w.heap.size w w'):OwnR t sz w' b2 v n cs:=OwnR.kept h fun b e=>hb.block b (OwnR.lt h b e).2
end
end Go.Proofs
namespace Go.Proofs
open Go.Dw Go.RowKit Go.Maps Go.Sort Go.Deep
structure Tryz.RdW (w0 w:World) (X b2 P L Bs B N:Nat) (g:Nat→Int) (v0 v:Value) (l:List Sg) (n e:Int):Prop where
 cl:Cl w X [.pointer (some ⟨P,0,none⟩),v,.int .i64 n,.int .i64 e]
 own:OwnSeg w b2 v l
 rm:RMm w P L Bs B N g
 lo:X<b2∧P<b2∧L<b2∧Bs<b2∧B<b2
 nx:X≠P∧X≠L∧X≠Bs∧X≠B
 b2:b2≤w0.heap.size
 mv:Dw.Mv (fun b=>b=X∨v0.ownBlock=some b) w0 w
 ob: ∀b,v.ownBlock=some b→v0.ownBlock=some b∨w0.heap.size≤b
section
variable {w0 w w':World} {X b2 P L Bs B N:Nat} {g:Nat→Int} {v0 v:Value} {l:List Tryz.Sg} {n e:Int}
theorem Tryz.RdW.below (h:RdW w0 w X b2 P L Bs B N g v0 v l n e) (hb:Below w.heap.size w w'):RdW w0 w' X b2 P L Bs B N g v0 v l n e:=
 ⟨h.cl.below hb h.cl.lt,h.own.kept fun b hh=>hb.block b (h.own.lt b hh).2.1,h.rm.below hb,h.lo,h.nx,h.b2,h.mv.trans ⟨hb.os,hb.tape,hb.output,hb.size,fun b hh _=>hb.block b hh⟩,h.ob⟩
theorem Tryz.RdW.stopped {e':Int} (h:RdW w0 w X b2 P L Bs B N g v0 v l n e) (hc:Cl w' X [.pointer (some ⟨P,0,none⟩),v,.int .i64 n,.int .i64 e']) (hm:Dw.Mv (· =X) w w'):RdW w0 w' X b2 P L Bs B N g v0 v l n e':=
 ⟨hc,h.own.kept fun b hh=>hm.block b (h.own.lt b hh).2.1 fun q=>by have:=(h.own.lt b hh).1;have:=h.lo.1;have q:b=X:=q;omega,h.rm.mvX hm h.nx,h.lo,h.nx,h.b2,h.mv.trans (hm.mono fun b q=> .inl q),h.ob⟩
theorem Tryz.RdW.segd {v':Value} {x:Sg} (h:RdW w0 w X b2 P L Bs B N g v0 v l n e) (hc:Cl w' X [.pointer (some ⟨P,0,none⟩),v',.int .i64 n,.int .i64 e]) (ho:OwnSeg w' b2 v' (l++ [x])) (hm:Dw.Mv (fun b=>b=X∨v.ownBlock=some b) w w') (hb: ∀b,v'.ownBlock=some b→v.ownBlock=some b∨w.heap.size≤b):RdW w0 w' X b2 P L Bs B N g v0 v' (l++ [x]) n e:=by
 have hs:=h.mv.size;have hlt:=h.own.lt;have hlo:=h.lo;refine ⟨hc,ho,h.rm.kept (fun k hk hq=>hm.block k hk fun q=> ?_) hm.size,h.lo,h.nx,h.b2,⟨hm.os.trans h.mv.os,hm.tape.trans h.mv.tape,hm.output.trans h.mv.output,Nat.le_trans hs hm.size,fun b hb' hn=> ?_⟩,fun b hh=> ?_⟩
 ·obtain ⟨n1,n2,n3,n4⟩:=h.nx;rcases q with q|q
  ·rw [q] at hq;rcases hq with hq|hq|hq|hq<;>contradiction
  ·have:=(hlt k q).1;omega
 ·refine (hm.block b (Nat.lt_of_lt_of_le hb' hs) fun q=> ?_).trans (h.mv.block b hb' hn);rcases q with q|q
  ·exact hn (.inl q)
  ·rcases h.ob b q with q|q
   ·exact hn (.inr q)
   ·omega
 ·rcases hb b hh with q|q
  ·exact h.ob b q
  ·exact .inr (by omega)
end
end Go.Proofs
namespace Go.Proofs
open Go.Dw Go.RowKit Go.Maps Go.Sort Go.Deep
theorem Tryz.zud {w:World} {b2 a:Nat} {g:Nat→Int} {v:Value} (h:w.ownsRow b2 5 1 v 16 (row g a 16)): ∃G c,v= .slice (some ⟨G,0,none⟩) 16 c∧w.rangeAt G 0 (row g a 16):=by
 obtain ⟨sa,c,rfl,hr⟩:=OwnR.row (show OwnR 5 1 w b2 v 16 (row g a 16) from h);rcases hr with hr|⟨G,rfl,_,hr⟩
 ·have:=congrArg List.length hr;rw [zfw] at this;simp at this
 ·exact ⟨G,c,rfl,hr⟩
theorem Tryz.RdW.size {w0 w:World} {X b2 P L Bs B N:Nat} {g:Nat→Int} {v0 v:Value} {l:List Sg} {n e:Int} (h:RdW w0 w X b2 P L Bs B N g v0 v l n e):b2≤w.heap.size:=Nat.le_trans h.b2 h.mv.size
set_option maxRecDepth 100000 in
theorem Tryz.zrK {w0 w:World} {X b2 P L Bs B N:Nat} {g:Nat→Int} {v0 v:Value} {n:Int} {a:Nat} {k:Int} (h:RdW w0 w X b2 P L Bs B N g v0 v [] n 0) (hN:N≤1048576) (ha:(a:Int)<18446744073709551616) (hk:0≤k∧k<4294967296):
    Calls prog 97 #[.pointer (some ⟨X,0,none⟩),.int .u64 a,.int .u32 k] w fun en w'=>en= .returned (.tuple #[])∧ ∃v' l' e',RdW w0 w' X b2 P L Bs B N g v0 v' l' n e'∧l'.length≤64∧e'=(zbx N g a k).2∧(e'=0→l'=(zbx N g a k).1):=by
  have hents:=zpz X P L Bs B N v n 0 a k g w h.cl h.rm hN ⟨by omega,ha⟩ hk;unfold zbx;by_cases he:(entN N a k).2=0
  · rw [if_neg (show¬(entN N a k).2≠0 from fun q=>q he)];have hfacts:(entN N a k).1=k/16∧k%16=0∧k/16≤64∧a+k≤N:=by
      unfold entN at he ⊢;split at he
      · cases he
      · rename_i hb;split at he
        · rename_i hin;rw [if_neg hb,if_pos hin];refine ⟨rfl,?_,?_,hin⟩
          · by_cases q:k%16=0
            · exact q
            · exact absurd (.inr (.inl q)) hb
          · by_cases q:k/16≤64
            · exact q
            · exact absurd (.inr (.inr (by omega))) hb
        · cases he
    obtain ⟨f1,f2,f3,f4⟩:=hfacts;rw [f1,decide_eq_true he,show entE 0 (entN N a k).2=0 from by unfold entE;rw [if_pos he]] at hents;rw [f1];obtain ⟨m,hm,hm64⟩: ∃m:Nat,k/16=m∧m≤64:=⟨(k/16).toNat,by omega,by omega⟩;rw [hm] at hents ⊢;rw [Int.toNat_natCast,Int.toNat_natCast];have hmN:a+16*m≤N:=by omega
    clear f1 f2 f3 f4 hm he;go_enter func97,ntmps97;go_wp2_with (first
      | (go_at_call 143;refine hents.mono ?_;rintro en w1 ⟨rfl,hc1,hm1⟩)
      | go_in)
    have h1:=h.stopped hc1 hm1;go_loopw [8] (fun c wr=> ∃(i:Nat) (v':Value) (l':List Sg),i≤m∧c= .int .i64 i∧l'.length=i∧RdW w0 wr X b2 P L Bs B N g v0 v' l' n 0∧(fun _:Unit=>zeK g a m [])=fun _=>zeK g (a+16*i) (m-i) l') (fun c _=>m-(RowKit.intOf c).toNat)
    case atStart=>exact ⟨0,v,[],Nat.zero_le _,rfl,rfl,h1,rfl⟩
    case round=>
      obtain ⟨i,v',l',hi,rfl,hl,hR,hit⟩:=hrel;by_cases him:i<m
      · have him':(i:Int)<m:=by omega
        have hrd:=zmO P L Bs B N (a+16*i) 16 g wr hR.rm hN (by decide) (by omega);have ecast:((a+16*i:Nat):Int)=(a:Int)+16*i:=by push_cast;rfl
        rw [ecast] at hrd;have w1':IntKind.wrap .u64 (i:Int)=i:=zaN (by omega) (by omega);have w2':IntKind.wrap .u64 (16*(i:Int))=16*i:=zaN (by omega) (by omega);have w3':IntKind.wrap .u64 ((a:Int)+16*i)=a+16*i:=zaN (by omega) (by omega);have hbyte:=hR.rm.byte;have c0:=hR.cl.cell 0 _ rfl;have hrp:=fun X' c' w' (hq:w'.rangeAt X' 0 (row g (a+16*i) 16))=>zdL hbyte (a+16*i) X' 0 c' w' hq;have bF:=zaq g hbyte (a+16*i+14) 2;have p2:(256:Int)^2=65536:=by decide
        rw [p2] at bF;have hseg:pSeg g (a+16*i)=⟨zac g (a+16*i) 8,zac g (a+16*i+8) 4,zac g (a+16*i+14) 2/2%2*2 !=0⟩:=rfl;have hstep:zeK g (a+16*i) (m-i) l'=if zac g (a+16*i+14) 2/4%2=1 then ([],4) else zeK g (a+16*(i+1)) (m-(i+1)) (l'++ [pSeg g (a+16*i)]):=by
          rw [show m-i=(m-(i+1))+1 by omega,show a+16*(i+1)=a+16*i+16 by omega];rfl
        have hit:=congrFun hit ();rw [hstep] at hit;clear hstep;unfold zi4 at hrp;rw [hseg] at hit;clear hseg;generalize zac g (a+16*i) 8=A1 at hrp hit;generalize zac g (a+16*i+8) 4=L1 at hrp hit;generalize zac g (a+16*i+12) 2=I1 at hrp;generalize zac g (a+16*i+14) 2=F1 at hrp hit bF;have hbt:bits .and .u16 F1 4=F1/4%2*4:=by have:=zjL F1 2 (by decide) bF.1 bF.2;simpa using this
        have hsg:=fun w' (hR':RdW w0 w' X b2 P L Bs B N g v0 v' l' n 0)=>zpp X b2 (.pointer (some ⟨P,0,none⟩)) v' n 0 A1 L1 F1 l' w' hR'.cl hR'.own hR'.size hR'.lo.1 (by omega) bF;have hsp:=fun w' (hR':RdW w0 w' X b2 P L Bs B N g v0 v' l' n 0)=>zdK X (.pointer (some ⟨P,0,none⟩)) v' n 0 4 w' hR'.cl;have hbelow: ∀w2,RdW w0 w2 X b2 P L Bs B N g v0 v' l' n 0→RdW w0 (w2.alloc (Obj.cells #[.int .u64 A1,.int .u32 L1,.int .u16 I1,.int .u16 F1] 74)) X b2 P L Bs B N g v0 v' l' n 0:=fun w2 q=>q.below ((Below.refl _ w2).alloc (Nat.le_refl _) _);by_cases hF:F1/4%2=1
        · have hit2:(fun _:Unit=>zeK g a m [])=fun _=>([],4):=by rw [hit,if_pos hF]
          clear hit;go_wp2_with (first
            | (go_at_call 95;refine hrd.mono ?_;rintro en w1 ⟨vb,rfl,hrow,hb1⟩;obtain ⟨G,cp,rfl,hr16⟩:=zud hrow)
            | (go_at_call 96;refine (hrp _ _ _ hr16).mono ?_;rintro en w2 ⟨rfl,hb2⟩;have hR3:=hbelow _ ((hR.below hb1).below hb2))
            | (go_at_call 94;refine (hsp _ hR3).mono ?_;rintro en w4 ⟨rfl,hc4,hm4⟩)
            | go_in)
          refine bodyPost_ret (results_none rfl _ _ _) rfl ?_;exact ⟨rfl,v',l',4,hR3.stopped hc4 hm4,by omega,by rw [congrFun hit2 ()],fun q=>absurd q (by decide)⟩
        · have hit2:(fun _:Unit=>zeK g a m [])=fun _=>zeK g (a+16*(i+1)) (m-(i+1)) (l'++ [⟨A1,L1,F1/2%2*2 !=0⟩]):=by rw [hit,if_neg hF]
          clear hit;have hF0:F1/4%2=0:=by omega
          go_wp2_with (first
            | (go_at_call 95;refine hrd.mono ?_;rintro en w1 ⟨vb,rfl,hrow,hb1⟩;obtain ⟨G,cp,rfl,hr16⟩:=zud hrow)
            | (go_at_call 96;refine (hrp _ _ _ hr16).mono ?_;rintro en w2 ⟨rfl,hb2⟩;have hR3:=hbelow _ ((hR.below hb1).below hb2))
            | (go_at_call 98;refine (hsg _ hR3).mono ?_;rintro en w4 ⟨rfl,v4,hc4,ho4,hm4,hv4⟩)
            | go_in)
          exact ⟨⟨i+1,v4,_,by omega,by push_cast;rfl,by simp;omega,hR3.segd hc4 ho4 hm4 hv4,hit2⟩,by simp only [RowKit.intOf];omega⟩
      · have him': ¬(i:Int)<m:=by omega
        go_wp2;go_end0;have:i=m:=by omega
        subst this;have hit:=congrFun hit ();rw [Nat.sub_self] at hit;exact ⟨rfl,v',l',0,hR,by omega,by rw [hit];rfl,fun _=>by rw [hit];rfl⟩
  · rw [if_pos he];have hb0:(entN N a k).1=0:=by
      unfold entN at he ⊢;split
      · rfl
      · rename_i hb;split
        · rename_i hin;rw [if_neg hb,if_pos hin] at he;exact absurd rfl he
        · rfl
    rw [hb0,decide_eq_false he,show entE 0 (entN N a k).2=(entN N a k).2 from by unfold entE stE;rw [if_neg he];rfl] at hents;generalize (entN N a k).2=err at hents he ⊢;go_enter func97,ntmps97;go_wp2_with (first
      | (go_at_call 143;refine hents.mono ?_;rintro en w1 ⟨rfl,hc1,hm1⟩)
      | go_in)
    have h1:=h.stopped hc1 hm1;go_loopw [8] (fun c wr=>c= .int .i64 0∧wr=w1) (fun c _=>0)
    case atStart=>exact ⟨rfl,rfl⟩
    case round=>
      obtain ⟨rfl,rfl⟩:=hrel;go_wp2;go_end0;exact ⟨rfl,v,[],err,h1,Nat.zero_le _,rfl,fun q=>absurd q he⟩
set_option maxRecDepth 100000 in
theorem Tryz.zrQ {w0 w:World} {X b2 P L Bs B N:Nat} {g:Nat→Int} {v0 v:Value} {l:List Sg} {n e:Int} (h:RdW w0 w X b2 P L Bs B N g v0 v l n e) (hN:N≤1048576) (hok:e=0→ ∀x∈l,x.ok) (hl:l.length≤100000):
    Calls prog 99 #[.pointer (some ⟨X,0,none⟩)] w fun en w'=> ∃e1,e1=(if e=0 then zgq N l else e)∧en= .returned (.tuple #[if e1=0 then v else .slice none 0 0,.int .i64 e1])∧RdW w0 w' X b2 P L Bs B N g v0 v l n e1:=by
  obtain ⟨sa,c,rfl,_⟩:=h.own.slice;have c0:=h.cl.cell 0 _ rfl;have c1:=h.cl.cell 1 _ rfl;have c3:=h.cl.cell 3 _ rfl;have f3:=h.cl.free 3;have hXl:=h.cl.lt;have hsv:e=0→ ∀w',RdW w0 w' X b2 P L Bs B N g v0 (.slice sa l.length c) l n e→SegV (fun _=>False) w' (.slice sa l.length c) l:=fun q w' h'=>h'.own.segV (hok q) (fun _ _ q=>q);have hck:=fun q=>zmN (hsv q w h);by_cases he:e=0
  · replace hsv:=hsv he;replace hck:=hck he;subst he;by_cases hbad:l= []∨ ¬zaU l=0
    · have hlk:zgq N l=4:=by unfold zgq;rw [if_pos hbad]
      have hset: ∀w1,RdW w0 w1 X b2 P L Bs B N g v0 (.slice sa l.length c) l n 0→RdW w0 (w1.setCell ⟨X,3,none⟩ (.int .i64 4)) X b2 P L Bs B N g v0 (.slice sa l.length c) l n 4:=fun w1 h1=>h1.stopped (h1.cl.set 3 (.int .i64 4) (by simp)) ⟨rfl,rfl,rfl,by simp,fun k hk hne=>Below.heap_setCell w1 ⟨X,3,none⟩ _ k hne⟩;refine Calls.mono (R:=fun en w'=>en= .returned (.tuple #[.slice none 0 0,.int .i64 4])∧RdW w0 w' X b2 P L Bs B N g v0 (.slice sa l.length c) l n 4) ?_ fun en w' hh=>⟨4,by rw [if_pos rfl,hlk],hh.1,hh.2⟩;clear hlk;by_cases hn:l.length=0
      · have hs0:=hset w h;have d3:=hs0.cl.cell 3 _ rfl;have hn':(l.length:Int)=0:=by omega
        clear hbad hck;go_enter func99,ntmps99;go_wp2_with fail;go_quiet (fail);go_wp2;go_ret2;exact ⟨rfl,hs0.below (below_drewN (Below.refl _ _) _)⟩
      · have hse: ¬zaU l=0:=by
          rcases hbad with q|q
          · exact absurd (by rw [q];rfl) hn
          · exact q
        have hn': ¬(l.length:Int)=0:=by omega
        clear hbad;generalize zaU l=se at hck hse;have hse2:(se !=0)=true:=by simpa using hse
        go_enter func99,ntmps99;go_wp2_with (first
          | (go_at_call 123;refine hck.mono ?_;rintro en w1 ⟨rfl,hb1⟩;have h1:=h.below hb1;have g3:=h1.cl.cell 3 _ rfl;have k3:=h1.cl.free 3;have hs0:=hset w1 h1;have d3:=hs0.cl.cell 3 _ rfl)
          | go_in)
        go_quiet (fail);go_wp2;go_ret2;exact ⟨rfl,hs0.below (below_drewN (Below.refl _ _) _)⟩
    · have hse:zaU l=0:=by
        by_cases q:zaU l=0
        · exact q
        · exact absurd (.inr q) hbad
      have hn: ¬l.length=0:=fun q=>hbad (.inl (List.length_eq_zero_iff.1 q));have hlk:zgq N l=zbH N l:=by unfold zgq;rw [if_neg hbad]
      rw [hse] at hck;have hn': ¬(l.length:Int)=0:=by omega
      have hin:=fun w1 (h1:RdW w0 w1 X b2 P L Bs B N g v0 (.slice sa l.length c) l n 0)=>ztQ h1.rm hN (hsv w1 h1) hl;rw [if_pos rfl,hlk];clear hlk hse hbad;generalize zbH N l=si at hin ⊢;have hset: ∀w1,RdW w0 w1 X b2 P L Bs B N g v0 (.slice sa l.length c) l n 0→RdW w0 (w1.setCell ⟨X,3,none⟩ (.int .i64 si)) X b2 P L Bs B N g v0 (.slice sa l.length c) l n si:=fun w1 h1=>h1.stopped (h1.cl.set 3 (.int .i64 si) (by simp)) ⟨rfl,rfl,rfl,by simp,fun k hk hne=>Below.heap_setCell w1 ⟨X,3,none⟩ _ k hne⟩;by_cases hs:si=0
      · refine Calls.mono (R:=fun en w'=>en= .returned (.tuple #[.slice sa l.length c,.int .i64 0])∧RdW w0 w' X b2 P L Bs B N g v0 (.slice sa l.length c) l n 0) ?_ fun en w' hh=>⟨0,hs.symm,hh.1,hh.2⟩;subst hs;go_enter func99,ntmps99;go_wp2_with (first
          | (go_at_call 123;refine hck.mono ?_;rintro en w1 ⟨rfl,hb1⟩;have h1:=h.below hb1;have g0:=h1.cl.cell 0 _ rfl;have g1:=h1.cl.cell 1 _ rfl;have g3:=h1.cl.cell 3 _ rfl;have k3:=h1.cl.free 3)
          | go_in)
        go_region_held3 (fun w'=>w'.cell? ⟨X,0,none⟩=some (.pointer (some ⟨P,0,none⟩))∧w'.cell? ⟨X,1,none⟩=some (.slice sa l.length c)) (go_keep)
          ((first|(go_at_call 74;refine (hin w1.drew (h1.below ((Below.refl _ w1).drew))).mono ?_;rintro en w3 ⟨rfl,hb3⟩;have h3:=(h1.below ((Below.refl _ w1).drew)).below hb3;have m0:=h3.cl.cell 0 _ rfl;have m1:=h3.cl.cell 1 _ rfl;have m3:=h3.cl.cell 3 _ rfl;have m4:=h3.cl.free 3;have h5:=hset w3 h3;have s0:=h5.cl.cell 0 _ rfl;have s1:=h5.cl.cell 1 _ rfl;have s3:=h5.cl.cell 3 _ rfl)))
        all_goals go_wp2_with fail
        all_goals
          go_ret2;exact ⟨rfl,h5⟩
      · have hs2:(si !=0)=true:=by simpa using hs
        refine Calls.mono (R:=fun en w'=>en= .returned (.tuple #[.slice none 0 0,.int .i64 si])∧RdW w0 w' X b2 P L Bs B N g v0 (.slice sa l.length c) l n si) ?_ fun en w' hh=>⟨si,rfl,by rw [if_neg hs];exact hh.1,hh.2⟩;go_enter func99,ntmps99;go_wp2_with (first
          | (go_at_call 123;refine hck.mono ?_;rintro en w1 ⟨rfl,hb1⟩;have h1:=h.below hb1;have g0:=h1.cl.cell 0 _ rfl;have g1:=h1.cl.cell 1 _ rfl;have g3:=h1.cl.cell 3 _ rfl;have k3:=h1.cl.free 3)
          | go_in)
        go_region_held3 (fun w'=>w'.cell? ⟨X,0,none⟩=some (.pointer (some ⟨P,0,none⟩))∧w'.cell? ⟨X,1,none⟩=some (.slice sa l.length c)) (go_keep)
          ((first|(go_at_call 74;refine (hin w1.drew (h1.below ((Below.refl _ w1).drew))).mono ?_;rintro en w3 ⟨rfl,hb3⟩;have h3:=(h1.below ((Below.refl _ w1).drew)).below hb3;have m0:=h3.cl.cell 0 _ rfl;have m1:=h3.cl.cell 1 _ rfl;have m3:=h3.cl.cell 3 _ rfl;have m4:=h3.cl.free 3;have h5:=hset w3 h3;have s0:=h5.cl.cell 0 _ rfl;have s1:=h5.cl.cell 1 _ rfl;have s3:=h5.cl.cell 3 _ rfl)))
        all_goals go_wp2_with fail
        all_goals
          go_quiet (fail);go_wp2;go_ret2;exact ⟨rfl,h5.below (below_drewN (Below.refl _ _) _)⟩
  · refine Calls.mono (R:=fun en w'=>en= .returned (.tuple #[.slice none 0 0,.int .i64 e])∧RdW w0 w' X b2 P L Bs B N g v0 (.slice sa l.length c) l n e) ?_ fun en w' hh=>⟨e,by rw [if_neg he],by rw [if_neg he];exact hh.1,hh.2⟩;go_enter func99,ntmps99;go_wp2_with fail;go_quiet (fail);go_wp2;go_ret2;exact ⟨rfl,h.below (below_drewN (Below.refl _ w) _)⟩
set_option maxRecDepth 100000 in
theorem Tryz.zlK {n a:Int} {x:Bool} (hn:1≤n∧n≤16) (ha:0≤a∧a<n) (w:World):
  Calls prog 92 #[.agg #[.int .i64 a,.bool x],.int .i64 n] w fun e w'=>e= .returned (.int .i64 0)∧Below w.heap.size w w':=by
 have h1: ¬a<0:=by omega
 have h2: ¬n≤a:=by omega
 have h3: ¬n<1:=by omega
 have h4: ¬(32768:Int)<n:=by omega
 have h5:1≤n:=hn.1;have h6:n≤32768:=by omega
 have hb:=(Below.refl w.heap.size w).alloc (Nat.le_refl _) (.cells #[.int .i64 a,.bool x] 64);go_enter func92,ntmps92;go_wp2;go_ret;exact ⟨rfl,hb⟩
set_option maxRecDepth 100000 in
theorem Tryz.zlO {r:Rg} (h:PgOk r) (P:Nat) (w:World):
    Calls prog 93 #[.pointer (some ⟨P,0,none⟩),r.pval,.bool true] w fun e w'=>e= .returned (.int .i64 0)∧Below w.heap.size w w':=by
  have hck:=fun w'=>zlS h w';unfold Rg.pval at hck ⊢;generalize r.n=n at*;generalize r.d=d at*;generalize r.v=v at*;generalize r.c=c at*;have kc:=Cl.new w #[.bool true,.int .i64 n,.int .u64 d,.int .u64 v,.int .u64 c] 30;have hb:=(Below.refl w.heap.size w).alloc (Nat.le_refl _) (.cells #[.bool true,.int .i64 n,.int .u64 d,.int .u64 v,.int .u64 c] 30);go_enter func93,ntmps93;go_wp2_with (first
    | (go_at_call 49;refine (hck _).mono ?_;rintro en w1 ⟨rfl,hb1⟩;have k1:=kc.below hb1 kc.lt;have c0:=k1.cell 0 _ rfl)
    | go_in)
  go_ret;exact ⟨rfl,hb.trans (hb1.mono (by simp))⟩
theorem Tryz.zkh (a k:Nat):putW (fun _=>0) a k 0=fun _=>0:=by
 funext j;unfold putW;split<;>simp
set_option maxRecDepth 100000 in
theorem Tryz.zt1 {r:Rg} (hr:PgOk r) (w:World):Calls prog 145 #[r.pval] w fun e w'=>e= .returned (.bool true)∧Below w.heap.size w w':=by
 have hn:=hr.bnd;have hn1:=hn.1;have hn2:decide (r.n≤32768)=true:=decide_eq_true (by omega);have hb:=(Below.refl w.heap.size w).alloc (Nat.le_refl _) (Obj.cells #[.bool true,.int .i64 r.n,.int .u64 r.d,.int .u64 r.v,.int .u64 r.c] 30);unfold Rg.pval;go_enter func145,ntmps145;go_wp2_with fail;go_ret;exact ⟨rfl,hb⟩
set_option maxRecDepth 100000 in
theorem Tryz.zt2 {r:Rg} (hr:PgOk r) (w:World):Calls prog 149 #[r.pval] w fun e w'=>e= .returned (.tuple #[.int .u64 (16*r.n),.int .u64 4,.int .u64 4])∧Below w.heap.size w w':=by
  have hn:=hr.bnd;have hz:=fun w'=>zt1 hr w';have e1:IntKind.wrap .u64 r.n=r.n:=wrap_u64 _ (by omega) (by omega);have e2:IntKind.wrap .u64 (16*r.n)=16*r.n:=wrap_u64 _ (by omega) (by omega);have hb:=(Below.refl w.heap.size w).alloc (Nat.le_refl _) (Obj.cells #[.bool true,.int .i64 r.n,.int .u64 r.d,.int .u64 r.v,.int .u64 r.c] 30);have kA:=Cl.new w #[.bool true,.int .i64 r.n,.int .u64 r.d,.int .u64 r.v,.int .u64 r.c] 30;unfold Rg.pval at hz ⊢;go_enter func149,ntmps149;go_wp2_with (first
    | (go_at_call 145;refine (hz _).mono ?_;rintro e w1 ⟨rfl,hb1⟩;have k1:=kA.below hb1 kA.lt;have c0:=k1.cell 0 _ rfl;have c1:=k1.cell 1 _ rfl)
    | go_in)
  go_ret3;exact ⟨rfl,hb.trans (hb1.mono hb.size)⟩
set_option maxRecDepth 100000 in
theorem Tryz.zpM {r:Rg} (hr:PgOk r) (w:World):Calls prog 104 #[r.pval] w fun e w'=>e= .returned (.agg #[.int .u64 r.d,.int .u64 (16*r.n),.int .u64 r.v,.int .u64 4,.int .u64 r.c,.int .u64 4])∧Below w.heap.size w w':=by
  have hz:=fun w'=>zt2 hr w';have hb:=(Below.refl w.heap.size w).alloc (Nat.le_refl _) (Obj.cells #[.bool true,.int .i64 r.n,.int .u64 r.d,.int .u64 r.v,.int .u64 r.c] 30);have hb2:=hb.alloc hb.size (Obj.cells #[.int .u64 0,.int .u64 0,.int .u64 0,.int .u64 0,.int .u64 0,.int .u64 0] 176);have kA:=(Cl.new w #[.bool true,.int .i64 r.n,.int .u64 r.d,.int .u64 r.v,.int .u64 r.c] 30).alloc (.cells #[.int .u64 0,.int .u64 0,.int .u64 0,.int .u64 0,.int .u64 0,.int .u64 0] 176);have kB:=Cl.new (w.alloc (Obj.cells #[.bool true,.int .i64 r.n,.int .u64 r.d,.int .u64 r.v,.int .u64 r.c] 30)) #[.int .u64 0,.int .u64 0,.int .u64 0,.int .u64 0,.int .u64 0,.int .u64 0] 176;rw [zas] at kB;unfold Rg.pval at hz ⊢;go_enter func104,ntmps104;go_wp2_with (first
    | (go_at_call 149;refine (hz _).mono ?_;rintro e w1 ⟨rfl,hb1⟩;have k1:=kA.below hb1 kA.lt;have k2:=kB.below hb1 kB.lt;have c2:=k1.cell 2 _ rfl;have c3:=k1.cell 3 _ rfl;have c4:=k1.cell 4 _ rfl;have y0:=k2.cell 0 _ rfl;have q0:=k2.free 0;have y1:=k2.cell 1 _ rfl;have q1:=k2.free 1;have y2:=k2.cell 2 _ rfl;have q2:=k2.free 2;have y3:=k2.cell 3 _ rfl;have q3:=k2.free 3;have y4:=k2.cell 4 _ rfl;have q4:=k2.free 4;have y5:=k2.cell 5 _ rfl;have q5:=k2.free 5)
    | go_in)
  have kF:=(((((k2.set 0 (.int .u64 r.d) (by simp)).set 1 (.int .u64 (16*r.n)) (by simp)).set 2 (.int .u64 r.v) (by simp)).set 3 (.int .u64 4) (by simp)).set 4 (.int .u64 r.c) (by simp)).set 5 (.int .u64 4) (by simp);have hb3:=hb2.trans (hb1.mono hb2.size);have hmv:=zai (zai (zai (zai (zai (zai (zaa (K:=fun _=>False) hb3) (w.heap.size+1) 0 (.int .u64 r.d) (.inr (by omega))) (w.heap.size+1) 1 (.int .u64 (16*r.n)) (.inr (by omega))) (w.heap.size+1) 2 (.int .u64 r.v) (.inr (by omega))) (w.heap.size+1) 3 (.int .u64 4) (.inr (by omega))) (w.heap.size+1) 4 (.int .u64 r.c) (.inr (by omega))) (w.heap.size+1) 5 (.int .u64 4) (.inr (by omega));refine bodyPost_ret (zpx rfl _ _ (w.heap.size+1) [.int .u64 r.d,.int .u64 (16*r.n),.int .u64 r.v,.int .u64 4,.int .u64 r.c,.int .u64 4] _ rfl (fun j y hy=>by rw [Nat.zero_add];exact kF.cell j y hy) underlying176 rfl (by kernel_rfl)) rfl ?_;exact ⟨rfl,zbu hmv⟩
theorem Tryz.zvT (a b c d e f:Int) (w:World):(Instr.index 176 (.agg #[.int .u64 a,.int .u64 b,.int .u64 c,.int .u64 d,.int .u64 e,.int .u64 f]) (.int .i64 0)).run prog w= .ok (.agg #[.int .u64 a,.int .u64 b]) w:=by kernel_rfl
theorem Tryz.zvS (a b c d e f:Int) (w:World):(Instr.index 176 (.agg #[.int .u64 a,.int .u64 b,.int .u64 c,.int .u64 d,.int .u64 e,.int .u64 f]) (.int .i64 1)).run prog w= .ok (.agg #[.int .u64 c,.int .u64 d]) w:=by kernel_rfl
theorem Tryz.zvR (a b c d e f:Int) (w:World):(Instr.index 176 (.agg #[.int .u64 a,.int .u64 b,.int .u64 c,.int .u64 d,.int .u64 e,.int .u64 f]) (.int .i64 2)).run prog w= .ok (.agg #[.int .u64 e,.int .u64 f]) w:=by kernel_rfl
set_option maxRecDepth 100000 in
theorem Tryz.zkr {w:World} {P L Bs B N:Nat} {g:Nat→Int} {r:Rg} (st:GM w P L Bs B N g) (hr:PgOk r) (hN:N≤1048576) (hF:40000≤N):
    Calls prog 54 #[.pointer (some ⟨P,0,none⟩),r.pval] w fun e w'=>e= .returned (.int .i64 0)∧Below w.heap.size w w':=by
  have hn:=hr.bnd;have hd:=hr.d;have hv:=hr.v;have hc:=hr.c;have hck:=fun w'=>zoq hr w';have hsp:=fun w'=>zpM hr w';have hb:=(Below.refl w.heap.size w).alloc (Nat.le_refl _) (Obj.cells #[.bool true,.int .i64 r.n,.int .u64 r.d,.int .u64 r.v,.int .u64 r.c] 30);have kA:=Cl.new w #[.bool true,.int .i64 r.n,.int .u64 r.d,.int .u64 r.v,.int .u64 r.c] 30;have stA:=st.below hb;have hhas: ∀(w':World) (a n:Int),Below w.heap.size w w'→0≤a→1≤n→a+n≤N→Calls prog 55 #[.pointer (some ⟨P,0,none⟩),.int .u64 a,.int .u64 n] w' fun e w2=>e= .returned (.bool true)∧Below w'.heap.size w' w2:=fun w' a n hb1 h0 h1 h2=>by
    have:=zjr P L Bs B N a n g w' (st.below hb1) hN (by omega) h0 (by omega) (by omega)
    rwa [decide_eq_true (show 1≤n∧a+n≤(N:Int) from ⟨h1,h2⟩)] at this
  have hh1:=fun w' hb1=>hhas w' r.d (16*r.n) hb1 (by omega) (by omega) (by omega);have hh2:=fun w' hb1=>hhas w' r.v 4 hb1 (by omega) (by omega) (by omega);have hh3:=fun w' hb1=>hhas w' r.c 4 hb1 (by omega) (by omega) (by omega);clear hhas hn hd hv hc hN hF;unfold Rg.pval at hck hsp ⊢;go_enter func54,ntmps54;go_wp2_with (first
    | (go_at_call 53;refine (ze6 P L Bs B N 0 g _ stA).mono ?_;rintro e w' ⟨rfl,hw⟩;have hw:=hw.symm;subst hw)
    | (go_at_call 103;refine (hck _).mono ?_;rintro e w1 ⟨rfl,hb1⟩;have k1:=kA.below hb1 kA.lt;have c0:=k1.cell 0 _ rfl;have c1:=k1.cell 1 _ rfl;have c2:=k1.cell 2 _ rfl;have c3:=k1.cell 3 _ rfl;have c4:=k1.cell 4 _ rfl)
    | (go_at_call 104;refine (hsp _).mono ?_;rintro e w2 ⟨rfl,hb2⟩)
    | go_in)
  have hb02:=(hb.trans (hb1.mono hb.size)).trans (hb2.mono (hb.trans (hb1.mono hb.size)).size);clear c0 c1 c2 c3 c4;go_loopw [25] (fun iv wr=>(iv= .int .i64 0∨iv= .int .i64 1∨iv= .int .i64 2∨iv= .int .i64 3)∧Below w.heap.size w wr) (fun iv _=>3-(RowKit.intOf iv).toNat)
  case atStart=>exact ⟨.inl rfl,hb02⟩
  case round=>
    obtain ⟨hi,hbr⟩:=hrel;have hx0:=zvT r.d (16*r.n) r.v 4 r.c 4;have hx1:=zvS r.d (16*r.n) r.v 4 r.c 4;have hx2:=zvR r.d (16*r.n) r.v 4 r.c 4;have hba:=fun (o:Obj)=>hbr.alloc hbr.size o;have fin: ∀ {o:Obj} {w5:World},Below (wr.alloc o).heap.size (wr.alloc o) w5→Below w.heap.size w w5:=fun {o w5} hb5=>(hba o).trans (hb5.mono (hba o).size);rcases hi with rfl|rfl|rfl|rfl
    · go_wp2_with (first
        | (go_at_call 55;refine (hh1 _ (hba _)).mono ?_;rintro e w5 ⟨rfl,hb5⟩)
        | go_in)
      exact ⟨⟨.inr (.inl rfl),fin hb5⟩,by simp [RowKit.intOf]⟩
    · go_wp2_with (first
        | (go_at_call 55;refine (hh2 _ (hba _)).mono ?_;rintro e w5 ⟨rfl,hb5⟩)
        | go_in)
      exact ⟨⟨.inr (.inr (.inl rfl)),fin hb5⟩,by simp [RowKit.intOf]⟩
    · go_wp2_with (first
        | (go_at_call 55;refine (hh3 _ (hba _)).mono ?_;rintro e w5 ⟨rfl,hb5⟩)
        | go_in)
      exact ⟨⟨.inr (.inr (.inr rfl)),fin hb5⟩,by simp [RowKit.intOf]⟩
    · go_wp2_with fail;go_ret;exact ⟨rfl,hbr⟩
def Tryz.zcy (ev tb:Bool) (r:Rg) (P I:Nat):List Value:=(DS.fresh ev tb r.n).row r P I (.slice none 0 0) (.pointer none) (.slice none 0 0) (.slice none 0 0)
theorem Tryz.zsE {A:Nat→Prop} {w:World} {S P L Bs B I N:Nat} {r:Rg} {ev tb:Bool} {g:Nat→Int} (hrk:PgOk r) (hS:Cl w S (zcy ev tb r P I)) (hI:Cl w I (List.replicate r.n.toNat (.pointer none))) (hg:GM w P L Bs B N g) (hSI:S≠I) (aS:A S) (aI:A I) (aB:A B) (hl: ∀b,A b→b<w.heap.size) (hN:N≤1048576) (hf:40000≤N) (sd:S≠P∧S≠L∧S≠Bs∧S≠B) (md:I≠P∧I≠L∧I≠Bs∧I≠B):DW A w S P L Bs B I N r (DS.fresh ev tb r.n) g:=
 ⟨⟨⟨_,_,_,_,hS,⟨none,0,rfl,Nat.le_refl _,.inl rfl⟩,rfl,fun q=>absurd q.1 (by show¬1≤0;decide),SegV.none,⟨none,0,rfl,.inl rfl⟩⟩,
  ⟨_,hI,List.length_replicate,fun k hk=>⟨fun _=>by simp,fun e he=>(by cases he)⟩⟩,hg,hSI,aS,aI,aB,hl,hrk,hN,hf,sd,md⟩,DB.fresh ev tb hrk.bnd.1⟩
structure Tryz.HidQ (p:Prop):Prop where
 out:p
set_option maxRecDepth 100000 in
theorem Tryz.zig {w:World} {S:Nat} {d i:Int} (h3:w.cell? ⟨S,3,none⟩=some (.int .u64 d)) (hd:0≤d∧d≤1000000) (hi:0≤i∧i≤1000000):
  Calls prog 57 #[.pointer (some ⟨S,0,none⟩),.int .i64 i] w fun e w'=>e= .returned (.int .u64 (d+16*i))∧w'=w:=by
 have w1:IntKind.wrap .u64 i=i:=wrap_u64 _ hi.1 (by omega);have w2:IntKind.wrap .u64 (16*i)=16*i:=wrap_u64 _ (by omega) (by omega);have w3:IntKind.wrap .u64 (d+16*i)=d+16*i:=wrap_u64 _ (by omega) (by omega);go_enter func57,ntmps57;go_wp2_with fail;go_ret;exact ⟨rfl,rfl⟩
theorem Tryz.ztl:(prog.info? 127).map (fun i=>(i.zero,i.size,i.bytes))=some (some (.pointer none),1,8):=by kernel_rfl
theorem Tryz.zkA (n:Nat):(madeCells (Value.pointer none).cells (n*1)).toList=List.replicate n (.pointer none):=by
 have hc1:(Value.pointer none).cells= #[.pointer none]:=rfl;apply List.ext_getElem?;intro j;rw [Array.getElem?_toList,hc1];by_cases hj:j<n
 ·rw [List.getElem?_replicate,if_pos hj];simp [madeCells,hj,Nat.mod_one]
 ·rw [List.getElem?_eq_none (by simpa using hj)];exact Array.getElem?_eq_none (by simp [madeCells];omega)
set_option maxRecDepth 100000 in
theorem Tryz.zso {w:World} {P L Bs B N:Nat} {r:Rg} {ev:Bool} (st:GM w P L Bs B N (fun _=>0)) (hr:PgOk r) (hN:N≤1048576) (hF:40000≤N):
    Calls prog 11 #[.pointer (some ⟨P,0,none⟩),r.pval,.agg #[.bool ev,.bool false,.bool true],.int .u64 20000] w fun e w'=> ∃S I,e= .returned (.tuple #[.pointer (some ⟨S,0,none⟩),.int .i64 0])∧(w.heap.size≤S∧w.heap.size≤I∧S≠I)∧Cl w' S (zcy ev false r P I)∧Cl w' I (List.replicate r.n.toNat (.pointer none))∧GM w' P L Bs B N (fun _=>0)∧Dw.Mv (· =B) w w':=by
  have hn:=hr.bnd;have hd:=hr.d;have hv:=hr.v;have hc:=hr.c;obtain ⟨i0,hi0,hz0,hz1,hzb⟩:=info_parts ztl;obtain ⟨n,hrn⟩: ∃n:Nat,r.n=n:=⟨r.n.toNat,by omega⟩;have hn2:1≤n∧n≤16:=by omega
  have hps:=zfx 56 (.inl rfl);have hb2:=((Below.refl w.heap.size w).alloc (Nat.le_refl _) (Obj.cells #[.bool true,.int .i64 r.n,.int .u64 r.d,.int .u64 r.v,.int .u64 r.c] 30)).alloc (by simp) (Obj.cells #[.bool ev,.bool false,.bool true] 23);have kA:=(Cl.new w #[.bool true,.int .i64 r.n,.int .u64 r.d,.int .u64 r.v,.int .u64 r.c] 30).alloc (.cells #[.bool ev,.bool false,.bool true] 23);have kB:=Cl.new2 (w:=w.alloc (Obj.cells #[.bool true,.int .i64 r.n,.int .u64 r.d,.int .u64 r.v,.int .u64 r.c] 30)) (b:=w.heap.size+1) (arr:= #[.bool ev,.bool false,.bool true]) (t:=23) (by simp);have st2:=st.below hb2;have hfit:=zkr st2 hr hN hF;have hhas: ∀w',Below w.heap.size w w'→Calls prog 55 #[.pointer (some ⟨P,0,none⟩),.int .u64 20000,.int .u64 ((n:Int)*1024)] w' fun e w2=>e= .returned (.bool true)∧Below w'.heap.size w' w2:=fun w' hb=>by
    have:=zjr P L Bs B N 20000 ((n:Int)*1024) _ w' (st.below hb) hN (by omega) (by omega) (by omega) (by omega)
    rwa [decide_eq_true (show 1≤(n:Int)*1024∧20000+(n:Int)*1024≤(N:Int) by omega)] at this
  have hmk:=fun w=>run_makeSlice (P:=prog) w 125 127 i0 (.pointer none) underlying125 hi0 hz0 .i64 .i64 n n (by omega) (by omega) (by rw [hz1];omega) (by rw [hzb];omega) (by omega);have hmc:=zkA n;simp only [hz1,Int.toNat_natCast] at hmk;obtain ⟨C,hC⟩: ∃C,madeCells (Value.pointer none).cells (n*1)=C:=⟨_,rfl⟩;rw [hC] at hmc hmk;clear hC;have w1k:IntKind.wrap .u64 (n:Int)=n:=wrap_u64 _ (by omega) (by omega);have w2k:IntKind.wrap .u64 ((n:Int)*1024)=(n:Int)*1024:=wrap_u64 _ (by omega) (by omega);unfold Rg.pval at hfit ⊢;rw [hrn] at kA kB hb2 st2 hfit;have hrow: ∀I,zcy ev false r P I= [.pointer (some ⟨P,0,none⟩),.bool true,.int .i64 n,.int .u64 r.d,.int .u64 r.v,.int .u64 r.c,.bool ev,.bool false,.bool true,.int .u64 20000,.int .i64 0,.bool true,.int .i64 0,.bool true,.int .i64 n,.slice (some ⟨I,0,none⟩) n n,.slice none 0 0,.pointer none,.slice none 0 0,.slice none 0 0,.int .i64 0,.bool false,.int .i64 0,.int .u32 0,.bool false,.bool false,.bool false]:=fun I=>by
    unfold zcy DS.row DS.fresh;simp only [hrn,Int.toNat_natCast]
  simp only [hrow];rw [hrn,Int.toNat_natCast];have hE:HidQ (r.d=4096∧r.v=4096+16*(n:Int)∧r.c=4100+16*(n:Int)):=⟨hd,by omega,by omega⟩;clear hrow hn hd hv hc hr hrn;go_enter func11,ntmps11;go_wp2_with (first
    | (go_at_call 53;refine (ze6 P L Bs B N 0 _ _ st2).mono ?_;rintro e w' ⟨rfl,hw⟩;have hw:=hw.symm;subst hw)
    | (go_at_call 54;refine hfit.mono ?_;rintro e w3 ⟨rfl,hb3⟩;have hb03:=hb2.trans (hb3.mono hb2.size);have kA3:=kA.below hb3 kA.lt;have kB3:=kB.below hb3 kB.lt;have x0:=kA3.cell 0 _ rfl;have x1:=kA3.cell 1 _ rfl;have x2:=kA3.cell 2 _ rfl;have x3:=kA3.cell 3 _ rfl;have x4:=kA3.cell 4 _ rfl;have y0:=kB3.cell 0 _ rfl;have y1:=kB3.cell 1 _ rfl;have y2:=kB3.cell 2 _ rfl)
    | go_in)
  go_cut [13] from 49 to 61 (fun dv wx=> ∃S I,dv= .pointer (some ⟨S,0,none⟩)∧(w.heap.size≤S∧w.heap.size≤I∧S≠I∧S≠w.heap.size∧I≠w.heap.size)∧Cl wx S [.pointer (some ⟨P,0,none⟩),.bool true,.int .i64 n,.int .u64 r.d,.int .u64 r.v,.int .u64 r.c,.bool ev,.bool false,.bool true,.int .u64 20000,.int .i64 0,.bool true,.int .i64 0,.bool true,.int .i64 n,.slice (some ⟨I,0,none⟩) n n,.slice none 0 0,.pointer none,.slice none 0 0,.slice none 0 0,.int .i64 0,.bool false,.int .i64 0,.int .u32 0,.bool false,.bool false,.bool false]∧Cl wx I (List.replicate n (.pointer none))∧Cl wx w.heap.size [.bool true,.int .i64 n,.int .u64 r.d,.int .u64 r.v,.int .u64 r.c]∧Below w.heap.size w wx)
  case first=>
    go_region_held3 (fun w'=>w'.cell? ⟨w.heap.size,0,none⟩=some (.bool true)∧w'.cell? ⟨w.heap.size,1,none⟩=some (.int .i64 n)∧w'.cell? ⟨w.heap.size,2,none⟩=some (.int .u64 r.d)∧w'.cell? ⟨w.heap.size,3,none⟩=some (.int .u64 r.v)∧w'.cell? ⟨w.heap.size,4,none⟩=some (.int .u64 r.c)∧w'.cell? ⟨w.heap.size+1,0,none⟩=some (.bool ev)∧w'.cell? ⟨w.heap.size+1,1,none⟩=some (.bool false)∧w'.cell? ⟨w.heap.size+1,2,none⟩=some (.bool true)) (go_keep)
      (first
        | (go_at_call 56;have hz:=hb5;refine (hps _).mono ?_;rintro e w6 ⟨rfl,hb6⟩;have t0:w6.cell? ⟨w.heap.size,0,none⟩=some (.bool true):=zak hb6 (by go_keep);have t1:w6.cell? ⟨w.heap.size,1,none⟩=some (.int .i64 n):=zak hb6 (by go_keep);have t2:w6.cell? ⟨w.heap.size,2,none⟩=some (.int .u64 r.d):=zak hb6 (by go_keep);have t3:w6.cell? ⟨w.heap.size,3,none⟩=some (.int .u64 r.v):=zak hb6 (by go_keep);have t4:w6.cell? ⟨w.heap.size,4,none⟩=some (.int .u64 r.c):=zak hb6 (by go_keep);have t5:w6.cell? ⟨w.heap.size+1,0,none⟩=some (.bool ev):=zak hb6 (by go_keep);have t6:w6.cell? ⟨w.heap.size+1,1,none⟩=some (.bool false):=zak hb6 (by go_keep);have t7:w6.cell? ⟨w.heap.size+1,2,none⟩=some (.bool true):=zak hb6 (by go_keep))
        | (go_at_call 56;refine (hps _).mono ?_;rintro e w5 ⟨rfl,hb5⟩;have z0:w5.cell? ⟨w.heap.size,0,none⟩=some (.bool true):=zak hb5 (by go_keep);have z1:w5.cell? ⟨w.heap.size,1,none⟩=some (.int .i64 n):=zak hb5 (by go_keep);have z2:w5.cell? ⟨w.heap.size,2,none⟩=some (.int .u64 r.d):=zak hb5 (by go_keep);have z3:w5.cell? ⟨w.heap.size,3,none⟩=some (.int .u64 r.v):=zak hb5 (by go_keep);have z4:w5.cell? ⟨w.heap.size,4,none⟩=some (.int .u64 r.c):=zak hb5 (by go_keep);have z5:w5.cell? ⟨w.heap.size+1,0,none⟩=some (.bool ev):=zak hb5 (by go_keep);have z6:w5.cell? ⟨w.heap.size+1,1,none⟩=some (.bool false):=zak hb5 (by go_keep);have z7:w5.cell? ⟨w.heap.size+1,2,none⟩=some (.bool true):=zak hb5 (by go_keep)))
    all_goals (go_wp2_with fail)
    all_goals go_meet
    all_goals
      have hD:Below w.heap.size w w3.drew:=hb03.drew;have kD:Cl w3.drew w.heap.size [.bool true,.int .i64 n,.int .u64 r.d,.int .u64 r.v,.int .u64 r.c]:=kA3.kept rfl;have hs1:=hb03.size;have hd1:w3.drew.heap.size=w3.heap.size:=rfl;have hkA:=kA3.lt
    · have h5:=hD.trans (hb5.mono hD.size);have h6:=h5.trans (hb6.mono h5.size);have k6:=(kD.below hb5 kD.lt).below hb6 (kD.below hb5 kD.lt).lt;have q6:=h6.size;exact ⟨w6.heap.size+1,w6.heap.size,rfl,⟨by omega,by omega,by omega,by have:=k6.lt;omega,by have:=k6.lt;omega⟩,Cl.new2 (by simp),hmc▸(Cl.new w6 C 127).alloc _,(k6.alloc _).alloc _,(h6.alloc h6.size _).alloc (by simp;omega) _⟩
    · have h5:=hD.trans (hb5.mono hD.size);have h5a:=h5.alloc h5.size (.cells C 127);have h6:=h5a.trans (hb6.mono h5a.size);have k5:=(kD.below hb5 kD.lt).alloc (.cells C 127);have k6:=k5.below hb6 k5.lt;have kI:=(hmc▸Cl.new w5 C 127:Cl _ w5.heap.size (List.replicate n (.pointer none)));have kI6:=kI.below hb6 kI.lt;have q5:=h5.size;have q6:=hb6.size;have l5:=(kD.below hb5 kD.lt).lt;simp only [zas] at q6;exact ⟨w6.heap.size,w5.heap.size,rfl,⟨by omega,by omega,by omega,by omega,by omega⟩,Cl.new w6 _ _,kI6.alloc _,k6.alloc _,h6.alloc h6.size _⟩
    · have hX:=(hb03.alloc hb03.size (.cells C 127)).drew;have hsx:(w3.alloc (.cells C 127)).drew.heap.size=w3.heap.size+1:=by show (w3.alloc (.cells C 127)).heap.size=_;simp
      have h5:=hX.trans (hb5.mono (by omega));have h6:=h5.trans (hb6.mono h5.size);have kI0:Cl (w3.alloc (.cells C 127)) w3.heap.size (List.replicate n (.pointer none)):=hmc▸Cl.new w3 C 127;have kI:Cl (w3.alloc (.cells C 127)).drew w3.heap.size (List.replicate n (.pointer none)):=kI0.kept rfl;have kI5:=kI.below hb5 kI.lt;have kI6:=kI5.below hb6 kI5.lt;have kX:Cl (w3.alloc (.cells C 127)).drew w.heap.size [.bool true,.int .i64 n,.int .u64 r.d,.int .u64 r.v,.int .u64 r.c]:=(kA3.alloc _).kept rfl;have k5:=kX.below hb5 kX.lt;have k6:=k5.below hb6 k5.lt;have q5:=hb5.size;have q6:=hb6.size;exact ⟨w6.heap.size,w3.heap.size,rfl,⟨by omega,by omega,by omega,by omega,by omega⟩,Cl.new w6 _ _,kI6.alloc _,k6.alloc _,h6.alloc h6.size _⟩
  case rest=>
    obtain ⟨S,I,rfl,⟨n1,n2,n3,n4,n5⟩,kS,kI,kR,hbx⟩:=hcut;obtain ⟨l,hl⟩: ∃l,l=List.replicate n (Value.pointer none):=⟨_,rfl⟩;rw [←hl] at kI;have hgx:=st.below hbx;have sB:B<w.heap.size:=st.bl;have hmx:=zaa (K:=(· =B)) hbx;have r1:=kR.cell 1 _ rfl;obtain ⟨hE1,hE2,hE3⟩:=hE.out;clear hmk hmc hps hhas hfit x0 x1 x2 x3 x4 y0 y1 y2;go_wp2_with fail;go_loopw [64] (fun iv wr=> ∃i:Nat,i≤n∧iv= .int .i64 i∧Cl wr S [.pointer (some ⟨P,0,none⟩),.bool true,.int .i64 n,.int .u64 r.d,.int .u64 r.v,.int .u64 r.c,.bool ev,.bool false,.bool true,.int .u64 20000,.int .i64 0,.bool true,.int .i64 0,.bool true,.int .i64 n,.slice (some ⟨I,0,none⟩) n n,.slice none 0 0,.pointer none,.slice none 0 0,.slice none 0 0,.int .i64 0,.bool false,.int .i64 0,.int .u32 0,.bool false,.bool false,.bool false]∧Cl wr I l∧Cl wr w.heap.size [.bool true,.int .i64 n,.int .u64 r.d,.int .u64 r.v,.int .u64 r.c]∧GM wr P L Bs B N (fun _=>0)∧Dw.Mv (· =B) w wr) (fun iv _=>n-(RowKit.intOf iv).toNat)
    case atStart=>exact ⟨0,Nat.zero_le _,rfl,kS,kI,kR,hgx,hmx⟩
    case round=>
      obtain ⟨i,hi,rfl,qS,qI,qR,qg,qm⟩:=hrel;have step: ∀ {wa wb:World} {a k:Nat},Cl wa S [.pointer (some ⟨P,0,none⟩),.bool true,.int .i64 n,.int .u64 r.d,.int .u64 r.v,.int .u64 r.c,.bool ev,.bool false,.bool true,.int .u64 20000,.int .i64 0,.bool true,.int .i64 0,.bool true,.int .i64 n,.slice (some ⟨I,0,none⟩) n n,.slice none 0 0,.pointer none,.slice none 0 0,.slice none 0 0,.int .i64 0,.bool false,.int .i64 0,.int .u32 0,.bool false,.bool false,.bool false]→Cl wa I l→Cl wa w.heap.size [.bool true,.int .i64 n,.int .u64 r.d,.int .u64 r.v,.int .u64 r.c]→Dw.Mv (· =B) w wa→GM wb P L Bs B N (putW (fun _=>0) a k 0)→Mv (· =B) wa wb→Cl wb S [.pointer (some ⟨P,0,none⟩),.bool true,.int .i64 n,.int .u64 r.d,.int .u64 r.v,.int .u64 r.c,.bool ev,.bool false,.bool true,.int .u64 20000,.int .i64 0,.bool true,.int .i64 0,.bool true,.int .i64 n,.slice (some ⟨I,0,none⟩) n n,.slice none 0 0,.pointer none,.slice none 0 0,.slice none 0 0,.int .i64 0,.bool false,.int .i64 0,.int .u32 0,.bool false,.bool false,.bool false]∧Cl wb I l∧Cl wb w.heap.size [.bool true,.int .i64 n,.int .u64 r.d,.int .u64 r.v,.int .u64 r.c]∧GM wb P L Bs B N (fun _=>0)∧Dw.Mv (· =B) w wb:=fun {wa wb a k} q1 q2 q3 q4 q5 q6=>
        ⟨q1.kept (q6.block S q1.lt (by show¬S=B;omega)),q2.kept (q6.block I q2.lt (by show¬I=B;omega)),q3.kept (q6.block _ q3.lt (by show¬w.heap.size=B;omega)),(zkh a k)▸q5,q4.trans (zeu q6)⟩
      by_cases hin:i<n
      · have hin':(i:Int)<n:=by omega
        obtain ⟨a,ha,ha2⟩: ∃a:Nat,(a:Int)=r.d+16*(i:Int)+14∧a+2≤N:=⟨(r.d+16*(i:Int)+14).toNat,by omega,by omega⟩;have e3:IntKind.wrap .u64 (r.d+16*(i:Int)+14)=(a:Int):=by rw [wrap_u64 _ (by omega) (by omega)];omega
        have hpl:=zig (qS.cell 3 _ rfl) (i:=i) (by omega) (by omega);have hst:=zcr P L Bs B N a 2 0 _ _ qg hN (by decide) ha2;clear hE hE1 hE2 hE3 ha ha2 w1k w2k;go_wp2_with (first
          | (go_at_call 57;refine hpl.mono ?_;rintro e wA ⟨rfl,hw⟩;have hw:=hw.symm;subst hw)
          | (go_at_call 18;refine hst.mono ?_;rintro e wB ⟨rfl,hgB,hmB⟩)
          | go_in)
        obtain ⟨p1,p2,p3,p4,p5⟩:=step qS qI qR qm hgB hmB;exact ⟨⟨i+1,by omega,by push_cast;rfl,p1,p2,p3,p4,p5⟩,by simp only [RowKit.intOf];omega⟩
      · have hin': ¬(i:Int)<n:=by omega
        obtain ⟨a,ha,ha2⟩: ∃a:Nat,r.v=a∧a+4≤N:=⟨r.v.toNat,by omega,by omega⟩;obtain ⟨b,hb,hb2⟩: ∃b:Nat,r.c=b∧b+4≤N:=⟨r.c.toNat,by omega,by omega⟩;have hst:=zcr P L Bs B N a 4 0 _ _ qg hN (by decide) ha2;have hst2:=fun {wB:World} (hg:GM wB P L Bs B N (fun _=>0))=>zcr P L Bs B N b 4 0 _ _ hg hN (by decide) hb2;have c3:wr.cell? ⟨w.heap.size,3,none⟩=some (.int .u64 a):=ha▸qR.cell 3 _ rfl;have c4: ∀ {wB:World},Cl wB w.heap.size [.bool true,.int .i64 n,.int .u64 r.d,.int .u64 r.v,.int .u64 r.c]→wB.cell? ⟨w.heap.size,4,none⟩=some (.int .u64 b):=fun q=>hb▸q.cell 4 _ rfl;clear hE hE1 hE2 hE3 ha hb ha2 hb2 hn2 w1k w2k;go_wp2_with (first
          | (go_at_call 18;have hz:=p1;refine (hst2 p4).mono ?_;rintro e wC ⟨rfl,hgC,hmC⟩;obtain ⟨o1,o2,o3,o4,o5⟩:=step p1 p2 p3 p5 hgC hmC)
          | (go_at_call 18;refine hst.mono ?_;rintro e wB ⟨rfl,hgB,hmB⟩;obtain ⟨p1,p2,p3,p4,p5⟩:=step qS qI qR qm hgB hmB;have d4:=c4 p3)
          | go_in)
        go_ret2;rw [hl] at o2;exact ⟨S,I,rfl,⟨n1,n2,n3⟩,o1,o2,o4,o5⟩
set_option maxRecDepth 100000 in
theorem Tryz.zsn {w:World} {P L Bs B N:Nat} {r:Rg} {ev:Bool} (st:GM w P L Bs B N (fun _=>0)) (hr:PgOk r) (hN:N≤1048576) (hF:40000≤N):
    Calls prog 11 #[.pointer (some ⟨P,0,none⟩),r.pval,.agg #[.bool ev,.bool true,.bool true],.int .u64 20000] w fun e w'=> ∃S I,e= .returned (.tuple #[.pointer (some ⟨S,0,none⟩),.int .i64 0])∧(w.heap.size≤S∧w.heap.size≤I∧S≠I)∧Cl w' S (zcy ev true r P I)∧Cl w' I (List.replicate r.n.toNat (.pointer none))∧GM w' P L Bs B N (fun _=>0)∧Dw.Mv (· =B) w w':=by
  have hn:=hr.bnd;have hd:=hr.d;have hv:=hr.v;have hc:=hr.c;obtain ⟨i0,hi0,hz0,hz1,hzb⟩:=info_parts ztl;obtain ⟨n,hrn⟩: ∃n:Nat,r.n=n:=⟨r.n.toNat,by omega⟩;have hn2:1≤n∧n≤16:=by omega
  have hps:=zfx 56 (.inl rfl);have hb2:=((Below.refl w.heap.size w).alloc (Nat.le_refl _) (Obj.cells #[.bool true,.int .i64 r.n,.int .u64 r.d,.int .u64 r.v,.int .u64 r.c] 30)).alloc (by simp) (Obj.cells #[.bool ev,.bool true,.bool true] 23);have kA:=(Cl.new w #[.bool true,.int .i64 r.n,.int .u64 r.d,.int .u64 r.v,.int .u64 r.c] 30).alloc (.cells #[.bool ev,.bool true,.bool true] 23);have kB:=Cl.new2 (w:=w.alloc (Obj.cells #[.bool true,.int .i64 r.n,.int .u64 r.d,.int .u64 r.v,.int .u64 r.c] 30)) (b:=w.heap.size+1) (arr:= #[.bool ev,.bool true,.bool true]) (t:=23) (by simp);have st2:=st.below hb2;have hfit:=zkr st2 hr hN hF;have hhas: ∀w',Below w.heap.size w w'→Calls prog 55 #[.pointer (some ⟨P,0,none⟩),.int .u64 20000,.int .u64 ((n:Int)*1024)] w' fun e w2=>e= .returned (.bool true)∧Below w'.heap.size w' w2:=fun w' hb=>by
    have:=zjr P L Bs B N 20000 ((n:Int)*1024) _ w' (st.below hb) hN (by omega) (by omega) (by omega) (by omega)
    rwa [decide_eq_true (show 1≤(n:Int)*1024∧20000+(n:Int)*1024≤(N:Int) by omega)] at this
  have hmk:=fun w=>run_makeSlice (P:=prog) w 125 127 i0 (.pointer none) underlying125 hi0 hz0 .i64 .i64 n n (by omega) (by omega) (by rw [hz1];omega) (by rw [hzb];omega) (by omega);have hmc:=zkA n;simp only [hz1,Int.toNat_natCast] at hmk;obtain ⟨C,hC⟩: ∃C,madeCells (Value.pointer none).cells (n*1)=C:=⟨_,rfl⟩;rw [hC] at hmc hmk;clear hC;have w1k:IntKind.wrap .u64 (n:Int)=n:=wrap_u64 _ (by omega) (by omega);have w2k:IntKind.wrap .u64 ((n:Int)*1024)=(n:Int)*1024:=wrap_u64 _ (by omega) (by omega);unfold Rg.pval at hfit ⊢;rw [hrn] at kA kB hb2 st2 hfit;have hrow: ∀I,zcy ev true r P I= [.pointer (some ⟨P,0,none⟩),.bool true,.int .i64 n,.int .u64 r.d,.int .u64 r.v,.int .u64 r.c,.bool ev,.bool true,.bool true,.int .u64 20000,.int .i64 0,.bool true,.int .i64 0,.bool true,.int .i64 n,.slice (some ⟨I,0,none⟩) n n,.slice none 0 0,.pointer none,.slice none 0 0,.slice none 0 0,.int .i64 0,.bool false,.int .i64 0,.int .u32 0,.bool false,.bool false,.bool false]:=fun I=>by
    unfold zcy DS.row DS.fresh;simp only [hrn,Int.toNat_natCast]
  simp only [hrow];rw [hrn,Int.toNat_natCast];have hE:HidQ (r.d=4096∧r.v=4096+16*(n:Int)∧r.c=4100+16*(n:Int)):=⟨hd,by omega,by omega⟩;clear hrow hn hd hv hc hr hrn;go_enter func11,ntmps11;go_wp2_with (first
    | (go_at_call 53;refine (ze6 P L Bs B N 0 _ _ st2).mono ?_;rintro e w' ⟨rfl,hw⟩;have hw:=hw.symm;subst hw)
    | (go_at_call 54;refine hfit.mono ?_;rintro e w3 ⟨rfl,hb3⟩;have hb03:=hb2.trans (hb3.mono hb2.size);have kA3:=kA.below hb3 kA.lt;have kB3:=kB.below hb3 kB.lt;have x0:=kA3.cell 0 _ rfl;have x1:=kA3.cell 1 _ rfl;have x2:=kA3.cell 2 _ rfl;have x3:=kA3.cell 3 _ rfl;have x4:=kA3.cell 4 _ rfl;have y0:=kB3.cell 0 _ rfl;have y1:=kB3.cell 1 _ rfl;have y2:=kB3.cell 2 _ rfl)
    | (go_at_call 55;refine (hhas _ hb03).mono ?_;rintro e w4 ⟨rfl,hb4⟩;have hb04:=hb03.trans (hb4.mono hb03.size);have kA4:=kA3.below hb4 kA3.lt;have kB4:=kB3.below hb4 kB3.lt;have v0:=kA4.cell 0 _ rfl;have v1:=kA4.cell 1 _ rfl;have v2:=kA4.cell 2 _ rfl;have v3:=kA4.cell 3 _ rfl;have v4:=kA4.cell 4 _ rfl;have u0:=kB4.cell 0 _ rfl;have u1:=kB4.cell 1 _ rfl;have u2:=kB4.cell 2 _ rfl)
    | go_in)
  go_cut [13] from 49 to 61 (fun dv wx=> ∃S I,dv= .pointer (some ⟨S,0,none⟩)∧(w.heap.size≤S∧w.heap.size≤I∧S≠I∧S≠w.heap.size∧I≠w.heap.size)∧Cl wx S [.pointer (some ⟨P,0,none⟩),.bool true,.int .i64 n,.int .u64 r.d,.int .u64 r.v,.int .u64 r.c,.bool ev,.bool true,.bool true,.int .u64 20000,.int .i64 0,.bool true,.int .i64 0,.bool true,.int .i64 n,.slice (some ⟨I,0,none⟩) n n,.slice none 0 0,.pointer none,.slice none 0 0,.slice none 0 0,.int .i64 0,.bool false,.int .i64 0,.int .u32 0,.bool false,.bool false,.bool false]∧Cl wx I (List.replicate n (.pointer none))∧Cl wx w.heap.size [.bool true,.int .i64 n,.int .u64 r.d,.int .u64 r.v,.int .u64 r.c]∧Below w.heap.size w wx)
  case first=>
    go_region_held3 (fun w'=>w'.cell? ⟨w.heap.size,0,none⟩=some (.bool true)∧w'.cell? ⟨w.heap.size,1,none⟩=some (.int .i64 n)∧w'.cell? ⟨w.heap.size,2,none⟩=some (.int .u64 r.d)∧w'.cell? ⟨w.heap.size,3,none⟩=some (.int .u64 r.v)∧w'.cell? ⟨w.heap.size,4,none⟩=some (.int .u64 r.c)∧w'.cell? ⟨w.heap.size+1,0,none⟩=some (.bool ev)∧w'.cell? ⟨w.heap.size+1,1,none⟩=some (.bool true)∧w'.cell? ⟨w.heap.size+1,2,none⟩=some (.bool true)) (go_keep)
      (first
        | (go_at_call 56;have hz:=hb5;refine (hps _).mono ?_;rintro e w6 ⟨rfl,hb6⟩;have t0:w6.cell? ⟨w.heap.size,0,none⟩=some (.bool true):=zak hb6 (by go_keep);have t1:w6.cell? ⟨w.heap.size,1,none⟩=some (.int .i64 n):=zak hb6 (by go_keep);have t2:w6.cell? ⟨w.heap.size,2,none⟩=some (.int .u64 r.d):=zak hb6 (by go_keep);have t3:w6.cell? ⟨w.heap.size,3,none⟩=some (.int .u64 r.v):=zak hb6 (by go_keep);have t4:w6.cell? ⟨w.heap.size,4,none⟩=some (.int .u64 r.c):=zak hb6 (by go_keep);have t5:w6.cell? ⟨w.heap.size+1,0,none⟩=some (.bool ev):=zak hb6 (by go_keep);have t6:w6.cell? ⟨w.heap.size+1,1,none⟩=some (.bool true):=zak hb6 (by go_keep);have t7:w6.cell? ⟨w.heap.size+1,2,none⟩=some (.bool true):=zak hb6 (by go_keep))
        | (go_at_call 56;refine (hps _).mono ?_;rintro e w5 ⟨rfl,hb5⟩;have z0:w5.cell? ⟨w.heap.size,0,none⟩=some (.bool true):=zak hb5 (by go_keep);have z1:w5.cell? ⟨w.heap.size,1,none⟩=some (.int .i64 n):=zak hb5 (by go_keep);have z2:w5.cell? ⟨w.heap.size,2,none⟩=some (.int .u64 r.d):=zak hb5 (by go_keep);have z3:w5.cell? ⟨w.heap.size,3,none⟩=some (.int .u64 r.v):=zak hb5 (by go_keep);have z4:w5.cell? ⟨w.heap.size,4,none⟩=some (.int .u64 r.c):=zak hb5 (by go_keep);have z5:w5.cell? ⟨w.heap.size+1,0,none⟩=some (.bool ev):=zak hb5 (by go_keep);have z6:w5.cell? ⟨w.heap.size+1,1,none⟩=some (.bool true):=zak hb5 (by go_keep);have z7:w5.cell? ⟨w.heap.size+1,2,none⟩=some (.bool true):=zak hb5 (by go_keep)))
    all_goals (go_wp2_with fail)
    all_goals go_meet
    all_goals
      have hD:Below w.heap.size w w4.drew:=hb04.drew;have kD:Cl w4.drew w.heap.size [.bool true,.int .i64 n,.int .u64 r.d,.int .u64 r.v,.int .u64 r.c]:=kA4.kept rfl;have hs1:=hb04.size;have hd1:w4.drew.heap.size=w4.heap.size:=rfl;have hkA:=kA4.lt
    · have h5:=hD.trans (hb5.mono hD.size);have h6:=h5.trans (hb6.mono h5.size);have k6:=(kD.below hb5 kD.lt).below hb6 (kD.below hb5 kD.lt).lt;have q6:=h6.size;exact ⟨w6.heap.size+1,w6.heap.size,rfl,⟨by omega,by omega,by omega,by have:=k6.lt;omega,by have:=k6.lt;omega⟩,Cl.new2 (by simp),hmc▸(Cl.new w6 C 127).alloc _,(k6.alloc _).alloc _,(h6.alloc h6.size _).alloc (by simp;omega) _⟩
    · have h5:=hD.trans (hb5.mono hD.size);have h5a:=h5.alloc h5.size (.cells C 127);have h6:=h5a.trans (hb6.mono h5a.size);have k5:=(kD.below hb5 kD.lt).alloc (.cells C 127);have k6:=k5.below hb6 k5.lt;have kI:=(hmc▸Cl.new w5 C 127:Cl _ w5.heap.size (List.replicate n (.pointer none)));have kI6:=kI.below hb6 kI.lt;have q5:=h5.size;have q6:=hb6.size;have l5:=(kD.below hb5 kD.lt).lt;simp only [zas] at q6;exact ⟨w6.heap.size,w5.heap.size,rfl,⟨by omega,by omega,by omega,by omega,by omega⟩,Cl.new w6 _ _,kI6.alloc _,k6.alloc _,h6.alloc h6.size _⟩
    · have hX:=(hb04.alloc hb04.size (.cells C 127)).drew;have hsx:(w4.alloc (.cells C 127)).drew.heap.size=w4.heap.size+1:=by show (w4.alloc (.cells C 127)).heap.size=_;simp
      have h5:=hX.trans (hb5.mono (by omega));have h6:=h5.trans (hb6.mono h5.size);have kI0:Cl (w4.alloc (.cells C 127)) w4.heap.size (List.replicate n (.pointer none)):=hmc▸Cl.new w4 C 127;have kI:Cl (w4.alloc (.cells C 127)).drew w4.heap.size (List.replicate n (.pointer none)):=kI0.kept rfl;have kI5:=kI.below hb5 kI.lt;have kI6:=kI5.below hb6 kI5.lt;have kX:Cl (w4.alloc (.cells C 127)).drew w.heap.size [.bool true,.int .i64 n,.int .u64 r.d,.int .u64 r.v,.int .u64 r.c]:=(kA4.alloc _).kept rfl;have k5:=kX.below hb5 kX.lt;have k6:=k5.below hb6 k5.lt;have q5:=hb5.size;have q6:=hb6.size;exact ⟨w6.heap.size,w4.heap.size,rfl,⟨by omega,by omega,by omega,by omega,by omega⟩,Cl.new w6 _ _,kI6.alloc _,k6.alloc _,h6.alloc h6.size _⟩
  case rest=>
    obtain ⟨S,I,rfl,⟨n1,n2,n3,n4,n5⟩,kS,kI,kR,hbx⟩:=hcut;obtain ⟨l,hl⟩: ∃l,l=List.replicate n (Value.pointer none):=⟨_,rfl⟩;rw [←hl] at kI;have hgx:=st.below hbx;have sB:B<w.heap.size:=st.bl;have hmx:=zaa (K:=(· =B)) hbx;have r1:=kR.cell 1 _ rfl;obtain ⟨hE1,hE2,hE3⟩:=hE.out;clear hmk hmc hps hhas hfit x0 x1 x2 x3 x4 y0 y1 y2 v0 v1 v2 v3 v4 u0 u1 u2;go_wp2_with fail;go_loopw [64] (fun iv wr=> ∃i:Nat,i≤n∧iv= .int .i64 i∧Cl wr S [.pointer (some ⟨P,0,none⟩),.bool true,.int .i64 n,.int .u64 r.d,.int .u64 r.v,.int .u64 r.c,.bool ev,.bool true,.bool true,.int .u64 20000,.int .i64 0,.bool true,.int .i64 0,.bool true,.int .i64 n,.slice (some ⟨I,0,none⟩) n n,.slice none 0 0,.pointer none,.slice none 0 0,.slice none 0 0,.int .i64 0,.bool false,.int .i64 0,.int .u32 0,.bool false,.bool false,.bool false]∧Cl wr I l∧Cl wr w.heap.size [.bool true,.int .i64 n,.int .u64 r.d,.int .u64 r.v,.int .u64 r.c]∧GM wr P L Bs B N (fun _=>0)∧Dw.Mv (· =B) w wr) (fun iv _=>n-(RowKit.intOf iv).toNat)
    case atStart=>exact ⟨0,Nat.zero_le _,rfl,kS,kI,kR,hgx,hmx⟩
    case round=>
      obtain ⟨i,hi,rfl,qS,qI,qR,qg,qm⟩:=hrel;have step: ∀ {wa wb:World} {a k:Nat},Cl wa S [.pointer (some ⟨P,0,none⟩),.bool true,.int .i64 n,.int .u64 r.d,.int .u64 r.v,.int .u64 r.c,.bool ev,.bool true,.bool true,.int .u64 20000,.int .i64 0,.bool true,.int .i64 0,.bool true,.int .i64 n,.slice (some ⟨I,0,none⟩) n n,.slice none 0 0,.pointer none,.slice none 0 0,.slice none 0 0,.int .i64 0,.bool false,.int .i64 0,.int .u32 0,.bool false,.bool false,.bool false]→Cl wa I l→Cl wa w.heap.size [.bool true,.int .i64 n,.int .u64 r.d,.int .u64 r.v,.int .u64 r.c]→Dw.Mv (· =B) w wa→GM wb P L Bs B N (putW (fun _=>0) a k 0)→Mv (· =B) wa wb→Cl wb S [.pointer (some ⟨P,0,none⟩),.bool true,.int .i64 n,.int .u64 r.d,.int .u64 r.v,.int .u64 r.c,.bool ev,.bool true,.bool true,.int .u64 20000,.int .i64 0,.bool true,.int .i64 0,.bool true,.int .i64 n,.slice (some ⟨I,0,none⟩) n n,.slice none 0 0,.pointer none,.slice none 0 0,.slice none 0 0,.int .i64 0,.bool false,.int .i64 0,.int .u32 0,.bool false,.bool false,.bool false]∧Cl wb I l∧Cl wb w.heap.size [.bool true,.int .i64 n,.int .u64 r.d,.int .u64 r.v,.int .u64 r.c]∧GM wb P L Bs B N (fun _=>0)∧Dw.Mv (· =B) w wb:=fun {wa wb a k} q1 q2 q3 q4 q5 q6=>
        ⟨q1.kept (q6.block S q1.lt (by show¬S=B;omega)),q2.kept (q6.block I q2.lt (by show¬I=B;omega)),q3.kept (q6.block _ q3.lt (by show¬w.heap.size=B;omega)),(zkh a k)▸q5,q4.trans (zeu q6)⟩
      by_cases hin:i<n
      · have hin':(i:Int)<n:=by omega
        obtain ⟨a,ha,ha2⟩: ∃a:Nat,(a:Int)=r.d+16*(i:Int)+14∧a+2≤N:=⟨(r.d+16*(i:Int)+14).toNat,by omega,by omega⟩;have e3:IntKind.wrap .u64 (r.d+16*(i:Int)+14)=(a:Int):=by rw [wrap_u64 _ (by omega) (by omega)];omega
        have hpl:=zig (qS.cell 3 _ rfl) (i:=i) (by omega) (by omega);have hst:=zcr P L Bs B N a 2 0 _ _ qg hN (by decide) ha2;clear hE hE1 hE2 hE3 ha ha2 w1k w2k;go_wp2_with (first
          | (go_at_call 57;refine hpl.mono ?_;rintro e wA ⟨rfl,hw⟩;have hw:=hw.symm;subst hw)
          | (go_at_call 18;refine hst.mono ?_;rintro e wB ⟨rfl,hgB,hmB⟩)
          | go_in)
        obtain ⟨p1,p2,p3,p4,p5⟩:=step qS qI qR qm hgB hmB;exact ⟨⟨i+1,by omega,by push_cast;rfl,p1,p2,p3,p4,p5⟩,by simp only [RowKit.intOf];omega⟩
      · have hin': ¬(i:Int)<n:=by omega
        obtain ⟨a,ha,ha2⟩: ∃a:Nat,r.v=a∧a+4≤N:=⟨r.v.toNat,by omega,by omega⟩;obtain ⟨b,hb,hb2⟩: ∃b:Nat,r.c=b∧b+4≤N:=⟨r.c.toNat,by omega,by omega⟩;have hst:=zcr P L Bs B N a 4 0 _ _ qg hN (by decide) ha2;have hst2:=fun {wB:World} (hg:GM wB P L Bs B N (fun _=>0))=>zcr P L Bs B N b 4 0 _ _ hg hN (by decide) hb2;have c3:wr.cell? ⟨w.heap.size,3,none⟩=some (.int .u64 a):=ha▸qR.cell 3 _ rfl;have c4: ∀ {wB:World},Cl wB w.heap.size [.bool true,.int .i64 n,.int .u64 r.d,.int .u64 r.v,.int .u64 r.c]→wB.cell? ⟨w.heap.size,4,none⟩=some (.int .u64 b):=fun q=>hb▸q.cell 4 _ rfl;clear hE hE1 hE2 hE3 ha hb ha2 hb2 hn2 w1k w2k;go_wp2_with (first
          | (go_at_call 18;have hz:=p1;refine (hst2 p4).mono ?_;rintro e wC ⟨rfl,hgC,hmC⟩;obtain ⟨o1,o2,o3,o4,o5⟩:=step p1 p2 p3 p5 hgC hmC)
          | (go_at_call 18;refine hst.mono ?_;rintro e wB ⟨rfl,hgB,hmB⟩;obtain ⟨p1,p2,p3,p4,p5⟩:=step qS qI qR qm hgB hmB;have d4:=c4 p3)
          | go_in)
        go_ret2;rw [hl] at o2;exact ⟨S,I,rfl,⟨n1,n2,n3⟩,o1,o2,o4,o5⟩
theorem Tryz.zsp {w:World} {P L Bs B N:Nat} {r:Rg} {ev tb:Bool} (st:GM w P L Bs B N (fun _=>0)) (hr:PgOk r) (hN:N≤1048576) (hF:40000≤N):
  Calls prog 11 #[.pointer (some ⟨P,0,none⟩),r.pval,.agg #[.bool ev,.bool tb,.bool true],.int .u64 20000] w fun e w'=> ∃S I,e= .returned (.tuple #[.pointer (some ⟨S,0,none⟩),.int .i64 0])∧(w.heap.size≤S∧w.heap.size≤I∧S≠I)∧Cl w' S (zcy ev tb r P I)∧Cl w' I (List.replicate r.n.toNat (.pointer none))∧GM w' P L Bs B N (fun _=>0)∧Dw.Mv (· =B) w w':=by
 cases tb
 ·exact zso st hr hN hF
 ·exact zsn st hr hN hF
end Go.Proofs
end
