/-
  Proved: laws on the way to 'PserveEndsProof' (texts PuK PuL PuM PuN PuO PuP XbI XbK XbM XbN XbF XbG XbE XbO XbP XbQ PuR Lives6 Enter PserveEndsFacts); no condition.
-/
import Derived.Test.YtfoggkodmjnmcaaGreatM5
import Derived.OpenShut
import Derived.Lib.LaidU8
import Derived.Test.YtfoggkodmjnmcaaGreatProg
import Derived.KernelRfl
import Derived.Test.YtfoggkodmjnmcaaGreatRows
import Derived.WalkKit
import Derived.ProofKit
set_option linter.unusedSimpArgs false
set_option linter.unusedVariables false
set_option maxHeartbeats 4000000
noncomputable section
namespace Go.Proofs
open Go.Dw Go.RowKit Go.Maps Go.Sort
set_option maxRecDepth 10000 in
theorem Tryz.zoS {kd:Int} (hrun:(evL prog (zau (zez kd)) (zaD zdz) (zaC zdA) 100000 (.code (zaI prog [0,0,1,0,1,1,1,1,1,1,1,1,4]) [0,0,1,0,1,1,1,1,1,1,1,1,4] 232 (envS 232 zb1 zhe) (zas 0 zhd) (zaH zlu 0))).ways zr1=some zt8) (hok:(zah zhd&&zaf (zez kd)&&zak zdz&&zal zdA&&zan zb1&&zai zlu&&zaG 232 zb1&&Nat.ble 232 zaL&&zaB zhe)=true) {W0:World} {X9 X15 S P L Bs B M:Nat} {r:Rg} {av:Value} {acts:List Pc} {s:PS×(Nat→Int)} {i steps:Nat} {na:Int} {nw:Bool} {a:Act} {w:World} (h:PwI W0 X9 X15 S P L Bs B M r av acts s i steps na nw a w) (hi:i<acts.length) (hk:acts[i].k%7=kd):
    (zaI prog [0,0,1,0,1,1,1,1,1,1,1,1,4]).wp prog (fun ex a' w'=>ex= .normal∧ ∃s' steps' na' nw',PwI W0 X9 X15 S P L Bs B M r av acts s' (i+1) steps' na' nw' a' w') a w:=by
  obtain ⟨aa,c,rfl,hr0⟩:=h.aok.val
  rcases hr0 with h0|⟨R,o,rfl,hr0⟩
  · rw [h0] at hi;simp at hi
  have hxW:=hr0 i hi
  have hRlt:R<W0.heap.size:=World.block_lt_of_cell? W0 _ (hxW 0 _ rfl)
  have hx:=zaN hxW (h.old.block R hRlt)
  have hco:=h.aok.ok acts[i] (List.getElem_mem hi)
  have h60:=h.n60.1
  obtain ⟨l1,l2,l3,l4,l5,l6,l7,l8⟩:=h.lo
  have k1:=h.sw.ltS
  have k2:=h.sw.ltM
  have k3:=h.sw.mem.bl
  have k15:=own_lt h.nxt
  have hrg:=h.sw.rg
  have hbnd:=hrg.bnd
  have hcnt:=h.inv.tk
  have hstp:=h.inv.st
  have hna:=h.na
  have HL:=zy1 (N:=20000) h.inv hrg h.sw.pb h.sw.mem.byte
  obtain ⟨x,y,z,hacc⟩:=zwB 20000 r s.1 s.2
  rcases hst:zba 20000 r s.1 s.2 with ⟨av1,E,s',g'⟩
  rw [hst] at HL hacc
  simp only at HL hacc
  have hws:=zcN steps (by omega)
  have hup:=HL.up
  have hdn:=HL.down
  have f1:=HL.idle
  have f2:=HL.soon
  have f3:=HL.bad
  obtain ⟨ab,hab⟩:=HL.own
  have hc6:=(zvf (fun j hj=>(hab j hj).1) 20000).2
  have D:=pmD (m:=⟨r,acts[i],acts.length,i,steps,na,nw,s.1.tk.length,(s'.tk.length:Int),0,E,if (s').br then 4 else 0,x,y,z,(zcB s.2 g' 20000:Nat),na,nw,decide (s.1.ph≠0),decide (s'.ph≠0),false,false,decide ((s').ph≠0),.pointer (some ⟨P,0,none⟩),.pointer (some ⟨S,0,none⟩),.slice (some ⟨R,o,none⟩) acts.length c⟩) (w:=W0) hrg hco ⟨by show (0:Int)≤i;omega,by show (i:Int)<_;omega⟩ ⟨by show (0:Int)≤acts.length;omega,by show (acts.length:Int)<_;omega⟩ ⟨by show (0:Int)≤s.1.tk.length;omega,by show (s.1.tk.length:Int)<_;omega⟩ ⟨by show (0:Int)≤(s'.tk.length:Int);omega,by show (s'.tk.length:Int)<_;omega⟩ hna hna
  generalize (PmV.rho ⟨r,acts[i],acts.length,i,steps,na,nw,s.1.tk.length,(s'.tk.length:Int),0,E,if (s').br then 4 else 0,x,y,z,(zcB s.2 g' 20000:Nat),na,nw,decide (s.1.ph≠0),decide (s'.ph≠0),false,false,decide ((s').ph≠0),.pointer (some ⟨P,0,none⟩),.pointer (some ⟨S,0,none⟩),.slice (some ⟨R,o,none⟩) acts.length c⟩)=ρ at D
  have hj1:jOf [(X9,0),(X15,0),(R,o+9*i)] 1=some ⟨X9,0,0,none⟩:=rfl
  have hj2:jOf [(X9,0),(X15,0),(R,o+9*i)] 2=some ⟨X15,0,0,none⟩:=rfl
  have hj3:jOf [(X9,0),(X15,0),(R,o+9*i)] 3=some ⟨R,o+9*i,0,none⟩:=rfl
  have hlt:S<w.heap.size∧M<w.heap.size∧B<w.heap.size:=⟨k1,k2,k3⟩
  have hKs:plK S M B X15 S∧plK S M B X15 M∧plK S M B X15 B:=⟨.inl rfl,.inr (.inl rfl),.inr (.inr (.inl rfl))⟩
  refine wp_mono (zaz (ρ:=ρ) (K:=plK S M B X15) (g:=obG (pwO S P L Bs B M 20000 r) (fun b=>b≠X9∧b≠X15∧W0.heap.size≤b) w.heap.size w.heap.size (fun k=>match k with|0=>s|1=>s|_=>(s',g')) (fun k=>match k with|0=> []|1=> [imgR 5 20000 s.2]|2=> [imgR 5 20000 s.2]|_=> [imgR 5 20000 s.2,imgR 8 20000 g'])) (bl:= [(X9,0),(X15,0),(R,o+9*i)]) mixed hrun hok (fun b hb=>by rcases hb with rfl|rfl|rfl|rfl<;>assumption)
    ⟨zcO h.row (by simp) (D.rg _) (by rintro (e|e|e|e);exact h.x9.1 e;exact h.x9.2.1 e;exact h.x9.2.2.1 e;exact h.x9.2.2.2.2.2.2 e),za1 h.nxt (D.pos _) (.inr (.inr (.inr rfl))),zaX hx (by simp [Pc.cells]) (D.act _) (by rintro (e|e|e|e)<;>omega),trivial⟩ zrv (h.start hRlt rfl rfl)
    ⟨zb4 D.v0 (by decide) (Nat.le_refl _) (Nat.le_refl _) (fun e he=>by simp at he ⊢;rcases he with he|he|he|he<;>simp_all) rfl,zcq D.v2 D.d17 (by show s.1.tk.length≤1000000;omega) (Nat.le_refl _) (Nat.le_refl _),zeD D.i8 hk,zcU D.v2 D.b0,zzI D.v2 (by show (zba 20000 r s.1 s.2).1=_;rw [hst];exact hacc) D.i30 D.i31 D.i32 (by show _=(zba 20000 r s.1 s.2).2.1;rw [hst];exact D.i21) (by show (s',g')=((zba 20000 r s.1 s.2).2.2.1,(zba 20000 r s.1 s.2).2.2.2);rw [hst]) (Nat.le_refl _) hlt hKs (fun e he=>he),zcU D.v2 D.b1,zb4 D.v0 (by decide) (Nat.le_refl _) (Nat.le_refl _) (fun e he=>by simp at he ⊢;rcases he with he|he|he|he<;>simp_all) rfl,zcq D.v2 (D.d18.trans rfl) (by show (s').tk.length≤1000000;omega) (Nat.le_refl _) (Nat.le_refl _),zgs D.v2 D.i23,zcU D.v2 D.b4,trivial⟩
    ⟨zfQ hrg (by decide) D.d19 (fun j=>D.rg j) (show imgR 5 20000 s.2∈ [imgR 5 20000 s.2,imgR 8 20000 g'] by simp) (show imgR 8 20000 g'∈ [imgR 5 20000 s.2,imgR 8 20000 g'] by simp) (fun j hj=>(hab j hj).2) D.i33 rfl,trivial⟩ trivial h.size h.dfr ?_ ?_) fun ex a2 w2 hh=> ?_
  · intro t ht
    simp only [zb1,zcA,List.mem_cons,List.not_mem_nil,or_false] at ht
    rcases ht with rfl|rfl|rfl|rfl|rfl|rfl|rfl|rfl|rfl
    · rw [h.t0];exact zac D.sz
    · rw [h.t2];exact ⟨D.v4.symm,_,_,_,rfl,D.d7.symm,⟨R,o,_,i,rfl,hj3,rfl,D.d6,hi,rfl⟩,trivial⟩
    · rw [h.t7];exact zaR D.v0 rfl
    · rw [h.t8];exact zaR D.v2 rfl
    · rw [h.t9];exact ⟨_,hj1,rfl⟩
    · rw [h.t11];exact zac D.d19
    · rw [h.t14];exact zac D.i15
    · rw [h.t15];exact ⟨_,hj2,rfl⟩
    · rw [h.t16];exact zac D.d6
  · have e0:IntKind.wrap .i64 ((s'.tk.length:Int)-s.1.tk.length)≤1∧ -1≤IntKind.wrap .i64 ((s'.tk.length:Int)-s.1.tk.length):=by rw [zbF (by omega) (by omega)];omega
    refine zaa.2 ⟨?_,zaa.2 ⟨?_,zaa.2 ⟨?_,zaa.2 ⟨?_,zae.2 trivial⟩⟩⟩⟩
    · rw [zaQ,D.d6,D.d7]
      exact decide_eq_true (by show (i:Int)<acts.length;omega)
    · rw [zaY,zat,D.i33,zad]
      exact decide_eq_false (by show¬((zcB s.2 g' 20000:Nat):Int)>6;omega)
    · rw [zaY,za4,D.d17,D.d18,zad]
      exact decide_eq_false (by show¬IntKind.wrap .i64 ((s'.tk.length:Int)-s.1.tk.length)>1;omega)
    · rw [zaQ,za4,D.d17,D.d18,zad]
      exact decide_eq_false (by show¬IntKind.wrap .i64 ((s'.tk.length:Int)-s.1.tk.length)< -1;omega)
  · obtain ⟨q,hq,hto,lf,hlf,rfl,hsz2,j2,hdf2,he⟩:=hh
    have hmv:=he.mv
    have hwi:=zcN i (by omega)
    have lc1:=zag (he.sub _ _ hj1)
    have lc2:=zag (he.sub _ _ hj2)
    have hbr:=(HL.inv).pe.brk
    unfold zt8 at hq
    simp only [List.mem_cons,List.not_mem_nil,or_false] at hq
    rcases hq with rfl|rfl|rfl|rfl|rfl|rfl|rfl|rfl|rfl|rfl|rfl|rfl|rfl|rfl|rfl|rfl|rfl|rfl|rfl|rfl|rfl|rfl|rfl
    all_goals
      simp only [zaa,zae,zbb,zaY,zaA,zat,den_add,zad,D.i21,D.i23,D.i15,D.b0,D.b1,D.b2,D.b3,D.b4,beq_iff_eq,beq_eq_false_iff_ne,ne_eq,decide_eq_true_eq,decide_eq_false_iff_not,and_true,hws] at hto
      cases hlf
    all_goals
      generalize hsn:(if s'.br=true then (4:Int) else 0)=er at hto
      have f4:er=4→s'.ph=0:=fun hh=>by
        rw [←hsn] at hh
        split at hh
        · rename_i hb;exact hbr hb
        · cases hh
    all_goals first
      | (exfalso;omega)
      | (obtain ⟨F2,z1,z2,F0,z3,z4,_⟩:=he.gho
         have hO:=(he.rows.2.1 _ (he.sub _ _ hj2)).2 (.inr (.inr (.inr (.inr rfl)))) rfl
         simp only [AV.valL,AV.val,D.d5,D.b5,D.d34,D.b6,zaA] at hO
         refine ⟨rfl,_,(steps+1),_,_,h.next (s':=(s',g')) (steps':=(steps+1)) hmv hsz2 hdf2 z2 ⟨F0,z3,z4⟩ HL.inv hna hO ?_⟩
         have hs2:=zav he.ret
         rw [hs2]
         simp only [AV.valL,AV.val,D.sz,D.v0,D.v2,D.v4,D.d6,D.d19,D.i15,zat,den_add,zad,hwi,lc1,lc2,hws])
set_option maxRecDepth 10000 in
theorem Tryz.zyM {W0:World} {X9 X15 S P L Bs B M:Nat} {r:Rg} {av:Value} {acts:List Pc} {s:PS×(Nat→Int)} {i steps:Nat} {na:Int} {nw:Bool} {a:Act} {w:World} (h:PwI W0 X9 X15 S P L Bs B M r av acts s i steps na nw a w) (hi:i<acts.length) (hk:acts[i].k%7=1):
  (zaI prog [0,0,1,0,1,1,1,1,1,1,1,1,4]).wp prog (fun ex a' w'=>ex= .normal∧ ∃s' steps' na' nw',PwI W0 X9 X15 S P L Bs B M r av acts s' (i+1) steps' na' nw' a' w') a w:=by
 obtain ⟨aa,c,rfl,hr0⟩:=h.aok.val
 rcases hr0 with h0|⟨R,o,rfl,hr0⟩
 ·rw [h0] at hi;simp at hi
 have hxW:=hr0 i hi
 have hRlt:R<W0.heap.size:=World.block_lt_of_cell? W0 _ (hxW 0 _ rfl)
 have hx:=zaN hxW (h.old.block R hRlt)
 have hco:=h.aok.ok acts[i] (List.getElem_mem hi)
 have h60:=h.n60.1
 obtain ⟨l1,l2,l3,l4,l5,l6,l7,l8⟩:=h.lo
 have k1:=h.sw.ltS
 have k2:=h.sw.ltM
 have k3:=h.sw.mem.bl
 have k15:=own_lt h.nxt
 have hrg:=h.sw.rg
 have hbnd:=hrg.bnd
 have hcnt:=h.inv.tk
 have hstp:=h.inv.st
 have hna:=h.na
 obtain ⟨s',bR,hs',hbR,hinv⟩: ∃(s':PS) (bR:Bool),((s',s.2)=if (zbt s.1).length=0 then s else ((zci s.1 ((zbt s.1).getD (acts[i].n%(zbt s.1).length).toNat 0) 0).2,s.2))∧bR=decide ((zbt s.1).length≠0∧(zci s.1 ((zbt s.1).getD (acts[i].n%(zbt s.1).length).toNat 0) 0).1=0)∧PI s' (if bR then 0 else steps) (i+1)∧s'.tk=s.1.tk:=by
  by_cases h0:(zbt s.1).length=0
  ·refine ⟨s.1,false,by rw [if_pos h0],by simp [h0],h.inv.stay,rfl⟩
  ·refine ⟨_,_,by rw [if_neg h0],rfl,?_,zza _ _ _⟩
   have h2:=h.inv.ret ((zbt s.1).getD (acts[i].n%(zbt s.1).length).toNat 0) 0
   by_cases h1:(zci s.1 ((zbt s.1).getD (acts[i].n%(zbt s.1).length).toNat 0) 0).1=0
   ·rw [if_pos h1] at h2
    rw [show decide ((zbt s.1).length≠0∧(zci s.1 ((zbt s.1).getD (acts[i].n%(zbt s.1).length).toNat 0) 0).1=0)=true from decide_eq_true ⟨h0,h1⟩]
    exact h2
   ·rw [if_neg h1] at h2
    rw [show decide ((zbt s.1).length≠0∧(zci s.1 ((zbt s.1).getD (acts[i].n%(zbt s.1).length).toNat 0) 0).1=0)=false from decide_eq_false fun hh=>h1 hh.2]
    exact h2
 have htk:=hinv.2
 have hhl:=zhk s.1
 have D:=pmD (m:=⟨r,acts[i],acts.length,i,steps,na,nw,s.1.tk.length,(s.1.tk.length:Int),0,0,if (s').br then 4 else 0,0,0,0,0,na,nw,false,false,false,bR,decide ((s').ph≠0),.pointer (some ⟨P,0,none⟩),.pointer (some ⟨S,0,none⟩),.slice (some ⟨R,o,none⟩) acts.length c⟩) (w:=W0) hrg hco ⟨by show (0:Int)≤i;omega,by show (i:Int)<_;omega⟩ ⟨by show (0:Int)≤acts.length;omega,by show (acts.length:Int)<_;omega⟩ ⟨by show (0:Int)≤s.1.tk.length;omega,by show (s.1.tk.length:Int)<_;omega⟩ ⟨by show (0:Int)≤(s.1.tk.length:Int);omega,by show (s.1.tk.length:Int)<_;omega⟩ hna hna
 generalize (PmV.rho ⟨r,acts[i],acts.length,i,steps,na,nw,s.1.tk.length,(s.1.tk.length:Int),0,0,if (s').br then 4 else 0,0,0,0,0,na,nw,false,false,false,bR,decide ((s').ph≠0),.pointer (some ⟨P,0,none⟩),.pointer (some ⟨S,0,none⟩),.slice (some ⟨R,o,none⟩) acts.length c⟩)=ρ at D
 have hj1:jOf [(X9,0),(X15,0),(R,o+9*i)] 1=some ⟨X9,0,0,none⟩:=rfl
 have hj2:jOf [(X9,0),(X15,0),(R,o+9*i)] 2=some ⟨X15,0,0,none⟩:=rfl
 have hj3:jOf [(X9,0),(X15,0),(R,o+9*i)] 3=some ⟨R,o+9*i,0,none⟩:=rfl
 have hlt:S<w.heap.size∧M<w.heap.size∧B<w.heap.size:=⟨k1,k2,k3⟩
 have hKs:plK S M B X15 S∧plK S M B X15 M∧plK S M B X15 B:=⟨.inl rfl,.inr (.inl rfl),.inr (.inr (.inl rfl))⟩
 refine wp_mono (zaz (ρ:=ρ) (K:=plK S M B X15) (g:=obG (pwO S P L Bs B M 20000 r) (fun b=>b≠X9∧b≠X15∧W0.heap.size≤b) w.heap.size w.heap.size (fun k=>match k with|0=>s|1=>s|6=>s|_=>(s',s.2)) (fun k=>match k with|0=> []|1=> [imgR 5 20000 s.2]|2=> [imgR 5 20000 s.2]|6=> [zz5 (zbt s.1),imgR 5 20000 s.2]|_=> [imgR 5 20000 s.2,imgR 8 20000 s.2])) (bl:= [(X9,0),(X15,0),(R,o+9*i)]) mixed zGs zIN (fun b hb=>by rcases hb with rfl|rfl|rfl|rfl<;>assumption)
  ⟨zcO h.row (by simp) (D.rg _) (by rintro (e|e|e|e);exact h.x9.1 e;exact h.x9.2.1 e;exact h.x9.2.2.1 e;exact h.x9.2.2.2.2.2.2 e),za1 h.nxt (D.pos _) (.inr (.inr (.inr rfl))),zaX hx (by simp [Pc.cells]) (D.act _) (by rintro (e|e|e|e)<;>omega),trivial⟩ zrv (h.start hRlt rfl rfl)
  ⟨zb4 D.v0 (by decide) (Nat.le_refl _) (Nat.le_refl _) (fun e he=>by simp at he ⊢;rcases he with he|he|he|he<;>simp_all) rfl,zcq D.v2 D.d17 (by show s.1.tk.length≤1000000;omega) (Nat.le_refl _) (Nat.le_refl _),zeD D.i8 hk,zzM D.v2 D.d17 (by show s.1.tk.length≤1000000;omega) (Nat.le_refl _) (Nat.le_refl _) (fun e he=>by simpa using he) rfl,zb4 D.v0 (by decide) (Nat.le_refl _) (Nat.le_refl _) (fun e he=>by simp at he ⊢;rcases he with he|he|he|he<;>simp_all) rfl,zcq D.v2 (D.d18.trans (by show _=(s'.tk.length:Int);rw [htk])) (by show s'.tk.length≤1000000;rw [htk];omega) (Nat.le_refl _) (Nat.le_refl _),zgs D.v2 D.i23,zcU D.v2 D.b4,trivial⟩
  ⟨zHp D.v2 (D.d17.trans (by show (s.1.tk.length:Int)=((zbt s.1).length:Nat);rw [hhl])) (by rw [hhl];omega) D.i9 hlt hKs (Nat.le_refl _) (Nat.le_refl _) hco.n.1 (show zz5 (zbt s.1)∈ [zz5 (zbt s.1),imgR 5 20000 s.2] by simp) rfl rfl rfl rfl (fun e he=>⟨by simp at he ⊢;exact .inr he,by simp at he;subst he;exact ⟨_,zwR s.2 5 20000 (by decide),fun z hz=>by cases hz⟩⟩) (fun e he=>by have:=h.inv.pe.seg e he;omega) hs' (D.b3.trans hbR),zfQ hrg (by decide) D.d19 (fun j=>D.rg j) (show imgR 5 20000 s.2∈ [imgR 5 20000 s.2,imgR 8 20000 s.2] by simp) (show imgR 8 20000 s.2∈ [imgR 5 20000 s.2,imgR 8 20000 s.2] by simp) (fun j hj=>absurd rfl hj) (D.i33.trans (zhw _ _)) rfl,zfQ hrg (by decide) D.d19 (fun j=>D.rg j) (show imgR 5 20000 s.2∈ [imgR 5 20000 s.2,imgR 8 20000 s.2] by simp) (show imgR 8 20000 s.2∈ [imgR 5 20000 s.2,imgR 8 20000 s.2] by simp) (fun j hj=>absurd rfl hj) (D.i33.trans (zhw _ _)) rfl,trivial⟩ trivial h.size h.dfr ?_ ?_) fun ex a2 w2 hh=> ?_
 ·intro t ht
  simp only [zgj,zcA,List.mem_cons,List.not_mem_nil,or_false] at ht
  rcases ht with rfl|rfl|rfl|rfl|rfl|rfl|rfl|rfl|rfl
  ·rw [h.t0];exact zac D.sz
  ·rw [h.t2];exact ⟨D.v4.symm,_,_,_,rfl,D.d7.symm,⟨R,o,_,i,rfl,hj3,rfl,D.d6,hi,rfl⟩,trivial⟩
  ·rw [h.t7];exact zaR D.v0 rfl
  ·rw [h.t8];exact zaR D.v2 rfl
  ·rw [h.t9];exact ⟨_,hj1,rfl⟩
  ·rw [h.t11];exact zac D.d19
  ·rw [h.t14];exact zac D.i15
  ·rw [h.t15];exact ⟨_,hj2,rfl⟩
  ·rw [h.t16];exact zac D.d6
 ·have e0:IntKind.wrap .i64 ((s.1.tk.length:Int)-s.1.tk.length)≤1∧ -1≤IntKind.wrap .i64 ((s.1.tk.length:Int)-s.1.tk.length):=by rw [zbF (by omega) (by omega)];omega
  refine zaa.2 ⟨?_,zaa.2 ⟨?_,zaa.2 ⟨?_,zaa.2 ⟨?_,zae.2 trivial⟩⟩⟩⟩
  ·rw [zaQ,D.d6,D.d7]
   exact decide_eq_true (by show (i:Int)<acts.length;omega)
  ·rw [zaY,zat,D.i33,zad]
   exact decide_eq_false (by show¬(0:Int)>6;omega)
  ·rw [zaY,za4,D.d17,D.d18,zad]
   exact decide_eq_false (by show¬IntKind.wrap .i64 ((s.1.tk.length:Int)-s.1.tk.length)>1;omega)
  ·rw [zaQ,za4,D.d17,D.d18,zad]
   exact decide_eq_false (by show¬IntKind.wrap .i64 ((s.1.tk.length:Int)-s.1.tk.length)< -1;omega)
 ·obtain ⟨q,hq,hto,lf,hlf,rfl,hsz2,j2,hdf2,he⟩:=hh
  have hmv:=he.mv
  have hwi:=zcN i (by omega)
  have lc1:=zag (he.sub _ _ hj1)
  have lc2:=zag (he.sub _ _ hj2)
  have hbr:=(hinv.1).pe.brk
  unfold zEE at hq
  simp only [List.mem_cons,List.not_mem_nil,or_false] at hq
  rcases hq with rfl|rfl|rfl|rfl|rfl|rfl
  all_goals
   simp only [zaa,zae,zbb,zaY,zaA,zat,den_add,zad,D.i21,D.i23,D.i15,D.b0,D.b1,D.b2,D.b3,D.b4,beq_iff_eq,beq_eq_false_iff_ne,ne_eq,decide_eq_true_eq,decide_eq_false_iff_not,and_true] at hto
   cases hlf
  ·exfalso
   obtain ⟨_,e1,e2⟩:=hto
   split at e1
   ·rename_i hb;exact e2 (hbr hb)
   ·cases e1
  ·obtain ⟨F2,z1,z2,F0,z3,z4,_⟩:=he.gho
   have hO:=(he.rows.2.1 _ (he.sub _ _ hj2)).2 (.inr (.inr (.inr (.inr rfl)))) rfl
   simp only [AV.valL,AV.val,D.d5,D.b5,D.d34,D.b6,zaA] at hO
   refine ⟨rfl,_,0,_,_,h.next (s':=(s',s.2)) (steps':=0) hmv hsz2 hdf2 z2 ⟨F0,z3,z4⟩ (show PI s' 0 (i+1) by simpa only [hto.1,if_true] using hinv.1) hna hO ?_⟩
   have hs2:=zav he.ret
   rw [hs2]
   simp only [AV.valL,AV.val,D.sz,D.v0,D.v2,D.v4,D.d6,D.d19,D.i15,zat,den_add,zad,hwi,lc1,lc2]
   rfl
  ·obtain ⟨F2,z1,z2,F0,z3,z4,_⟩:=he.gho
   have hO:=(he.rows.2.1 _ (he.sub _ _ hj2)).2 (.inr (.inr (.inr (.inr rfl)))) rfl
   simp only [AV.valL,AV.val,D.d5,D.b5,D.d34,D.b6,zaA] at hO
   refine ⟨rfl,_,0,_,_,h.next (s':=(s',s.2)) (steps':=0) hmv hsz2 hdf2 z2 ⟨F0,z3,z4⟩ (show PI s' 0 (i+1) by simpa only [hto.1,if_true] using hinv.1) hna hO ?_⟩
   have hs2:=zav he.ret
   rw [hs2]
   simp only [AV.valL,AV.val,D.sz,D.v0,D.v2,D.v4,D.d6,D.d19,D.i15,zat,den_add,zad,hwi,lc1,lc2]
   rfl
  ·exfalso
   obtain ⟨_,e1,e2⟩:=hto
   split at e1
   ·rename_i hb;exact e2 (hbr hb)
   ·cases e1
  ·obtain ⟨F2,z1,z2,F0,z3,z4,_⟩:=he.gho
   have hO:=(he.rows.2.1 _ (he.sub _ _ hj2)).2 (.inr (.inr (.inr (.inr rfl)))) rfl
   simp only [AV.valL,AV.val,D.d5,D.b5,D.d34,D.b6,zaA] at hO
   refine ⟨rfl,_,steps,_,_,h.next (s':=(s',s.2)) (steps':=steps) hmv hsz2 hdf2 z2 ⟨F0,z3,z4⟩ (show PI s' steps (i+1) by simpa only [hto.1,Bool.false_eq_true,if_false] using hinv.1) hna hO ?_⟩
   have hs2:=zav he.ret
   rw [hs2]
   simp only [AV.valL,AV.val,D.sz,D.v0,D.v2,D.v4,D.d6,D.d19,D.i15,zat,den_add,zad,hwi,lc1,lc2]
  ·obtain ⟨F2,z1,z2,F0,z3,z4,_⟩:=he.gho
   have hO:=(he.rows.2.1 _ (he.sub _ _ hj2)).2 (.inr (.inr (.inr (.inr rfl)))) rfl
   simp only [AV.valL,AV.val,D.d5,D.b5,D.d34,D.b6,zaA] at hO
   refine ⟨rfl,_,steps,_,_,h.next (s':=(s',s.2)) (steps':=steps) hmv hsz2 hdf2 z2 ⟨F0,z3,z4⟩ (show PI s' steps (i+1) by simpa only [hto.1,Bool.false_eq_true,if_false] using hinv.1) hna hO ?_⟩
   have hs2:=zav he.ret
   rw [hs2]
   simp only [AV.valL,AV.val,D.sz,D.v0,D.v2,D.v4,D.d6,D.d19,D.i15,zat,den_add,zad,hwi,lc1,lc2]
set_option maxRecDepth 10000 in
theorem Tryz.zyJ {W0:World} {X9 X15 S P L Bs B M:Nat} {r:Rg} {av:Value} {acts:List Pc} {s:PS×(Nat→Int)} {i steps:Nat} {na:Int} {nw:Bool} {a:Act} {w:World} (h:PwI W0 X9 X15 S P L Bs B M r av acts s i steps na nw a w) (hi:i<acts.length) (hk:acts[i].k%7=6):
  (zaI prog [0,0,1,0,1,1,1,1,1,1,1,1,4]).wp prog (fun ex a' w'=>ex= .normal∧ ∃s' steps' na' nw',PwI W0 X9 X15 S P L Bs B M r av acts s' (i+1) steps' na' nw' a' w') a w:=by
 obtain ⟨aa,c,rfl,hr0⟩:=h.aok.val
 rcases hr0 with h0|⟨R,o,rfl,hr0⟩
 ·rw [h0] at hi;simp at hi
 have hxW:=hr0 i hi
 have hRlt:R<W0.heap.size:=World.block_lt_of_cell? W0 _ (hxW 0 _ rfl)
 have hx:=zaN hxW (h.old.block R hRlt)
 have hco:=h.aok.ok acts[i] (List.getElem_mem hi)
 have h60:=h.n60.1
 obtain ⟨l1,l2,l3,l4,l5,l6,l7,l8⟩:=h.lo
 have k1:=h.sw.ltS
 have k2:=h.sw.ltM
 have k3:=h.sw.mem.bl
 have k15:=own_lt h.nxt
 have hrg:=h.sw.rg
 have hbnd:=hrg.bnd
 have hcnt:=h.inv.tk
 have hstp:=h.inv.st
 have hna:=h.na
 have hinv:=h.inv.stay
 have hp0:0≤acts[i].n%r.n:=Int.emod_nonneg _ (by omega)
 have hp1:acts[i].n%r.n<r.n:=Int.emod_lt_of_pos _ (by omega)
 obtain ⟨g',hg'⟩: ∃g',g'=zgl r.d (zbo r.n (acts[i].n%r.n) na nw acts[i].sl) s.2:=⟨_,rfl⟩
 have h100:=h.n60.2 acts[i] (List.getElem_mem hi)
 have hpl:=zpu (id:=acts[i].n%r.n) (a:=na) (x:=nw) (l:=acts[i].sl) (n:=r.n) (by omega)
 have hgo:=zgq (n:=r.n) (a:=na) (c:=(zbo r.n (acts[i].n%r.n) na nw acts[i].sl).length) (x:=nw) hna ⟨by omega,hpl⟩
 obtain ⟨ssa,scc,hse,_⟩:=hco.sv
 have D:=pmD (m:=⟨r,acts[i],acts.length,i,steps,na,nw,s.1.tk.length,(s.1.tk.length:Int),acts[i].n%r.n,0,if (s.1).br then 4 else 0,0,0,0,0,(zaW r.n na nw (zbo r.n (acts[i].n%r.n) na nw acts[i].sl).length).1,(zaW r.n na nw (zbo r.n (acts[i].n%r.n) na nw acts[i].sl).length).2,false,false,decide (ppOk r.n acts[i].sl),false,decide ((s.1).ph≠0),.pointer (some ⟨P,0,none⟩),.pointer (some ⟨S,0,none⟩),.slice (some ⟨R,o,none⟩) acts.length c⟩) (w:=W0) hrg hco ⟨by show (0:Int)≤i;omega,by show (i:Int)<_;omega⟩ ⟨by show (0:Int)≤acts.length;omega,by show (acts.length:Int)<_;omega⟩ ⟨by show (0:Int)≤s.1.tk.length;omega,by show (s.1.tk.length:Int)<_;omega⟩ ⟨by show (0:Int)≤(s.1.tk.length:Int);omega,by show (s.1.tk.length:Int)<_;omega⟩ hna hgo
 generalize (PmV.rho ⟨r,acts[i],acts.length,i,steps,na,nw,s.1.tk.length,(s.1.tk.length:Int),acts[i].n%r.n,0,if (s.1).br then 4 else 0,0,0,0,0,(zaW r.n na nw (zbo r.n (acts[i].n%r.n) na nw acts[i].sl).length).1,(zaW r.n na nw (zbo r.n (acts[i].n%r.n) na nw acts[i].sl).length).2,false,false,decide (ppOk r.n acts[i].sl),false,decide ((s.1).ph≠0),.pointer (some ⟨P,0,none⟩),.pointer (some ⟨S,0,none⟩),.slice (some ⟨R,o,none⟩) acts.length c⟩)=ρ at D
 have hj1:jOf [(X9,0),(X15,0),(R,o+9*i)] 1=some ⟨X9,0,0,none⟩:=rfl
 have hj2:jOf [(X9,0),(X15,0),(R,o+9*i)] 2=some ⟨X15,0,0,none⟩:=rfl
 have hj3:jOf [(X9,0),(X15,0),(R,o+9*i)] 3=some ⟨R,o+9*i,0,none⟩:=rfl
 have hlt:S<w.heap.size∧M<w.heap.size∧B<w.heap.size:=⟨k1,k2,k3⟩
 have hKs:plK S M B X15 S∧plK S M B X15 M∧plK S M B X15 B:=⟨.inl rfl,.inr (.inl rfl),.inr (.inr (.inl rfl))⟩
 refine wp_mono (zaz (ρ:=ρ) (K:=plK S M B X15) (g:=obG (pwO S P L Bs B M 20000 r) (fun b=>b≠X9∧b≠X15∧W0.heap.size≤b) w.heap.size w.heap.size (fun k=>match k with|0=>s|1=>s|_=>(s.1,g')) (fun k=>match k with|0=> []|1=> [imgR 5 20000 s.2]|2=> [imgR 5 20000 s.2]|3=> [imgR 5 20000 s.2,imgR 8 20000 g']|_=> [imgR 5 20000 s.2,imgR 8 20000 g',imgR 9 20000 g'])) (bl:= [(X9,0),(X15,0),(R,o+9*i)]) mixed zGm zII (fun b hb=>by rcases hb with rfl|rfl|rfl|rfl<;>assumption)
  ⟨zcO h.row (by simp) (D.rg _) (by rintro (e|e|e|e);exact h.x9.1 e;exact h.x9.2.1 e;exact h.x9.2.2.1 e;exact h.x9.2.2.2.2.2.2 e),za1 h.nxt (D.pos _) (.inr (.inr (.inr rfl))),zaX hx (by simp [Pc.cells]) (D.act _) (by rintro (e|e|e|e)<;>omega),trivial⟩ zrv (h.start hRlt rfl rfl)
  ⟨zb4 D.v0 (by decide) (Nat.le_refl _) (Nat.le_refl _) (fun e he=>by simp at he ⊢;rcases he with he|he|he|he<;>simp_all) rfl,zcq D.v2 D.d17 (by show s.1.tk.length≤1000000;omega) (Nat.le_refl _) (Nat.le_refl _),zeD D.i8 hk,zpE (c:=r.n) D.i9 D.sz D.i20 ⟨show 1≤r.n by omega,show r.n≤1000000 by omega⟩ rfl rfl,zwQ (l:=acts[i].sl) (a:=na) (id:=acts[i].n%r.n) (x:=nw) (sv:=acts[i].sv) D.v0 (fun j=>zbj (D.rg j)) D.d5 D.b5 D.i20 (fun j=>⟨D.v1.symm,ssa,_,scc,hse,D.d4.symm,trivial⟩) D.d34 D.b6 D.b2 hrg (by decide) h.sw.fit (hco.sv.kept fun k hk _=>h.old.block k hk) (fun h0 R1 o1 c1 e1=>by have:=zF5 hco.sv h0 e1;rintro (e|e|e|e)<;>omega) (by omega) hna ⟨hp0,hp1⟩ (congrArg (Prod.mk s.1) hg') (Nat.le_refl _) hlt hKs (fun e he=>he),zb4 D.v0 (by decide) (Nat.le_refl _) (Nat.le_refl _) (fun e he=>by simp at he ⊢;rcases he with he|he|he|he<;>simp_all) rfl,zb4 D.v0 (by decide) (Nat.le_refl _) (Nat.le_refl _) (fun e he=>by simp at he ⊢;rcases he with he|he|he|he<;>simp_all) rfl,zcq D.v2 (D.d18.trans rfl) (by show (s.1).tk.length≤1000000;omega) (Nat.le_refl _) (Nat.le_refl _),zgs D.v2 D.i23,zcU D.v2 D.b4,trivial⟩
  ⟨zfQ hrg (by decide) D.d19 (fun j=>D.rg j) (show imgR 8 20000 g'∈ [imgR 5 20000 s.2,imgR 8 20000 g',imgR 9 20000 g'] by simp) (show imgR 9 20000 g'∈ [imgR 5 20000 s.2,imgR 8 20000 g',imgR 9 20000 g'] by simp) (fun j hj=>absurd rfl hj) (D.i33.trans (zhw _ _)) rfl,trivial⟩ trivial h.size h.dfr ?_ ?_) fun ex a2 w2 hh=> ?_
 ·intro t ht
  simp only [zgi,zcA,List.mem_cons,List.not_mem_nil,or_false] at ht
  rcases ht with rfl|rfl|rfl|rfl|rfl|rfl|rfl|rfl|rfl
  ·rw [h.t0];exact zac D.sz
  ·rw [h.t2];exact ⟨D.v4.symm,_,_,_,rfl,D.d7.symm,⟨R,o,_,i,rfl,hj3,rfl,D.d6,hi,rfl⟩,trivial⟩
  ·rw [h.t7];exact zaR D.v0 rfl
  ·rw [h.t8];exact zaR D.v2 rfl
  ·rw [h.t9];exact ⟨_,hj1,rfl⟩
  ·rw [h.t11];exact zac D.d19
  ·rw [h.t14];exact zac D.i15
  ·rw [h.t15];exact ⟨_,hj2,rfl⟩
  ·rw [h.t16];exact zac D.d6
 ·have e0:IntKind.wrap .i64 ((s.1.tk.length:Int)-s.1.tk.length)≤1∧ -1≤IntKind.wrap .i64 ((s.1.tk.length:Int)-s.1.tk.length):=by rw [zbF (by omega) (by omega)];omega
  refine zaa.2 ⟨?_,zaa.2 ⟨?_,zaa.2 ⟨?_,zaa.2 ⟨?_,zae.2 trivial⟩⟩⟩⟩
  ·rw [zaQ,D.d6,D.d7]
   exact decide_eq_true (by show (i:Int)<acts.length;omega)
  ·rw [zaY,zat,D.i33,zad]
   exact decide_eq_false (by show¬(0:Int)>6;omega)
  ·rw [zaY,za4,D.d17,D.d18,zad]
   exact decide_eq_false (by show¬IntKind.wrap .i64 ((s.1.tk.length:Int)-s.1.tk.length)>1;omega)
  ·rw [zaQ,za4,D.d17,D.d18,zad]
   exact decide_eq_false (by show¬IntKind.wrap .i64 ((s.1.tk.length:Int)-s.1.tk.length)< -1;omega)
 ·obtain ⟨q,hq,hto,lf,hlf,rfl,hsz2,j2,hdf2,he⟩:=hh
  have hmv:=he.mv
  have hwi:=zcN i (by omega)
  have lc1:=zag (he.sub _ _ hj1)
  have lc2:=zag (he.sub _ _ hj2)
  have hbr:=(hinv).pe.brk
  unfold zEC at hq
  simp only [List.mem_cons,List.not_mem_nil,or_false] at hq
  rcases hq with rfl|rfl|rfl|rfl|rfl|rfl
  all_goals
   simp only [zaa,zae,zbb,zaY,zaA,zat,den_add,zad,D.i21,D.i23,D.i15,D.b0,D.b1,D.b2,D.b3,D.b4,beq_iff_eq,beq_eq_false_iff_ne,ne_eq,decide_eq_true_eq,decide_eq_false_iff_not,and_true] at hto
   cases hlf
  ·exfalso
   obtain ⟨_,e1,e2⟩:=hto
   split at e1
   ·rename_i hb;exact e2 (hbr hb)
   ·cases e1
  ·obtain ⟨F2,z1,z2,F0,z3,z4,_⟩:=he.gho
   have hO:=(he.rows.2.1 _ (he.sub _ _ hj2)).2 (.inr (.inr (.inr (.inr rfl)))) rfl
   simp only [AV.valL,AV.val,D.d5,D.b5,D.d34,D.b6,zaA] at hO
   refine ⟨rfl,_,steps,_,_,h.next (s':=(s.1,g')) (steps':=steps) hmv hsz2 hdf2 z2 ⟨F0,z3,z4⟩ hinv hgo hO ?_⟩
   have hs2:=zav he.ret
   rw [hs2]
   simp only [AV.valL,AV.val,D.sz,D.v0,D.v2,D.v4,D.d6,D.d19,D.i15,zat,den_add,zad,hwi,lc1,lc2]
  ·obtain ⟨F2,z1,z2,F0,z3,z4,_⟩:=he.gho
   have hO:=(he.rows.2.1 _ (he.sub _ _ hj2)).2 (.inr (.inr (.inr (.inr rfl)))) rfl
   simp only [AV.valL,AV.val,D.d5,D.b5,D.d34,D.b6,zaA] at hO
   refine ⟨rfl,_,steps,_,_,h.next (s':=(s.1,g')) (steps':=steps) hmv hsz2 hdf2 z2 ⟨F0,z3,z4⟩ hinv hgo hO ?_⟩
   have hs2:=zav he.ret
   rw [hs2]
   simp only [AV.valL,AV.val,D.sz,D.v0,D.v2,D.v4,D.d6,D.d19,D.i15,zat,den_add,zad,hwi,lc1,lc2]
  ·exfalso
   obtain ⟨_,e1,e2⟩:=hto
   split at e1
   ·rename_i hb;exact e2 (hbr hb)
   ·cases e1
  ·obtain ⟨F2,z1,z2,F0,z3,z4,_⟩:=he.gho
   have hO:=(he.rows.2.1 _ (he.sub _ _ hj2)).2 (.inr (.inr (.inr (.inr rfl)))) rfl
   simp only [AV.valL,AV.val,D.d5,D.b5,D.d34,D.b6,zaA] at hO
   refine ⟨rfl,_,steps,_,_,h.next (s':=(s.1,g')) (steps':=steps) hmv hsz2 hdf2 z2 ⟨F0,z3,z4⟩ hinv hna hO ?_⟩
   have hs2:=zav he.ret
   rw [hs2]
   simp only [AV.valL,AV.val,D.sz,D.v0,D.v2,D.v4,D.d6,D.d19,D.i15,zat,den_add,zad,hwi,lc1,lc2]
  ·obtain ⟨F2,z1,z2,F0,z3,z4,_⟩:=he.gho
   have hO:=(he.rows.2.1 _ (he.sub _ _ hj2)).2 (.inr (.inr (.inr (.inr rfl)))) rfl
   simp only [AV.valL,AV.val,D.d5,D.b5,D.d34,D.b6,zaA] at hO
   refine ⟨rfl,_,steps,_,_,h.next (s':=(s.1,g')) (steps':=steps) hmv hsz2 hdf2 z2 ⟨F0,z3,z4⟩ hinv hna hO ?_⟩
   have hs2:=zav he.ret
   rw [hs2]
   simp only [AV.valL,AV.val,D.sz,D.v0,D.v2,D.v4,D.d6,D.d19,D.i15,zat,den_add,zad,hwi,lc1,lc2]
set_option maxRecDepth 10000 in
theorem Tryz.zyP {W0:World} {X9 X15 S P L Bs B M:Nat} {r:Rg} {av:Value} {acts:List Pc} {s:PS×(Nat→Int)} {i steps:Nat} {na:Int} {nw:Bool} {a:Act} {w:World} (h:PwI W0 X9 X15 S P L Bs B M r av acts s i steps na nw a w) (hi:i<acts.length) (hk:acts[i].k%7=0):
  (zaI prog [0,0,1,0,1,1,1,1,1,1,1,1,4]).wp prog (fun ex a' w'=>ex= .normal∧ ∃s' steps' na' nw',PwI W0 X9 X15 S P L Bs B M r av acts s' (i+1) steps' na' nw' a' w') a w:=by
 obtain ⟨aa,c,rfl,hr0⟩:=h.aok.val
 rcases hr0 with h0|⟨R,o,rfl,hr0⟩
 ·rw [h0] at hi;simp at hi
 have hxW:=hr0 i hi
 have hRlt:R<W0.heap.size:=World.block_lt_of_cell? W0 _ (hxW 0 _ rfl)
 have hx:=zaN hxW (h.old.block R hRlt)
 have hco:=h.aok.ok acts[i] (List.getElem_mem hi)
 have h60:=h.n60.1
 obtain ⟨l1,l2,l3,l4,l5,l6,l7,l8⟩:=h.lo
 have k1:=h.sw.ltS
 have k2:=h.sw.ltM
 have k3:=h.sw.mem.bl
 have k15:=own_lt h.nxt
 have hrg:=h.sw.rg
 have hbnd:=hrg.bnd
 have hcnt:=h.inv.tk
 have hstp:=h.inv.st
 have hna:=h.na
 have hpoll:=h.inv.poll
 have htk:=zum s.1
 have D:=pmD (m:=⟨r,acts[i],acts.length,i,steps,na,nw,s.1.tk.length,(s.1.tk.length:Int),0,(zbh s.1).1,if ((zbh s.1).2).br then 4 else 0,0,0,0,0,na,nw,false,false,false,false,decide (((zbh s.1).2).ph≠0),.pointer (some ⟨P,0,none⟩),.pointer (some ⟨S,0,none⟩),.slice (some ⟨R,o,none⟩) acts.length c⟩) (w:=W0) hrg hco ⟨by show (0:Int)≤i;omega,by show (i:Int)<_;omega⟩ ⟨by show (0:Int)≤acts.length;omega,by show (acts.length:Int)<_;omega⟩ ⟨by show (0:Int)≤s.1.tk.length;omega,by show (s.1.tk.length:Int)<_;omega⟩ ⟨by show (0:Int)≤(s.1.tk.length:Int);omega,by show (s.1.tk.length:Int)<_;omega⟩ hna hna
 generalize (PmV.rho ⟨r,acts[i],acts.length,i,steps,na,nw,s.1.tk.length,(s.1.tk.length:Int),0,(zbh s.1).1,if ((zbh s.1).2).br then 4 else 0,0,0,0,0,na,nw,false,false,false,false,decide (((zbh s.1).2).ph≠0),.pointer (some ⟨P,0,none⟩),.pointer (some ⟨S,0,none⟩),.slice (some ⟨R,o,none⟩) acts.length c⟩)=ρ at D
 have hj1:jOf [(X9,0),(X15,0),(R,o+9*i)] 1=some ⟨X9,0,0,none⟩:=rfl
 have hj2:jOf [(X9,0),(X15,0),(R,o+9*i)] 2=some ⟨X15,0,0,none⟩:=rfl
 have hj3:jOf [(X9,0),(X15,0),(R,o+9*i)] 3=some ⟨R,o+9*i,0,none⟩:=rfl
 have hlt:S<w.heap.size∧M<w.heap.size∧B<w.heap.size:=⟨k1,k2,k3⟩
 have hKs:plK S M B X15 S∧plK S M B X15 M∧plK S M B X15 B:=⟨.inl rfl,.inr (.inl rfl),.inr (.inr (.inl rfl))⟩
 refine wp_mono (zaz (ρ:=ρ) (K:=plK S M B X15) (g:=obG (pwO S P L Bs B M 20000 r) (fun b=>b≠X9∧b≠X15∧W0.heap.size≤b) w.heap.size w.heap.size (fun k=>match k with|0=>s|1=>s|_=>((zbh s.1).2,s.2)) (fun k=>match k with|0=> []|1=> [imgR 5 20000 s.2]|2=> [imgR 5 20000 s.2]|_=> [imgR 5 20000 s.2,imgR 7 20000 s.2])) (bl:= [(X9,0),(X15,0),(R,o+9*i)]) mixed zGu zIO (fun b hb=>by rcases hb with rfl|rfl|rfl|rfl<;>assumption)
  ⟨zcO h.row (by simp) (D.rg _) (by rintro (e|e|e|e);exact h.x9.1 e;exact h.x9.2.1 e;exact h.x9.2.2.1 e;exact h.x9.2.2.2.2.2.2 e),za1 h.nxt (D.pos _) (.inr (.inr (.inr rfl))),zaX hx (by simp [Pc.cells]) (D.act _) (by rintro (e|e|e|e)<;>omega),trivial⟩ zrv (h.start hRlt rfl rfl)
  ⟨zb4 D.v0 (by decide) (Nat.le_refl _) (Nat.le_refl _) (fun e he=>by simp at he ⊢;rcases he with he|he|he|he<;>simp_all) rfl,zcq D.v2 D.d17 (by show s.1.tk.length≤1000000;omega) (Nat.le_refl _) (Nat.le_refl _),zeD D.i8 hk,zzK D.v2 D.i21 rfl (Nat.le_refl _) hlt hKs (fun e he=>he),zb4 D.v0 (by decide) (Nat.le_refl _) (Nat.le_refl _) (fun e he=>by simp at he ⊢;rcases he with he|he|he|he<;>simp_all) rfl,zcq D.v2 (D.d18.trans (by show _=((zbh s.1).2.tk.length:Int);rw [htk])) (by show ((zbh s.1).2).tk.length≤1000000;rw [htk];omega) (Nat.le_refl _) (Nat.le_refl _),zgs D.v2 D.i23,zcU D.v2 D.b4,trivial⟩
  ⟨zfQ hrg (by decide) D.d19 (fun j=>D.rg j) (show imgR 5 20000 s.2∈ [imgR 5 20000 s.2,imgR 7 20000 s.2] by simp) (show imgR 7 20000 s.2∈ [imgR 5 20000 s.2,imgR 7 20000 s.2] by simp) (fun j hj=>absurd rfl hj) (D.i33.trans (zhw _ _)) rfl,zfQ hrg (by decide) D.d19 (fun j=>D.rg j) (show imgR 5 20000 s.2∈ [imgR 5 20000 s.2,imgR 7 20000 s.2] by simp) (show imgR 7 20000 s.2∈ [imgR 5 20000 s.2,imgR 7 20000 s.2] by simp) (fun j hj=>absurd rfl hj) (D.i33.trans (zhw _ _)) rfl,trivial⟩ trivial h.size h.dfr ?_ ?_) fun ex a2 w2 hh=> ?_
 ·intro t ht
  simp only [zgk,zcA,List.mem_cons,List.not_mem_nil,or_false] at ht
  rcases ht with rfl|rfl|rfl|rfl|rfl|rfl|rfl|rfl|rfl
  ·rw [h.t0];exact zac D.sz
  ·rw [h.t2];exact ⟨D.v4.symm,_,_,_,rfl,D.d7.symm,⟨R,o,_,i,rfl,hj3,rfl,D.d6,hi,rfl⟩,trivial⟩
  ·rw [h.t7];exact zaR D.v0 rfl
  ·rw [h.t8];exact zaR D.v2 rfl
  ·rw [h.t9];exact ⟨_,hj1,rfl⟩
  ·rw [h.t11];exact zac D.d19
  ·rw [h.t14];exact zac D.i15
  ·rw [h.t15];exact ⟨_,hj2,rfl⟩
  ·rw [h.t16];exact zac D.d6
 ·have e0:IntKind.wrap .i64 ((s.1.tk.length:Int)-s.1.tk.length)≤1∧ -1≤IntKind.wrap .i64 ((s.1.tk.length:Int)-s.1.tk.length):=by rw [zbF (by omega) (by omega)];omega
  refine zaa.2 ⟨?_,zaa.2 ⟨?_,zaa.2 ⟨?_,zaa.2 ⟨?_,zae.2 trivial⟩⟩⟩⟩
  ·rw [zaQ,D.d6,D.d7]
   exact decide_eq_true (by show (i:Int)<acts.length;omega)
  ·rw [zaY,zat,D.i33,zad]
   exact decide_eq_false (by show¬(0:Int)>6;omega)
  ·rw [zaY,za4,D.d17,D.d18,zad]
   exact decide_eq_false (by show¬IntKind.wrap .i64 ((s.1.tk.length:Int)-s.1.tk.length)>1;omega)
  ·rw [zaQ,za4,D.d17,D.d18,zad]
   exact decide_eq_false (by show¬IntKind.wrap .i64 ((s.1.tk.length:Int)-s.1.tk.length)< -1;omega)
 ·obtain ⟨q,hq,hto,lf,hlf,rfl,hsz2,j2,hdf2,he⟩:=hh
  have hmv:=he.mv
  have hwi:=zcN i (by omega)
  have lc1:=zag (he.sub _ _ hj1)
  have lc2:=zag (he.sub _ _ hj2)
  have hbr:=(hpoll).pe.brk
  unfold zEG at hq
  simp only [List.mem_cons,List.not_mem_nil,or_false] at hq
  rcases hq with rfl|rfl|rfl|rfl|rfl|rfl
  all_goals
   simp only [zaa,zae,zbb,zaY,zaA,zat,den_add,zad,D.i21,D.i23,D.i15,D.b0,D.b1,D.b2,D.b3,D.b4,beq_iff_eq,beq_eq_false_iff_ne,ne_eq,decide_eq_true_eq,decide_eq_false_iff_not,and_true] at hto
   cases hlf
  ·exfalso
   obtain ⟨_,e1,e2⟩:=hto
   split at e1
   ·rename_i hb;exact e2 (hbr hb)
   ·cases e1
  ·obtain ⟨F2,z1,z2,F0,z3,z4,_⟩:=he.gho
   have hO:=(he.rows.2.1 _ (he.sub _ _ hj2)).2 (.inr (.inr (.inr (.inr rfl)))) rfl
   simp only [AV.valL,AV.val,D.d5,D.b5,D.d34,D.b6,zaA] at hO
   refine ⟨rfl,_,0,_,_,h.next (s':=((zbh s.1).2,s.2)) (steps':=0) hmv hsz2 hdf2 z2 ⟨F0,z3,z4⟩ (show PI (zbh s.1).2 0 (i+1) by have h9:=hpoll;rw [if_pos hto.1] at h9;exact h9) hna hO ?_⟩
   have hs2:=zav he.ret
   rw [hs2]
   simp only [AV.valL,AV.val,D.sz,D.v0,D.v2,D.v4,D.d6,D.d19,D.i15,zat,den_add,zad,hwi,lc1,lc2]
   rfl
  ·obtain ⟨F2,z1,z2,F0,z3,z4,_⟩:=he.gho
   have hO:=(he.rows.2.1 _ (he.sub _ _ hj2)).2 (.inr (.inr (.inr (.inr rfl)))) rfl
   simp only [AV.valL,AV.val,D.d5,D.b5,D.d34,D.b6,zaA] at hO
   refine ⟨rfl,_,0,_,_,h.next (s':=((zbh s.1).2,s.2)) (steps':=0) hmv hsz2 hdf2 z2 ⟨F0,z3,z4⟩ (show PI (zbh s.1).2 0 (i+1) by have h9:=hpoll;rw [if_pos hto.1] at h9;exact h9) hna hO ?_⟩
   have hs2:=zav he.ret
   rw [hs2]
   simp only [AV.valL,AV.val,D.sz,D.v0,D.v2,D.v4,D.d6,D.d19,D.i15,zat,den_add,zad,hwi,lc1,lc2]
   rfl
  ·exfalso
   obtain ⟨_,e1,e2⟩:=hto
   split at e1
   ·rename_i hb;exact e2 (hbr hb)
   ·cases e1
  ·obtain ⟨F2,z1,z2,F0,z3,z4,_⟩:=he.gho
   have hO:=(he.rows.2.1 _ (he.sub _ _ hj2)).2 (.inr (.inr (.inr (.inr rfl)))) rfl
   simp only [AV.valL,AV.val,D.d5,D.b5,D.d34,D.b6,zaA] at hO
   refine ⟨rfl,_,steps,_,_,h.next (s':=((zbh s.1).2,s.2)) (steps':=steps) hmv hsz2 hdf2 z2 ⟨F0,z3,z4⟩ (show PI (zbh s.1).2 steps (i+1) by have h9:=hpoll;rw [if_neg hto.1] at h9;exact h9) hna hO ?_⟩
   have hs2:=zav he.ret
   rw [hs2]
   simp only [AV.valL,AV.val,D.sz,D.v0,D.v2,D.v4,D.d6,D.d19,D.i15,zat,den_add,zad,hwi,lc1,lc2]
  ·obtain ⟨F2,z1,z2,F0,z3,z4,_⟩:=he.gho
   have hO:=(he.rows.2.1 _ (he.sub _ _ hj2)).2 (.inr (.inr (.inr (.inr rfl)))) rfl
   simp only [AV.valL,AV.val,D.d5,D.b5,D.d34,D.b6,zaA] at hO
   refine ⟨rfl,_,steps,_,_,h.next (s':=((zbh s.1).2,s.2)) (steps':=steps) hmv hsz2 hdf2 z2 ⟨F0,z3,z4⟩ (show PI (zbh s.1).2 steps (i+1) by have h9:=hpoll;rw [if_neg hto.1] at h9;exact h9) hna hO ?_⟩
   have hs2:=zav he.ret
   rw [hs2]
   simp only [AV.valL,AV.val,D.sz,D.v0,D.v2,D.v4,D.d6,D.d19,D.i15,zat,den_add,zad,hwi,lc1,lc2]
theorem Tryz.zDo {w:World}:okPc0.ok w:=⟨by decide,by decide,by decide,by decide,by decide,by decide,by decide,SegV.none,by decide⟩
section
variable {W0:World} {X9 X15 S P L Bs B M:Nat} {r:Tryz.Rg} {av:Value} {acts:List Tryz.Pc} {s:Tryz.PS×(Nat→Int)} {i steps:Nat} {na:Int} {nw:Bool} {a:Act} {w:World}
theorem Tryz.zCH (h:PwI W0 X9 X15 S P L Bs B M r av acts s i steps na nw a w) (hi:i<acts.length):
  (zaI prog [0,0,1,0,1,1,1,1,1,1,1,1,4]).wp prog (fun ex a' w'=>ex= .normal∧ ∃s' steps' na' nw',PwI W0 X9 X15 S P L Bs B M r av acts s' (i+1) steps' na' nw' a' w') a w:=by
 have h0:0≤acts[i].k%7:=Int.emod_nonneg _ (by decide)
 have h1:acts[i].k%7<7:=Int.emod_lt_of_pos _ (by decide)
 by_cases k0:acts[i].k%7=0
 ·exact zyP h hi k0
 by_cases k1:acts[i].k%7=1
 ·exact zyM h hi k1
 by_cases k2:acts[i].k%7=2
 ·exact zoS zGr zIM h hi k2
 by_cases k3:acts[i].k%7=3
 ·exact zoS zGq zIL h hi k3
 by_cases k4:acts[i].k%7=4
 ·exact zoR zGp zIK h hi k4
 by_cases k5:acts[i].k%7=5
 ·exact zoR zGo zIJ h hi k5
 exact zyJ h hi (by omega)
theorem Tryz.zIH (h:PwI W0 X9 X15 S P L Bs B M r av acts s i steps na nw a w) (hi:i=acts.length):
  (zaI prog [0,0,1,0,1,1,1,1,1,1,1,1,4]).wp prog (fun ex a' w'=>ex= .exit 0∧a'.tmps.size=232∧a'.defers= []∧Below W0.heap.size W0 w') a w:=by
 have hrg:=h.sw.rg
 have h60:=h.n60.1
 obtain ⟨aa,c,rfl,hr0⟩:=h.aok.val
 have D:=pmD (m:=⟨r,okPc0,acts.length,i,steps,na,nw,0,0,0,0,0,0,0,0,0,na,nw,false,false,false,false,false,.pointer (some ⟨P,0,none⟩),.pointer (some ⟨S,0,none⟩),.slice aa acts.length c⟩) (w:=W0) hrg zDo ⟨by show (0:Int)≤i;omega,by show (i:Int)<_;omega⟩ ⟨by show (0:Int)≤acts.length;omega,by show (acts.length:Int)<_;omega⟩ ⟨by show (0:Int)≤0;decide,by show (0:Int)<4000000;decide⟩ ⟨by show (0:Int)≤0;decide,by show (0:Int)<4000000;decide⟩ h.na h.na
 generalize (PmV.rho ⟨r,okPc0,acts.length,i,steps,na,nw,0,0,0,0,0,0,0,0,0,na,nw,false,false,false,false,false,.pointer (some ⟨P,0,none⟩),.pointer (some ⟨S,0,none⟩),.slice aa acts.length c⟩)=ρ at D
 have hj1:jOf [(X9,0),(X15,0)] 1=some ⟨X9,0,0,none⟩:=rfl
 have hj2:jOf [(X9,0),(X15,0)] 2=some ⟨X15,0,0,none⟩:=rfl
 have hrx:Row w ⟨X15,0,0,none⟩ [.int .i64 na,.bool nw]:=by
  obtain ⟨arr,e,q1,q2⟩:=h.nxt
  exact ⟨arr,e,_,q1,fun i y hy=>by rw [Nat.zero_add];exact q2 i y hy⟩
 refine wp_mono (zaz (ρ:=ρ) (K:=fun _=>False) (g:=Gho.none) (bl:= [(X9,0),(X15,0)]) mixed zGk zIG (fun b h=>h.elim) ⟨zcO h.row (by simp) (D.rg _) (fun h=>h),zcO hrx (by simp) (D.pos _) (fun h=>h),trivial⟩ ⟨fun h=>(by cases h),fun h=>(by cases h),trivial⟩ zaK trivial trivial trivial h.size h.dfr ?_ (zaa.2 ⟨by rw [zaQ,D.d6,D.d7];exact decide_eq_false (by show¬(i:Int)<acts.length;omega),zae.2 trivial⟩)) fun ex a2 w2 hh=> ?_
 ·intro t ht
  simp only [zgh,zcA,List.mem_cons,List.not_mem_nil,or_false] at ht
  rcases ht with rfl|rfl|rfl|rfl|rfl|rfl|rfl|rfl|rfl
  ·rw [h.t0];exact zac D.sz
  ·rw [h.t2];exact ⟨D.v4.symm,_,_,_,rfl,D.d7.symm,trivial⟩
  ·rw [h.t7];exact zaR D.v0 rfl
  ·rw [h.t8];exact zaR D.v2 rfl
  ·rw [h.t9];exact ⟨_,hj1,rfl⟩
  ·rw [h.t11];exact zac D.d19
  ·rw [h.t14];exact zac D.i15
  ·rw [h.t15];exact ⟨_,hj2,rfl⟩
  ·rw [h.t16];exact zac D.d6
 ·obtain ⟨q,hq,hto,lf,hlf,rfl,hsz2,j2,hdf2,he⟩:=hh
  have hb3:=zar he (fun _ h=>h)
  unfold zEA at hq
  simp only [List.mem_cons,List.not_mem_nil,or_false] at hq
  subst hq
  cases hlf
  exact ⟨rfl,hsz2,hdf2,h.old.trans (hb3.mono h.old.size)⟩
end
end Go.Proofs
namespace Go.Proofs
open Go.Dw Go.RowKit Go.Maps Go.Sort Go.Deep
set_option maxRecDepth 100000 in
theorem Tryz.pends_walk (hlives: ∀w,Calls prog 6 #[] w fun e w'=>e= .returned (.bool true)∧Below w.heap.size w w') {w:World} {av:Value} {acts:List Pc} (hA:PctV w av acts) (size:Int) (ev tb pk:Bool):
    Calls prog 4 #[.int .i64 size,.agg #[.bool ev,.bool tb,.bool pk],av] w fun e w'=>e= .returned (.bool true)∧Below w.heap.size w w':=by
  obtain ⟨k,hk1,hk2⟩: ∃k:Nat,size%16=k∧k<16:=by
    have h0:0≤size%16:=Int.emod_nonneg _ (by decide)
    have h1:size%16<16:=Int.emod_lt_of_pos _ (by decide)
    exact ⟨(size%16).toNat,by omega,by omega⟩
  have hn:1≤k+1∧k+1≤16:=by omega
  have hA1: ∀w1:World,Below (w.alloc (Obj.cells #[Value.bool ev,Value.bool tb,Value.bool pk] 23)).heap.size (w.alloc (Obj.cells #[Value.bool ev,Value.bool tb,Value.bool pk] 23)) w1→PctV w1 av acts:=fun w1 hb=>PctV.below hA ((Below.alloc (Below.refl w.heap.size w) (Nat.le_refl _) _).trans (hb.mono (by simp)))
  go_enter func4,ntmps4
  have hwk:IntKind.wrap .i64 (1+(k:Int))=((k+1:Nat):Int):=by rw [zbF (by omega) (by omega)];omega
  have hparts:=zwK (k+1) hn
  have hstart:=zlG 9 (.inr rfl)
  have hstd:=zpc hn ev tb pk
  generalize hm:k+1=n at hwk hparts hstd hn
  clear hm
  unfold Rg.pval zcT at hparts hstd
  simp only at hparts hstd
  go_wp2_with (first
    | (go_at_call 6;refine (hlives _).mono ?_;rintro e w1 ⟨rfl,hb1⟩
       have ka:=(Cl.new w _ _).below hb1 (by simp))
    | (go_at_call 22;refine (zwO (hA1 _ hb1)).mono ?_;rintro e w2 ⟨b,rfl,hlt,hb2⟩
       replace ka:=ka.below hb2 ka.lt
       have x0:=ka.cell 0 _ rfl;have x1:=ka.cell 1 _ rfl;have x2:=ka.cell 2 _ rfl)
    | (go_at_call 7;refine (ziz size 16 (by decide) _).mono ?_;rintro e w3 ⟨rfl,rfl⟩
       rw [hk1])
    | (go_at_call 8;refine (hstd _).mono ?_;rintro e w4 ⟨S,P,L,Bs,B,M,rfl,hsw,hb4,hS,hM,hB,hP,hL,hBs⟩
       have kb:=Cl.new w4 #[.bool false,.int .i64 0,.int .u64 0,.int .u64 0,.int .u64 0] 31
       have y0:=kb.cell 0 _ rfl;have y1:=kb.cell 1 _ rfl;have y2:=kb.cell 2 _ rfl;have y3:=kb.cell 3 _ rfl;have y4:=kb.cell 4 _ rfl
       have g0:=kb.free 0;have g1:=kb.free 1;have g2:=kb.free 2;have g3:=kb.free 3;have g4:=kb.free 4)
    | (go_at_call 23;refine (hparts _).mono ?_;rintro e w5 ⟨rfl,hb5⟩)
    | (go_at_call 9;refine (hstart _).mono ?_;rintro e w7 ⟨rfl,hb7⟩)
    | go_in)
  · rename_i hb
    have hbl:=((Below.alloc (Below.refl w.heap.size w) (Nat.le_refl _) (Obj.cells #[Value.bool ev,Value.bool tb,Value.bool pk] 23)).trans (hb1.mono (by simp))).trans (hb2.mono (by have:=hb1.size;simp at this;omega))
    exact zdG (fn:=f4) (Post:=fun e w'=>e= .returned (.bool true)∧RowKit.Below w.heap.size w w') rfl rfl rfl ⟨rfl,hbl⟩
  · rename_i K hK
    have hbt:b=true:=by cases b with|true=>rfl|false=>rename_i h;exact absurd h (by simp)
    have hbl3:Below w.heap.size w w3:=((Below.alloc (Below.refl w.heap.size w) (Nat.le_refl _) (Obj.cells #[Value.bool ev,Value.bool tb,Value.bool pk] 23)).trans (hb1.mono (by simp))).trans (hb2.mono (by have:=hb1.size;simp at this;omega))
    have hs3:=hbl3.size
    have hs4:=hb4.size
    have hbl5:=hbl3.trans (hb4.mono hs3)
    generalize hw6:w4.alloc (Obj.cells #[Value.bool true,Value.int IntKind.i64 n,Value.int IntKind.u64 4096,Value.int IntKind.u64 (4096+16*n),Value.int IntKind.u64 (4100+16*n)] 31)=w6 at hb5
    have hbl6:Below w4.heap.size w4 w6:=hw6▸Below.alloc (Below.refl _ w4) (Nat.le_refl _) _
    have hs6:=hbl6.size
    have e6:w6.heap.size=w4.heap.size+1:=by rw [←hw6];simp
    have hs5:=hb5.size
    have hs7:=hb7.size
    have hrow7:Row w7 ⟨w4.heap.size,0,0,none⟩ [.bool true,.int .i64 n,.int .u64 4096,.int .u64 (4096+16*n),.int .u64 (4100+16*n)]:=by
      refine ⟨_,_,_,(hb7.block w4.heap.size (by omega)).trans ((hb5.block w4.heap.size (by omega)).trans (hw6▸heap_alloc_last w4 _)),fun i y hy=> ?_⟩
      rw [Nat.zero_add]
      simpa using hy
    generalize hw8:w7.alloc (Obj.cells #[Value.int IntKind.i64 0,Value.bool true] 35)=w8
    have e8:w8.heap.size=w7.heap.size+1:=by rw [←hw8];simp
    have hbl8:Below w7.heap.size w7 w8:=hw8▸Below.alloc (Below.refl _ w7) (Nat.le_refl _) _
    have hown:Dw.Own w8 w7.heap.size [.int .i64 0,.bool true]:=⟨_,_,hw8▸heap_alloc_last w7 _,fun i y hy=>by simpa using hy⟩
    have hrow:Row w8 ⟨w4.heap.size,0,0,none⟩ [.bool true,.int .i64 n,.int .u64 4096,.int .u64 (4096+16*n),.int .u64 (4100+16*n)]:=hrow7.kept (hbl8.block _ (by show w4.heap.size<_;omega))
    have hb48:Below w4.heap.size w4 w8:=((hbl6.trans (hb5.mono (by omega))).trans (hb7.mono (by omega))).trans (hbl8.mono (by omega))
    have hbl:=hbl5.trans (hb48.mono (by omega))
    have k1:=hsw.ltS
    have k2:=hsw.ltM
    have k3:=hsw.mem.bl
    have k4:=hsw.mem.pl
    have k5:=hsw.mem.ll
    have k6:=hsw.mem.sl
    have hsw8:=(hsw.below hb48).anew (A':=plA w w4.heap.size w7.heap.size S M B w8) rfl rfl ⟨by omega,.inr (.inr (.inr (.inl rfl)))⟩ ⟨by omega,.inr (.inr (.inr (.inr (.inl rfl))))⟩ ⟨by omega,.inr (.inr (.inr (.inr (.inr rfl))))⟩ (fun b hb=>hb.1)
    have hI: ∀tmps:Array Value,tmps.size=232→(∀p∈ [(0,Value.int .i64 (zcT n).n),(2,av),(7,.pointer (some ⟨P,0,none⟩)),(8,.pointer (some ⟨S,0,none⟩)),(9,.pointer (some ⟨w4.heap.size,0,none⟩)),(11,.int .u64 (16*(zcT n).n)),(14,.int .i64 (0:Nat)),(15,.pointer (some ⟨w7.heap.size,0,none⟩)),(16,.int .i64 (0:Nat))],tmps.getD p.1 undef=p.2)→
        PwI w w4.heap.size w7.heap.size S P L Bs B M (zcT n) av acts (PS.fresh ev tb,fun _=>0) 0 0 0 true ⟨tmps,[]⟩ w8:=fun tmps hz ht=>
      ⟨hz,rfl,ht (0,_) (by simp),ht (2,_) (by simp),ht (7,_) (by simp),ht (8,_) (by simp),ht (9,_) (by simp),ht (11,_) (by simp),ht (14,_) (by simp),ht (15,_) (by simp),ht (16,_) (by simp),hrow,hown,⟨Int.le_refl 0,by show (0:Int)<(n:Int);omega⟩,hsw8,
        ⟨PE.fresh ev tb 0,Nat.le_refl _,Nat.le_refl _⟩,hA,hbl,⟨by omega,by omega,by omega,by omega,by omega,by omega,by omega,by omega⟩,⟨by omega,by omega,by omega,by omega,by omega,by omega,by omega⟩,⟨by omega,by omega,by omega,by omega,by omega,by omega⟩,hlt hbt⟩
    refine zbr (c':= .loop (zaI prog [0,0,1,0,1,1,1,1,1,1,1,1,4])) (by kernel_rfl) ?_
    refine zbT (fun (i:Nat) a' w'=>i≤acts.length∧ ∃s steps na nw,PwI w w4.heap.size w7.heap.size S P L Bs B M (zcT n) av acts s i steps na nw a' w') (fun i=>acts.length-i) (fun i a1 w1 hI=> ?_) 0 _ _ ⟨Nat.zero_le _,_,_,_,_,hI _ rfl ?_⟩
    · obtain ⟨hi,s,steps,na,nw,hL⟩:=hI
      by_cases hlt2:i<acts.length
      · refine wp_mono (zCH hL hlt2) fun ex a2 w2 hh=> ?_
        obtain ⟨rfl,s',steps',na',nw',h2⟩:=hh
        exact ⟨i+1,by omega,by omega,s',steps',na',nw',h2⟩
      · refine wp_mono (zIH hL (by omega)) fun ex a2 w2 hh=> ?_
        obtain ⟨rfl,h2,h3,h4⟩:=hh
        show K a2 w2
        refine hK _ _ ?_
        obtain ⟨tmps,dfr⟩:=a2
        have h3:dfr= []:=h3
        have h2:tmps.size=232:=h2
        subst h3
        go_wp2_with fail
        refine zdG (fn:=f4) (Post:=fun e w'=>e= .returned (.bool true)∧RowKit.Below w.heap.size w w') rfl rfl ?_ ⟨rfl,h4⟩
        simp [h2]
    · intro p hp
      simp only [List.mem_cons,List.not_mem_nil,or_false] at hp
      rcases hp with rfl|rfl|rfl|rfl|rfl|rfl|rfl|rfl|rfl<;>rfl
open Go.ChangeShapes Go.WideShapes
section
variable {H:Type} {enc:TypeId×Value→H} {W:World} {sp:Nat→Bool} {held:Bool} {fuel:Nat}
theorem Tryz.zAL {α:Type} {p:Nat→α→Prop}: ∀n,(∀i,i<n→ ∃x,p i x)→ ∃l:List α,l.length=n∧ ∀(i:Nat) (hi:i<l.length),p i l[i]
 | 0,_=>⟨[],rfl,fun i hi=>absurd hi (Nat.not_lt_zero i)⟩
 | n+1,h=>by
  obtain ⟨l,hl,hp⟩:=zAL n fun i hi=>h i (by omega)
  obtain ⟨x,hx⟩:=h n (by omega)
  refine ⟨l++ [x],by simp [hl],fun i hi=> ?_⟩
  by_cases hlt:i<l.length
  ·rw [List.getElem_append_left hlt];exact hp i hlt
  ·have e:i=n:=by simp at hi;omega
   subst e
   simp only [List.getElem_append_right (by omega:l.length≤i),hl,Nat.sub_self,List.getElem_singleton]
   exact hx
theorem Tryz.addr_add (b o n:Nat):(⟨b,o,none⟩:Addr).add n=⟨b,o+n,none⟩:=by
 unfold Addr.add
 split
 ·rename_i h;rw [h];rfl
 ·rfl
theorem Tryz.zg9 {α:Type} {l:List α} {i:Nat} (h:i<l.length):l[i]? =some l[i]:=List.getElem?_eq_getElem h
set_option maxRecDepth 100000 in
theorem Tryz.zCk {cs:List Value} {x:DataW H×List MemPlace} (h:DataW.trod enc prog W 0 sp held fuel 43 cs=some x): ∃s:Sg,cs=s.cells∧s.ok:=by
 obtain ⟨xs,n,rfl,rfl,hl,hx,hf⟩:=DataW.trod_struct underlying43 h
 have hl:cs.length=3:=hl.trans (by kernel_rfl)
 have hx:xs.length=3:=hx
 match cs,hl with
 | [c0,c1,c2],_=>
  have f0:DataW.trod enc prog W 0 sp held n 29 [c0]=xs[0]? :=by
   have:=(show DataW.trod enc prog W 0 sp held n 29 (([c0,c1,c2].drop 0).take (prog.cellsOf 29))=xs[0]? from hf 0 _ rfl)
   rw [show prog.cellsOf 29=1 from by kernel_rfl] at this
   exact this
  have f1:DataW.trod enc prog W 0 sp held n 41 [c1]=xs[1]? :=by
   have:=(show DataW.trod enc prog W 0 sp held n 41 (([c0,c1,c2].drop 1).take (prog.cellsOf 41))=xs[1]? from hf 1 _ rfl)
   rw [show prog.cellsOf 41=1 from by kernel_rfl] at this
   exact this
  have f2:DataW.trod enc prog W 0 sp held n 4 [c2]=xs[2]? :=by
   have:=(show DataW.trod enc prog W 0 sp held n 4 (([c0,c1,c2].drop 2).take (prog.cellsOf 4))=xs[2]? from hf 2 _ rfl)
   rw [show prog.cellsOf 4=1 from by kernel_rfl] at this
   exact this
  rw [zg9 (by omega)] at f0 f1 f2
  obtain ⟨n0,e0,_,w0⟩:=DataW.trod_int underlying29 f0
  obtain ⟨n1,e1,_,w1⟩:=DataW.trod_int underlying41 f1
  obtain ⟨b,e2,_⟩:=DataW.trod_bool underlying4 f2
  simp only [List.cons.injEq,and_true] at e0 e1 e2
  subst e0 e1 e2
  have b0:=bounds_u64 w0
  have b1:=bounds_u32 w1
  exact ⟨⟨n0,n1,b⟩,rfl,by show 0≤n0;omega,by show n0<_;omega,by show 0≤n1;omega,by show n1<_;omega⟩
theorem Tryz.zlj {R:Nat}: ∀ {l:List Sg} {o:Nat},(∀(i:Nat) (hi:i<l.length),W.rangeAt R (o+3*i) l[i].cells)→W.rangeAt R o (zaP l)
 | [], o,_=>fun j v hv=>by simp [zaP] at hv
 | x::r,o,h=>fun j v hv=>by
  have h0:=h 0 (by simp)
  have hr:=zlj (R:=R) (l:=r) (o:=o+3) fun i hi=>by
   have:=h (i+1) (by simpa using hi)
   rw [show o+3*(i+1)=o+3+3*i by omega] at this
   simpa using this
  have hv:(x.cells++zaP r)[j]? =some v:=hv
  by_cases hj:j<3
  ·rw [List.getElem?_append_left (by simpa [Sg.cells] using hj)] at hv
   exact h0 j v hv
  ·rw [List.getElem?_append_right (by simp [Sg.cells];omega)] at hv
   have:=hr (j-3) v hv
   rw [show o+3+(j-3)=o+j by omega] at this
   exact this
set_option maxRecDepth 100000 in
theorem Tryz.zyn {v:Value} {x:DataW H×List MemPlace} (h:DataW.trod enc prog W 0 sp held fuel 40 [v]=some x) (hw: ∀n∈x.1.weights prog 40,n≤reachBytes):
  ∃ l,SegV (fun _=>False) W v l∧l.length<4000000000000000:=by
 rcases DataW.trod_slice underlying40 h with ⟨e,_⟩|⟨a,len,cap,elems,rest,n,rfl,e,rfl,_,hlc,hcap,hel,hc,_⟩
 ·simp only [List.cons.injEq,and_true] at e
  subst e
  exact ⟨[],SegV.none,by decide⟩
 ·simp only [List.cons.injEq,and_true] at e
  subst e
  have hb:prog.bytesOf 43=16:=by kernel_rfl
  have hsz:=hw ((elems.length+rest.length)*16) (by
   unfold DataW.weights
   rw [underlying40]
   simp [hb])
  unfold reachBytes at hsz
  obtain ⟨l,hll,hl⟩:=zAL (p:=fun i (s:Sg)=>W.cells? 0 (a.add (i*3)) 3=some s.cells∧s.ok) len fun i hi=>by
   have:=hc i hi
   rw [zg9 (by omega)] at this
   obtain ⟨cs,h1,h2⟩:=Option.bind_eq_some_iff.1 this
   obtain ⟨s,rfl,hs⟩:=zCk h2
   exact ⟨s,h1,hs⟩
  subst hll
  refine ⟨l,⟨some a,cap,rfl,fun s hs=> ?_,?_⟩,by omega⟩
  ·obtain ⟨i,hi,rfl⟩:=List.mem_iff_getElem.1 hs
   exact (hl i hi).2
  ·by_cases h0:l= []
   ·exact .inl h0
   ·right
    obtain ⟨ab,ao,aq⟩:=a
    have hp:0<l.length:=List.length_pos_iff.2 h0
    have hs:aq=none:=cell_spot ((World.cells?_some (hl 0 hp).1).2.2 0 (by decide))
    subst hs
    refine ⟨ab,ao,rfl,fun h=>h,zlj fun i hi j y hy=> ?_⟩
    have hj:j<3:=by
     have:=List.getElem?_eq_some_iff.1 hy
     simpa [Sg.cells] using this.1
    have:=(World.cells?_some (hl i hi).1).2.2 j hj
    rw [hy,addr_add,addr_add] at this
    rw [show ao+3*i+j=ao+i*3+j by omega]
    exact this
end
end Go.Proofs
namespace Go.Proofs
open Go.Dw Go.RowKit Go.Maps Go.Sort Go.Deep Go.ChangeShapes Go.WideShapes
section
variable {H:Type} {enc:TypeId×Value→H} {W:World} {sp:Nat→Bool} {held:Bool} {fuel:Nat}
set_option maxRecDepth 100000 in
theorem Tryz.zz8 {cs:List Value} {x:DataW H×List MemPlace} (h:DataW.trod enc prog W 0 sp held fuel 60 cs=some x): ∃a l f y:Int,cs= [.int .u64 a,.int .u32 l,.int .u16 f,.int .u16 y]∧(0≤a∧a<18446744073709551616)∧(0≤l∧l<4294967296)∧(0≤f∧f<65536)∧(0≤y∧y<65536):=by
 obtain ⟨xs,n,rfl,rfl,hl,hx,hf⟩:=DataW.trod_struct underlying60 h
 have hl:cs.length=4:=hl.trans (by kernel_rfl)
 have hx:xs.length=4:=hx
 match cs,hl with
 | [c0,c1,c2,c3],_=>
  have f0:DataW.trod enc prog W 0 sp held n 29 [c0]=xs[0]? :=by
   have:=(show DataW.trod enc prog W 0 sp held n 29 (([c0,c1,c2,c3].drop 0).take (prog.cellsOf 29))=xs[0]? from hf 0 _ rfl)
   rw [show prog.cellsOf 29=1 from by kernel_rfl] at this
   exact this
  have f1:DataW.trod enc prog W 0 sp held n 41 [c1]=xs[1]? :=by
   have:=(show DataW.trod enc prog W 0 sp held n 41 (([c0,c1,c2,c3].drop 1).take (prog.cellsOf 41))=xs[1]? from hf 1 _ rfl)
   rw [show prog.cellsOf 41=1 from by kernel_rfl] at this
   exact this
  have f2:DataW.trod enc prog W 0 sp held n 58 [c2]=xs[2]? :=by
   have:=(show DataW.trod enc prog W 0 sp held n 58 (([c0,c1,c2,c3].drop 2).take (prog.cellsOf 58))=xs[2]? from hf 2 _ rfl)
   rw [show prog.cellsOf 58=1 from by kernel_rfl] at this
   exact this
  have f3:DataW.trod enc prog W 0 sp held n 58 [c3]=xs[3]? :=by
   have:=(show DataW.trod enc prog W 0 sp held n 58 (([c0,c1,c2,c3].drop 3).take (prog.cellsOf 58))=xs[3]? from hf 3 _ rfl)
   rw [show prog.cellsOf 58=1 from by kernel_rfl] at this
   exact this
  rw [zg9 (by omega)] at f0 f1 f2 f3
  obtain ⟨n0,e0,_,w0⟩:=DataW.trod_int underlying29 f0
  obtain ⟨n1,e1,_,w1⟩:=DataW.trod_int underlying41 f1
  obtain ⟨n2,e2,_,w2⟩:=DataW.trod_int underlying58 f2
  obtain ⟨n3,e3,_,w3⟩:=DataW.trod_int underlying58 f3
  simp only [List.cons.injEq,and_true] at e0 e1 e2 e3
  subst e0 e1 e2 e3
  have b0:=bounds_u64 w0
  have b1:=bounds_u32 w1
  have b2:=bounds_u16 w2
  have b3:=bounds_u16 w3
  exact ⟨n0,n1,n2,n3,rfl,by omega,by omega,by omega,by omega⟩
set_option maxRecDepth 100000 in
theorem Tryz.zDi {cs:List Value} {x:DataW H×List MemPlace} (h:DataW.trod enc prog W 0 sp held fuel 73 cs=some x) (hw: ∀n∈x.1.weights prog 73,n≤reachBytes): ∃c:Pc,cs=c.cells∧c.ok W:=by
 obtain ⟨xs,n,rfl,rfl,hl,hx,hf⟩:=DataW.trod_struct underlying73 h
 have hl:cs.length=9:=hl.trans (by kernel_rfl)
 have hx:xs.length=6:=hx
 match cs,hl with
 | [c0,c1,c2,c3,c4,c5,c6,c7,c8],_=>
  have f0:DataW.trod enc prog W 0 sp held n 3 [c0]=xs[0]? :=by
   have:=(show DataW.trod enc prog W 0 sp held n 3 (([c0,c1,c2,c3,c4,c5,c6,c7,c8].drop 0).take (prog.cellsOf 3))=xs[0]? from hf 0 _ rfl)
   rw [show prog.cellsOf 3=1 from by kernel_rfl] at this
   exact this
  have f1:DataW.trod enc prog W 0 sp held n 3 [c1]=xs[1]? :=by
   have:=(show DataW.trod enc prog W 0 sp held n 3 (([c0,c1,c2,c3,c4,c5,c6,c7,c8].drop 1).take (prog.cellsOf 3))=xs[1]? from hf 1 _ rfl)
   rw [show prog.cellsOf 3=1 from by kernel_rfl] at this
   exact this
  have f2:DataW.trod enc prog W 0 sp held n 41 [c2]=xs[2]? :=by
   have:=(show DataW.trod enc prog W 0 sp held n 41 (([c0,c1,c2,c3,c4,c5,c6,c7,c8].drop 2).take (prog.cellsOf 41))=xs[2]? from hf 2 _ rfl)
   rw [show prog.cellsOf 41=1 from by kernel_rfl] at this
   exact this
  have f3:DataW.trod enc prog W 0 sp held n 60 [c3,c4,c5,c6]=xs[3]? :=by
   have:=(show DataW.trod enc prog W 0 sp held n 60 (([c0,c1,c2,c3,c4,c5,c6,c7,c8].drop 3).take (prog.cellsOf 60))=xs[3]? from hf 3 _ rfl)
   rw [show prog.cellsOf 60=4 from by kernel_rfl] at this
   exact this
  have f4:DataW.trod enc prog W 0 sp held n 4 [c7]=xs[4]? :=by
   have:=(show DataW.trod enc prog W 0 sp held n 4 (([c0,c1,c2,c3,c4,c5,c6,c7,c8].drop 7).take (prog.cellsOf 4))=xs[4]? from hf 4 _ rfl)
   rw [show prog.cellsOf 4=1 from by kernel_rfl] at this
   exact this
  have f5:DataW.trod enc prog W 0 sp held n 40 [c8]=xs[5]? :=by
   have:=(show DataW.trod enc prog W 0 sp held n 40 (([c0,c1,c2,c3,c4,c5,c6,c7,c8].drop 8).take (prog.cellsOf 40))=xs[5]? from hf 5 _ rfl)
   rw [show prog.cellsOf 40=1 from by kernel_rfl] at this
   exact this
  rw [zg9 (by omega)] at f0 f1 f2 f3 f4 f5
  obtain ⟨n0,e0,_,w0⟩:=DataW.trod_int underlying3 f0
  obtain ⟨n1,e1,_,w1⟩:=DataW.trod_int underlying3 f1
  obtain ⟨n2,e2,_,w2⟩:=DataW.trod_int underlying41 f2
  obtain ⟨a,l,f,y,e3,ha,hl2,hf2,hy⟩:=zz8 f3
  obtain ⟨sl,hsl,hsn⟩:=zyn f5 fun m hm=>hw m (by
   unfold DataW.weights
   rw [underlying73]
   exact DataW.weights_mem_each (j:=5) (t:=40) (d:=xs[5].1) rfl (by rw [List.getElem?_map,zg9 (by omega)];rfl) m hm)
  obtain ⟨gb,e7,_⟩:=DataW.trod_bool underlying4 f4
  simp only [List.cons.injEq,and_true] at e0 e1 e2 e3 e7
  obtain ⟨e3,e4,e5,e6⟩:=e3
  subst e0 e1 e2 e3 e4 e5 e6 e7
  have b0:=bounds_i64 w0
  have b1:=bounds_i64 w1
  have b2:=bounds_u32 w2
  exact ⟨⟨n0,n1,n2,a,l,f,y,gb,c8,sl⟩,rfl,⟨by show _≤n0;omega,by show n0<_;omega⟩,⟨by show _≤n1;omega,by show n1<_;omega⟩,⟨by show 0≤n2;omega,by show n2<_;omega⟩,ha,hl2,hf2,hy,hsl,hsn⟩
theorem Tryz.zhR {e:TypeId}: ∀ {l:List (DataW H)} {d:DataW H},d∈l→ ∀n∈d.weights prog e,n∈DataW.weightsAll prog e l
 | x::r,d,h,n,hn=>by
  unfold DataW.weightsAll
  rcases List.mem_cons.1 h with rfl|h
  ·exact List.mem_append_left _ hn
  ·exact List.mem_append_right _ (zhR h n hn)
set_option maxRecDepth 100000 in
theorem Tryz.pcts_open {v:Value} {x:DataW H×List MemPlace} (h:DataW.trod enc prog W 0 sp held fuel 68 [v]=some x) (hw: ∀n∈x.1.weights prog 68,n≤reachBytes):
  ∃ l,PctV W v l:=by
 rcases DataW.trod_slice underlying68 h with ⟨e,_⟩|⟨a,len,cap,elems,rest,n,rfl,e,rfl,_,hlc,hcap,hel,hc,_⟩
 ·simp only [List.cons.injEq,and_true] at e
  subst e
  exact ⟨[],⟨⟨none,0,rfl,.inl rfl⟩,fun x hx=>(by cases hx),by decide⟩⟩
 ·simp only [List.cons.injEq,and_true] at e
  subst e
  have hb:prog.bytesOf 73=72:=by kernel_rfl
  have hc9:prog.cellsOf 73=9:=by kernel_rfl
  have hws: ∀m,(m=(elems.length+rest.length)*72∨m∈DataW.weightsAll prog 73 (elems.map (·.1)))→m≤reachBytes:=fun m hm=>hw m (by
   unfold DataW.weights
   rw [underlying68]
   simp only [List.length_map,hb,List.mem_cons,List.mem_append]
   rcases hm with hm|hm
   ·exact .inl hm
   ·exact .inr (.inl hm))
  have hsz:=hws _ (.inl rfl)
  unfold reachBytes at hsz
  rw [hc9] at hc
  obtain ⟨l,hll,hl⟩:=zAL (p:=fun i (s:Pc)=>W.cells? 0 (a.add (i*9)) 9=some s.cells∧s.ok W) len fun i hi=>by
   have:=hc i hi
   rw [zg9 (by omega)] at this
   obtain ⟨cs,h1,h2⟩:=Option.bind_eq_some_iff.1 this
   obtain ⟨s,rfl,hs⟩:=zDi h2 fun m hm=>hws m (.inr (zhR (List.mem_map.2 ⟨_,List.getElem_mem _,rfl⟩) m hm))
   exact ⟨s,h1,hs⟩
  subst hll
  refine ⟨l,⟨⟨some a,cap,rfl,?_⟩,fun s hs=> ?_,by omega⟩⟩
  ·by_cases h0:l= []
   ·exact .inl h0
   ·right
    obtain ⟨ab,ao,aq⟩:=a
    have hp:0<l.length:=List.length_pos_iff.2 h0
    have hs:aq=none:=cell_spot ((World.cells?_some (hl 0 hp).1).2.2 0 (by decide))
    subst hs
    refine ⟨ab,ao,rfl,fun i hi j y hy=> ?_⟩
    have hj:j<9:=by
     have:=List.getElem?_eq_some_iff.1 hy
     simpa [Pc.cells] using this.1
    have:=(World.cells?_some (hl i hi).1).2.2 j hj
    rw [hy,addr_add,addr_add] at this
    rw [show ao+9*i+j=ao+i*9+j by omega]
    exact this
  ·obtain ⟨i,hi,rfl⟩:=List.mem_iff_getElem.1 hs
   exact (hl i hi).2
end
end Go.Proofs
namespace Go.Proofs.YtfoggkodmjnmcaaGreat
theorem zxl:(Dw.ev Tryz.prog (Dw.zf3 64 [90]) 100000000 (.call 6 [] Dw.heap0 Dw.isTrue)).good=true:=by kernel_rfl
theorem lives6:Dw.zFu Tryz.prog 6:=Dw.zwn (by kernel_rfl) (fun w=>Tryz.zFS) zxl
theorem zsI:Tryz.pinned.checked.prog.mayEnter=true:=by kernel_rfl
end Go.Proofs.YtfoggkodmjnmcaaGreat
namespace Go.Proofs.YtfoggkodmjnmcaaGreat.pserveEnds
open Go.ChangeShapes Go.WideShapes Go.ChangeAt Go.RowKit
theorem closedFacts:joinedFacts Tryz.pinned.checked.prog 4 Tryz.f4 Rows.pserveEndsSpec Rows.pserveEndsRow=true:=by
 unfold joinedFacts
 rw [zsI]
 kernel_rfl
end Go.Proofs.YtfoggkodmjnmcaaGreat.pserveEnds
end
