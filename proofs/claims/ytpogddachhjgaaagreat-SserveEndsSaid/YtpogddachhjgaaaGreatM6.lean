/-
  Proved: laws on the way to 'SserveEndsProof' (texts XaV XaW XaX XaY XaZ XbA XbB XbC XbD XbH XbI XbK XbM XbN XbF XbG XbE XbO XbP XbQ XbR Lives6 Enter SserveEndsFacts); no condition.
-/
import Derived.Test.YtpogddachhjgaaaGreatM5
import Derived.OpenShut
import Derived.Lib.LaidU8
import Derived.Test.YtpogddachhjgaaaGreatProg
import Derived.KernelRfl
import Derived.Test.YtpogddachhjgaaaGreatRows
import Derived.WalkKit
import Derived.ProofKit
set_option linter.unusedSimpArgs false
set_option linter.unusedVariables false
noncomputable section
namespace Go.Proofs
open Go.Dw Go.RowKit Go.Maps Go.Sort

theorem Tryz.OwnR.apart {t1 t2:TypeId} {z1 z2 n1 n2:Nat} {w:World} {b1 b2:Nat} {u1 u2 y1 y2:Value} {c1 c2:List Value} (h1:OwnR t1 z1 w b1 u1 n1 c1) (h2:OwnR t2 z2 w b2 u2 n2 c2) (hc1:c1[0]? =some y1) (hc2:c2[0]? =some y2) (hne:y1≠y2): ∀b,u1.ownBlock=some b→u2.ownBlock≠some b:=fun b e1 e2=>by
 obtain ⟨_,_,_,h1⟩:=OwnR.row h1
 obtain ⟨_,_,_,h2⟩:=OwnR.row h2
 rcases h1 with h1|⟨G1,_,q1,h1⟩
 ·rw [h1] at hc1;cases hc1
 rcases h2 with h2|⟨G2,_,q2,h2⟩
 ·rw [h2] at hc2;cases hc2
 rw [q1] at e1;cases e1
 rw [q2] at e2;cases e2
 have k1:=h1 0 _ hc1
 have k2:=h2 0 _ hc2
 rw [k1] at k2
 exact hne (Option.some.inj k2)
def Tryz.zrD (ρ:Val) (n idx head code:Int) (hv:Value) (a:Act):Val:=
 ⟨fun m=>match m with|17=>n|21=>code|24=>idx|25=>head|m=>ρ.i m,ρ.b,fun m=>match m with|5=>hv|m=>if 100≤m then a.tmps.getD (m-100) undef else ρ.v m⟩
structure Tryz.K1D (ρ' ρ:Val) (n idx head code:Int) (hv:Value) (a:Act):Prop where
 n:(lnv 17).den ρ'=n
 idx:ρ'.i 24=idx
 head:ρ'.i 25=head
 code:ρ'.i 21=code
 st:ρ'.i 15=ρ.i 15
 i9:ρ'.i 9=ρ.i 9
 v2:ρ'.v 2=ρ.v 2
 hv:ρ'.v 5=hv
 p: ∀t,ρ'.v (100+t)=a.tmps.getD t undef
 act: ∀j vals,RL ρ j lwAct vals→RL ρ' j lwAct vals
theorem Tryz.k1D {ρ:Val} {n idx head code:Int} {hv:Value} {a:Act} (hn:0≤n∧n<4000000):K1D (zrD ρ n idx head code hv a) ρ n idx head code hv a:=
 ⟨zaB hn.1 (by show n<_;omega),rfl,rfl,rfl,rfl,rfl,rfl,rfl,fun t=>by
  show (match 100+t with|5=>hv|m=>if 100≤m then a.tmps.getD (m-100) undef else ρ.v m)=_
  split
  ·omega
  ·rw [if_pos (by omega),Nat.add_sub_cancel_left],fun j vals h=>h⟩
set_option maxRecDepth 10000 in
set_option maxHeartbeats 2000000 in
theorem Tryz.zrC {ρ:Val} {w0:World} {K:Nat→Prop} {X:Nat→Prop} {bX:Nat} {S P L Bs B M N:Nat} {r:Rg} {b2:Nat} {sk:Nat→SS} {gk:Nat→Nat→Int} {rows:Nat→List LwR} {hd:LwR} {H:List Int} {an:Int}
    (hv2:ρ.v 2= .pointer (some ⟨S,0,none⟩)) (hn:(lnv 17).den ρ=H.length) (hH:H.length≤1000000) (h9:ρ.i 9=an) (hlt:S<b2∧M<b2∧B<b2) (hK:K S∧K M∧K B) (hb2:b2≤w0.heap.size) (hbX:bX≤w0.heap.size) (hany: -9223372036854775808≤an)
    (hhd:hd∈rows 6) (hhq:hd.q=some 6) (hhn:hd.n=H.length) (hhz:hd.sz=1) (hhc:hd.cs=zaG H) (hrows: ∀e∈rows 2,e∈rows 6∧ ∃y,e.cs[0]? =some y∧ ∀z,y≠ .int .i64 z)
    (hlen: ∀e∈(sk 6).tk,e.2.length≤1000000) (hg:gk 2=gk 6)
    (hs:sk 2=if H.length=0 then sk 6 else (retS (sk 6) (H.getD (an%H.length).toNat 0) 0).2) (hb3:ρ.b 3=decide (H.length≠0∧(retS (sk 6) (H.getD (an%H.length).toNat 0) 0).1=0)):
    zgc prog ρ w0 K (lwG X bX S P L Bs B M N r b2 sk gk rows) k1Stmt:=by
  intro cc hcc j a w F n0 hsz hdf hsl hrw hnone hbase hF hs0 hf hold
  subst hcc
  obtain ⟨hXF,F0,hF0,hlw,hrw2⟩:=hf
  obtain ⟨uf,huf⟩: ∃uf:LwR→Value,∀e∈rows 6,e.is (opqs j) (uf e)∧(∃t,OwnR t e.sz w b2 (uf e) e.n e.cs)∧ ∀b,(uf e).ownBlock=some b→F b∧ ¬F0 b:=by
    classical
    exact ⟨fun e=>if h:e∈rows 6 then Classical.choose (hrw2 e h) else undef,fun e h=>by simp only [h,dite_true];obtain ⟨t,h1,h2,h3⟩:=Classical.choose_spec (hrw2 e h);exact ⟨h1,⟨t,h2⟩,h3⟩⟩
  have g8:=R_val rfl (hsl (8,.cst 2 none) (by simp [k1Stmt,k1Rest])).2
  have g14:=R_val rfl (hsl (14,.int .i64 (.var 15)) (by simp [k1Stmt])).2
  simp only [AV.val,hv2,zai] at g8 g14
  have h20:=(hsl (20,.opq 6 (some (lnv 17))) (by simp [k1Stmt])).2
  have h17:=(hsl (17,.ptr 3 0) (by simp [k1Stmt])).2
  obtain ⟨La,hja,g17⟩:=h17
  obtain ⟨hLF,vals,hvals,hrow⟩:=hrw (3,lwAct) (by simp [k1Stmt]) La hja
  obtain ⟨q1,⟨tq,q2⟩,q3⟩:=huf hd hhd
  have g20:a.tmps.getD 20 undef=uf hd:=by
    obtain ⟨⟨Lq,hj,hu⟩,_⟩:=h20
    unfold LwR.is at q1
    rw [hhq] at q1
    simp only at q1
    unfold opqs at q1
    rw [hj] at q1
    simp only [Option.bind_some] at q1
    rw [hu] at q1
    injection q1
  rw [hhz,hhn,hhc] at q2
  have hone: ∀t∈ [0,2,7,9,13,15,16,18,19],(a.tmps.getD t undef).oneCell'=true:=by
    intro t ht
    simp only [List.mem_cons,List.not_mem_nil,or_false] at ht
    rcases ht with rfl|rfl|rfl|rfl|rfl|rfl|rfl|rfl|rfl
    · exact zba rfl (hsl (0,.int .i64 (szv 0)) (by simp [k1Stmt,k1Rest])).2
    · exact zba rfl (hsl (2,lwActs) (by simp [k1Stmt,k1Rest])).2
    · exact zba rfl (hsl (7,.cst 0 none) (by simp [k1Stmt,k1Rest])).2
    · exact zba rfl (hsl (9,.ptr 1 0) (by simp [k1Stmt,k1Rest])).2
    · exact zba rfl (hsl (13,.int .u64 (u64v 19)) (by simp [k1Stmt,k1Rest])).2
    · exact zba rfl (hsl (15,.int .i64 (.var 5)) (by simp [k1Stmt,k1Rest])).2
    · exact zba rfl (hsl (16,.int .i64 (lnv 6)) (by simp [k1Stmt,k1Rest])).2
    · exact zba rfl (hsl (18,.opq 4 none) (by simp [k1Stmt,k1Rest])).2
    · exact zba rfl (hsl (19,.int .i64 (lnv 17)) (by simp [k1Stmt,k1Rest])).2
  have hsz:a.tmps.size=237:=hsz
  have hq2:=q2
  obtain ⟨su,cu,hsu,hur⟩:=OwnR.row q2
  rw [hsu] at g20
  have hLlt:La.blk<w.heap.size:=zeW hrow
  have hv0:vals≠ []:=fun h=>by
    subst h
    obtain ⟨_,_,h,_⟩:=hvals
    cases h
  by_cases h0:H.length=0
  · rw [h0] at hb3 hs
    have hb3:ρ.b 3=false:=by rw [hb3];simp
    rw [if_pos rfl] at hs
    have D:=k1D (ρ:=ρ) (n:=H.length) (idx:=0) (head:=0) (code:=0) (hv:= .slice su H.length cu) (a:=a) (by omega)
    generalize zrD ρ H.length 0 0 0 (.slice su H.length cu) a=ρ' at D
    have hj1:jOf [(La.blk,La.off)] 1=some ⟨La.blk,La.off,0,none⟩:=rfl
    have hvals1:RL ρ' (jOf [(La.blk,La.off)]) lwAct vals:=D.act _ vals hvals
    refine wp_mono (zam (ρ:=ρ') (K:=fun _=>False) (g:=Gho.none) (bl:= [(La.blk,La.off)]) mixed k1z_run k1z_ok (fun b h=>h.elim) ⟨zb1 hrow hv0 hvals1 (fun h=>h),trivial⟩ ⟨fun h=>(by cases h),trivial⟩ zas trivial trivial trivial hsz hdf ?_ (told_cons_iff.2 ⟨by rw [zaP,D.n,zac];simp only [decide_eq_false_iff_not];omega,told_nil.2 trivial⟩)) fun ex a2 w2 hh=> ?_
    · intro t ht
      simp only [k1z_slots,zcM,List.map_cons,List.map_nil,List.cons_append,List.nil_append,List.mem_cons,List.not_mem_nil,or_false] at ht
      rcases ht with rfl|rfl|rfl|rfl|ht
      · rw [g8];exact zaD (D.v2.trans hv2) rfl
      · rw [g14];exact zab D.st
      · rw [g17];exact ⟨_,hj1,rfl⟩
      · rw [g20];exact ⟨D.hv.symm,_,_,_,rfl,D.n.symm,trivial⟩
      · rcases ht with rfl|rfl|rfl|rfl|rfl|rfl|rfl|rfl|rfl
        all_goals
          show Dw.R ρ' _ (.cst _ none) _
          exact zaD (D.p _) (hone _ (by simp))
    · obtain ⟨q,hq,hto,lf,hlf,rfl,hsz2,j2,hdf2,he⟩:=hh
      have hb3':=zag he (fun _ h=>h)
      unfold k1z_ps at hq
      simp only [List.mem_cons,List.not_mem_nil,or_false] at hq
      subst hq
      cases hlf
      have hs2:=zal he.ret
      simp only [AV.valL,AV.val,D.v2,hv2,D.st,zai,List.map_cons,List.map_nil,List.cons.injEq,and_true] at hs2
      obtain ⟨r14,r8,r0,r2,r7,r9,r13,r15,r16,r18,r19⟩:=hs2
      refine ⟨⟨.lit true,.normal,(14,.int .i64 (.var 15))::k1Rest,2⟩,[],F,?_,rfl,hsz2,hdf2,(fun t ht=>by cases ht),rfl,fun s hs=> ?_,⟨hXF,F0,hF0,?_,fun e he=> ?_⟩,fun b hb=>⟨Nat.lt_of_lt_of_le (hF b hb) hb3'.size,.inl hb⟩,Dw.Mv.of_below hb3'⟩
      · unfold k1Stmt
        rw [zaT,if_neg (by rw [zau,hb3];decide),zaT,if_pos (show SB.den ρ (.lit true)=true from rfl)]
      · rw [zcb]
        simp only [k1Rest,List.mem_cons,List.not_mem_nil,or_false] at hs
        rcases hs with rfl|rfl|rfl|rfl|rfl|rfl|rfl|rfl|rfl|rfl|rfl
        · rw [r14];exact zab rfl
        · rw [r0.trans (D.p 0)];exact (hsl (0,.int .i64 (szv 0)) (by simp [k1Stmt,k1Rest])).2
        · rw [r2.trans (D.p 2)];exact (hsl (2,lwActs) (by simp [k1Stmt,k1Rest])).2
        · rw [r7.trans (D.p 7)];exact (hsl (7,.cst 0 none) (by simp [k1Stmt,k1Rest])).2
        · rw [r8,←g8];exact (hsl (8,.cst 2 none) (by simp [k1Stmt,k1Rest])).2
        · rw [r9.trans (D.p 9)];exact (hsl (9,.ptr 1 0) (by simp [k1Stmt,k1Rest])).2
        · rw [r13.trans (D.p 13)];exact (hsl (13,.int .u64 (u64v 19)) (by simp [k1Stmt,k1Rest])).2
        · rw [r15.trans (D.p 15)];exact (hsl (15,.int .i64 (.var 5)) (by simp [k1Stmt,k1Rest])).2
        · rw [r16.trans (D.p 16)];exact (hsl (16,.int .i64 (lnv 6)) (by simp [k1Stmt,k1Rest])).2
        · rw [r18.trans (D.p 18)];exact (hsl (18,.opq 4 none) (by simp [k1Stmt,k1Rest])).2
        · rw [r19.trans (D.p 19)];exact (hsl (19,.int .i64 (lnv 17)) (by simp [k1Stmt,k1Rest])).2
      · show LwF S P L Bs B M N r (sk 2) (gk 2) _ w2
        rw [hs,hg]
        exact hlw.kept (fun b hb=>hb3'.block b (hF b (hF0 b hb))) hb3'.size
      · obtain ⟨e1,⟨te,e2⟩,e3⟩:=huf e (hrows e he).1
        exact ⟨uf e,te,by rw [zcb];exact e1,OwnR.kept e2 fun b hb=>hb3'.block b (OwnR.lt e2 b hb).2,e3⟩
  · rw [if_neg h0] at hs
    rcases hur with hnil|⟨G,rfl,hGo,hur⟩
    · have:=congrArg List.length hnil
      simp [zaG] at this
      exact absurd (List.length_eq_zero_iff.2 this) h0
    have hm0:0≤an%H.length:=Int.emod_nonneg _ (by omega)
    have hm1:an%H.length<H.length:=Int.emod_lt_of_pos _ (by omega)
    obtain ⟨k,hk⟩: ∃k:Nat,an%H.length=k:=⟨(an%H.length).toNat,by omega⟩
    have hkl:k<H.length:=by omega
    rw [hk,Int.toNat_natCast] at hs hb3
    have hx:=zcO hur k hkl
    have hgd:H.getD k 0=H[k]:=by simp [List.getD_eq_getElem?_getD,hkl]
    rw [hgd] at hs hb3
    generalize H[k]=head at hx hs hb3
    have hGF:=q3 G (by rw [hsu];rfl)
    have D:=k1D (ρ:=ρ) (n:=H.length) (idx:=k) (head:=head) (code:=(retS (sk 6) head 0).1) (hv:= .slice (some ⟨G,0,none⟩) H.length cu) (a:=a) (by omega)
    generalize zrD ρ H.length k head (retS (sk 6) head 0).1 (.slice (some ⟨G,0,none⟩) H.length cu) a=ρ' at D
    have hj1:jOf [(La.blk,La.off),(G,0+1*k)] 1=some ⟨La.blk,La.off,0,none⟩:=rfl
    have hj2:jOf [(La.blk,La.off),(G,0+1*k)] 2=some ⟨G,0+1*k,0,none⟩:=rfl
    have hvals1:RL ρ' (jOf [(La.blk,La.off),(G,0+1*k)]) lwAct vals:=D.act _ vals hvals
    have hKL: ¬(La.blk=S∨La.blk=M∨La.blk=B):=fun h=>hLF (by rcases h with h|h|h<;>rw [h];exact hF0 _ hlw.fS;exact hF0 _ hlw.fM;exact hF0 _ hlw.fB)
    have hKG: ¬(G=S∨G=M∨G=B):=fun h=>hGF.2 (by rcases h with h|h|h<;>rw [h];exact hlw.fS;exact hlw.fM;exact hlw.fB)
    have hFs: ∀b,(b=S∨b=M∨b=B)→F b:=fun b h=>by rcases h with rfl|rfl|rfl;exact hF0 _ hlw.fS;exact hF0 _ hlw.fM;exact hF0 _ hlw.fB
    refine wp_mono (zam (ρ:=ρ') (K:=fun b=>b=S∨b=M∨b=B) (g:=lwG F w.heap.size S P L Bs B M N r b2 (fun m=>match m with|2=>(retS (sk 6) head 0).2|_=>sk 6) (fun _=>gk 6) (fun _=>(rows 2).map fun e=>⟨none,uf e,e.sz,e.n,e.cs⟩)) (bl:= [(La.blk,La.off),(G,0+1*k)]) mixed k1a_run k1a_ok (fun b h=>hF b (hFs b h))
      ⟨zb1 hrow hv0 hvals1 hKL,zaw hx (by simp) (zaa (zab D.head) RL.nil) hKG,trivial⟩ ⟨fun h=>(by cases h),fun h=>(by cases h),trivial⟩ ?_
      ⟨zak (Dw.enters_of (by kernel_rfl)) (by decide) [.int .i64 an,.int .i64 H.length] (.int .i64 (an%H.length)) (fun j=>zaa (zab (D.i9.trans h9)) (zaa (zab D.n) RL.nil)) (fun j=>zab (D.idx.trans hk.symm)) (fun w F q hf=>Calls.mono (zdc an H.length (by omega) w) fun e w' hh=>⟨hh.1,hh.2▸Below.refl _ _⟩),
       zk8 (Dw.enters_of (by kernel_rfl)) (by decide) (Nat.le_refl _) [.pointer (some ⟨S,0,none⟩),.int .i64 head,.int .u32 0] (.int .i64 (retS (sk 6) head 0).1) (fun j=>zaa (zaD (D.v2.trans hv2) rfl) (zaa (zab D.head) (zaa (zab rfl) RL.nil))) (fun j=>zab D.code) hlt ⟨.inl rfl,.inr (.inl rfl),.inr (.inr rfl)⟩ (fun e h=>h) (fun A w hsw=>zrd hsw head 0 (by decide) hlen),trivial⟩
      trivial trivial hsz hdf ?_ (told_cons_iff.2 ⟨by rw [zaP,D.n,zac];simp only [decide_eq_true_eq];omega,told_cons_iff.2 ⟨by rw [zaz,zai,D.idx,D.n];simp only [decide_eq_true_eq];omega,told_cons_iff.2 ⟨by rw [zaz,zai,D.idx,zac];simp only [decide_eq_false_iff_not];omega,told_nil.2 trivial⟩⟩⟩)) fun ex a2 w2 hh=> ?_
    · refine ⟨fun b=>F b∧b≠G,fun b hb=>⟨hF b hb.1,fun hmn=> ?_⟩,fun b hb=> .inl hb.1,F0,fun b hb=>⟨hF0 b hb,fun e=>hGF.2 (e▸hb)⟩,hlw,fun e he=> ?_⟩
      · have:=zce hmn
        simp only [List.map_cons,List.map_nil,List.mem_cons,List.not_mem_nil,or_false] at this
        rcases this with h|h
        · exact hLF (h▸hb.1)
        · exact hb.2 h
      · obtain ⟨e',he',rfl⟩:=List.mem_map.1 he
        obtain ⟨e1,⟨te,e2⟩,e3⟩:=huf e' (hrows e' he').1
        obtain ⟨y,y1,y2⟩:=(hrows e' he').2
        exact ⟨uf e',te,rfl,e2,fun b hb=>⟨⟨(e3 b hb).1,fun h=>OwnR.apart e2 hq2 y1 (show (zaG H)[0]? =some (.int .i64 (H[0]'(by omega))) by simp [zaG,show 0<H.length by omega]) (y2 _) b hb (by rw [h,hsu];rfl)⟩,(e3 b hb).2⟩⟩
    · intro t ht
      simp only [k1a_slots,zcM,List.map_cons,List.map_nil,List.cons_append,List.nil_append,List.mem_cons,List.not_mem_nil,or_false] at ht
      rcases ht with rfl|rfl|rfl|rfl|ht
      · rw [g8];exact zaD (D.v2.trans hv2) rfl
      · rw [g14];exact zab D.st
      · rw [g17];exact ⟨_,hj1,rfl⟩
      · rw [g20];exact ⟨D.hv.symm,_,_,_,rfl,D.n.symm,⟨G,0,_,k,rfl,hj2,rfl,D.idx,hkl,rfl⟩,trivial⟩
      · rcases ht with rfl|rfl|rfl|rfl|rfl|rfl|rfl|rfl|rfl
        all_goals
          show Dw.R ρ' _ (.cst _ none) _
          exact zaD (D.p _) (hone _ (by simp))
    · obtain ⟨q,hq,hto,lf,hlf,rfl,hsz2,j2,hdf2,he⟩:=hh
      have hmv:Dw.Mv (fun b=>F b∧(w0.heap.size≤b∨K b)) w w2:=he.mv.mono fun b hb=>⟨hFs b hb,.inr (by rcases hb with rfl|rfl|rfl;exact hK.1;exact hK.2.1;exact hK.2.2)⟩
      unfold k1a_ps at hq
      simp only [List.mem_cons,List.not_mem_nil,or_false] at hq
      rcases hq with rfl|rfl
      all_goals
        simp only [told_cons_iff,told_nil,zbm,zai,zac,D.code,beq_iff_eq,beq_eq_false_iff_ne,ne_eq,and_true] at hto
        cases hlf
        have hs2:=zal he.ret
        simp only [AV.valL,AV.val,D.v2,hv2,D.st,zai,zac,List.map_cons,List.map_nil,List.cons.injEq,and_true] at hs2
        obtain ⟨r14,r8,r0,r2,r7,r9,r13,r15,r16,r18,r19⟩:=hs2
        obtain ⟨F2,hF2,hX2,F0',hF0',hlw2,hr2⟩:=he.gho
      · refine ⟨⟨.var 3,.normal,(14,.int .i64 (.lit 0))::k1Rest,2⟩,[],F2,?_,rfl,hsz2,hdf2,(fun t ht=>by cases ht),rfl,fun s hs=> ?_,⟨fun b hb=> ?_,F0',hF0',?_,fun e he'=> ?_⟩,fun b hb=>⟨(hF2 b hb).1,hX2 b hb⟩,hmv⟩
        · unfold k1Stmt
          rw [zaT,if_pos (by rw [zau,hb3];simp [h0,hto])]
        · rw [zcb]
          simp only [k1Rest,List.mem_cons,List.not_mem_nil,or_false] at hs
          rcases hs with rfl|rfl|rfl|rfl|rfl|rfl|rfl|rfl|rfl|rfl|rfl
          · rw [r14];exact zab rfl
          · rw [r0.trans (D.p 0)];exact (hsl (0,.int .i64 (szv 0)) (by simp [k1Stmt,k1Rest])).2
          · rw [r2.trans (D.p 2)];exact (hsl (2,lwActs) (by simp [k1Stmt,k1Rest])).2
          · rw [r7.trans (D.p 7)];exact (hsl (7,.cst 0 none) (by simp [k1Stmt,k1Rest])).2
          · rw [r8,←g8];exact (hsl (8,.cst 2 none) (by simp [k1Stmt,k1Rest])).2
          · rw [r9.trans (D.p 9)];exact (hsl (9,.ptr 1 0) (by simp [k1Stmt,k1Rest])).2
          · rw [r13.trans (D.p 13)];exact (hsl (13,.int .u64 (u64v 19)) (by simp [k1Stmt,k1Rest])).2
          · rw [r15.trans (D.p 15)];exact (hsl (15,.int .i64 (.var 5)) (by simp [k1Stmt,k1Rest])).2
          · rw [r16.trans (D.p 16)];exact (hsl (16,.int .i64 (lnv 6)) (by simp [k1Stmt,k1Rest])).2
          · rw [r18.trans (D.p 18)];exact (hsl (18,.opq 4 none) (by simp [k1Stmt,k1Rest])).2
          · rw [r19.trans (D.p 19)];exact (hsl (19,.int .i64 (lnv 17)) (by simp [k1Stmt,k1Rest])).2
        · rcases hX2 b hb with h|h
          · exact hXF b h
          · exact .inr (by omega)
        · show LwF S P L Bs B M N r (sk 2) (gk 2) _ w2
          rw [hs,hg]
          exact hlw2
        · obtain ⟨u,tu,u1,u2,u3⟩:=hr2 _ (List.mem_map.2 ⟨e,he',rfl⟩)
          have u1:u=uf e:=u1
          subst u1
          exact ⟨uf e,tu,by rw [zcb];exact (huf e (hrows e he').1).1,u2,u3⟩
      · refine ⟨⟨.lit true,.normal,(14,.int .i64 (.var 15))::k1Rest,2⟩,[],F2,?_,rfl,hsz2,hdf2,(fun t ht=>by cases ht),rfl,fun s hs=> ?_,⟨fun b hb=> ?_,F0',hF0',?_,fun e he'=> ?_⟩,fun b hb=>⟨(hF2 b hb).1,hX2 b hb⟩,hmv⟩
        · unfold k1Stmt
          rw [zaT,if_neg (by rw [zau,hb3];simp [hto]),zaT,if_pos (show SB.den ρ (.lit true)=true from rfl)]
        · rw [zcb]
          simp only [k1Rest,List.mem_cons,List.not_mem_nil,or_false] at hs
          rcases hs with rfl|rfl|rfl|rfl|rfl|rfl|rfl|rfl|rfl|rfl|rfl
          · rw [r14];exact zab rfl
          · rw [r0.trans (D.p 0)];exact (hsl (0,.int .i64 (szv 0)) (by simp [k1Stmt,k1Rest])).2
          · rw [r2.trans (D.p 2)];exact (hsl (2,lwActs) (by simp [k1Stmt,k1Rest])).2
          · rw [r7.trans (D.p 7)];exact (hsl (7,.cst 0 none) (by simp [k1Stmt,k1Rest])).2
          · rw [r8,←g8];exact (hsl (8,.cst 2 none) (by simp [k1Stmt,k1Rest])).2
          · rw [r9.trans (D.p 9)];exact (hsl (9,.ptr 1 0) (by simp [k1Stmt,k1Rest])).2
          · rw [r13.trans (D.p 13)];exact (hsl (13,.int .u64 (u64v 19)) (by simp [k1Stmt,k1Rest])).2
          · rw [r15.trans (D.p 15)];exact (hsl (15,.int .i64 (.var 5)) (by simp [k1Stmt,k1Rest])).2
          · rw [r16.trans (D.p 16)];exact (hsl (16,.int .i64 (lnv 6)) (by simp [k1Stmt,k1Rest])).2
          · rw [r18.trans (D.p 18)];exact (hsl (18,.opq 4 none) (by simp [k1Stmt,k1Rest])).2
          · rw [r19.trans (D.p 19)];exact (hsl (19,.int .i64 (lnv 17)) (by simp [k1Stmt,k1Rest])).2
        · rcases hX2 b hb with h|h
          · exact hXF b h
          · exact .inr (by omega)
        · show LwF S P L Bs B M N r (sk 2) (gk 2) _ w2
          rw [hs,hg]
          exact hlw2
        · obtain ⟨u,tu,u1,u2,u3⟩:=hr2 _ (List.mem_map.2 ⟨e,he',rfl⟩)
          have u1:u=uf e:=u1
          subst u1
          exact ⟨uf e,tu,by rw [zcb];exact (huf e (hrows e he').1).1,u2,u3⟩
end Go.Proofs
namespace Go.Proofs
open Go.Dw Go.RowKit Go.Maps Go.Sort

theorem Tryz.zoo {j:J} {n:Nat} {qs:List Value} (h: ∀k,n≤k→j k=none):Sub j (jq j n qs):=fun m L e=>by
 unfold jq
 rw [if_neg (fun hh=>by rw [h m hh.1] at e;cases e)]
 exact e
def Tryz.zdR (an sz:Int) (k:Nat):List Int:=(List.range k).map fun (i:Nat)=>(an%sz+(i:Int))%sz
theorem Tryz.zm8 (an sz:Int) (k:Nat):zdR an sz (k+1)=zdR an sz k++ [(an%sz+k)%sz]:=by simp [zdR,List.range_succ]
theorem Tryz.zg2 (an sz:Int) (k:Nat):(zdR an sz k).length=k:=by simp [zdR]
theorem Tryz.zqb {an sz:Int} (h:1≤sz) (k:Nat): ∀x∈zdR an sz k,0≤x∧x<sz:=fun x hx=>by
 obtain ⟨i,_,rfl⟩:=List.mem_map.1 hx
 exact ⟨Int.emod_nonneg _ (by omega),Int.emod_lt_of_pos _ (by omega)⟩
theorem Tryz.zln {an sz:Int} (h:1≤sz) {k:Nat} (hk:(k:Int)≤sz):(zdR an sz k).Nodup:=by
 unfold zdR
 rw [List.Nodup,List.pairwise_map]
 refine List.Pairwise.imp_of_mem (fun {i j} hi hj hij e=> ?_) (List.pairwise_lt_range)
 have hi:=List.mem_range.1 hi
 have hj:=List.mem_range.1 hj
 have h1:=Int.emod_emod_of_dvd (an%sz+j-(an%sz+i)) (Int.dvd_refl sz)
 have h2:(an%sz+j-(an%sz+i))%sz=0:=Int.emod_eq_emod_iff_emod_sub_eq_zero.1 e.symm
 rw [show an%sz+(j:Int)-(an%sz+i)=(j:Int)-i by omega,Int.emod_eq_of_lt (by omega) (by omega)] at h2
 omega
theorem Tryz.infoI:(prog.info? 3).map (fun i=>(i.zero,i.size,i.bytes))=some (some (.int .i64 0),1,8):=by kernel_rfl
def Tryz.idG (b2:Nat) (v:Value) (xs ys:List Int):Gho where
 fact k q F w:=match k with|0=>True|1=>OwnR 3 1 w b2 v xs.length (zaG xs)∧ ∀b,v.ownBlock=some b→F b|_=> ∃u,q 3=some u∧OwnR 3 1 w b2 u ys.length (zaG ys)∧ ∀b,u.ownBlock=some b→F b
 loc:=fun k q q' F w w' h hq hb hs=>by
  match k,h with
  | 0,_=>trivial
  | 1,⟨h7,h8⟩=>exact ⟨OwnR.kept h7 fun b e=>hb b (h8 b e),h8⟩
  | k+2,⟨u,h7,h8,h9⟩=>exact ⟨u,hq _ _ h7,OwnR.kept h8 fun b e=>hb b (h9 b e),h9⟩
theorem Tryz.zrE {ρ:Val} {w0:World} {K:Nat→Prop} {b2:Nat} {v:Value} {xs:List Int} {x:Int} {e:SE} (hv:ρ.v 3=v) (hx:e.den ρ=x) (hb2:b2≤w0.heap.size) (hK: ∀b,v.ownBlock=some b→K b) (hl:xs.length≤100000):zqB prog ρ w0 K (idG b2 v xs (xs++ [x])) (idsA 3 e):=by
 intro j w F n us bb o cap vals ty hus hcells hxs hnone hbase hF hsz hfa
 have hb:n=3:=hbase (by show (1:Nat)≠0;decide)
 subst hb
 obtain ⟨f5,f6⟩:=hfa
 have hus:=R_val rfl hus
 have hus:us=v:=by rw [hus];exact hv
 subst hus
 obtain ⟨x0,_,rfl,e0,hxs⟩:=hxs
 have hxs:_= []:=hxs
 subst hxs
 have e0:x0= .int .i64 x:=by rw [show x0= .int .i64 (SE.den ρ e) from e0,hx]
 subst e0
 have hinfo:=infoI
 cases hi:prog.info? 3 with
 | none=>rw [hi] at hinfo;cases hinfo
 | some i=>
 rw [hi] at hinfo
 simp only [Option.map_some,Option.some.injEq,Prod.mk.injEq] at hinfo
 obtain ⟨i1,i2,i3⟩:=hinfo
 obtain ⟨u,w',h1,h2,h3,h4,h5⟩:=run_append_own_at (P:=prog) w b2 35 ty 3 i _ 1 8 (by kernel_rfl) hi i1 i2 i3 rfl (by decide) us xs.length (zaG xs) f5 ⟨bb,o,none⟩ 1 cap [.int .i64 x] rfl
  (fun q y hy=>by rw [Dw.addr_add];exact hcells q y hy) (fun y hy=>by rw [List.mem_singleton] at hy;subst hy;rfl) (by unfold maxLen;omega) (by omega) (by omega)
 have hown:OwnR 3 1 w' b2 u (xs++ [x]).length (zaG (xs++ [x])):=by
  rw [List.length_append,show zaG (xs++ [x])=zaG xs++ [.int .i64 x] by simp [zaG]]
  exact h2
 have hub:=OwnR.lt hown
 have hub1: ∀b,u.ownBlock=some b→us.ownBlock=some b∨w.heap.size≤b:=fun b hb=>by
  rcases h5 with h5|h5
  ·exact .inl (h5▸hb)
  ·rw [hb] at h5;cases h5;exact .inr (Nat.le_refl _)
 have hmv:Dw.Mv (fun b=>us.ownBlock=some b) w w':=⟨h3.os,h3.tape,h3.output,h3.size,fun b hb hn=>h3.block b hb (fun e=>hn e.symm)⟩
 refine ⟨u,w',[u],fun b=>F b∨u.ownBlock=some b,h1,rfl,⟨⟨⟨0,0,0,some u⟩,?_,rfl⟩,OwnR.one hown,fun _ h=>(by cases h)⟩,⟨u,za7,hown,fun b hb=> .inr hb⟩,?_,hmv.mono fun b hb=>⟨f6 b hb,.inr (hK b hb)⟩⟩
 ·show jq j 3 _ 3=_
  unfold jq
  rw [if_pos ⟨Nat.le_refl _,by simp⟩]
  simp
 ·rintro b (hb|hb)
  ·exact ⟨Nat.lt_of_lt_of_le (hF b hb) hmv.size,.inl hb⟩
  ·refine ⟨(hub b hb).2,?_⟩
   rcases hub1 b hb with h|h
   ·exact .inl (f6 b h)
   ·exact .inr h
def Tryz.zsq (ρ:Val) (k pk:Int) (v:Value) (a:Act):Val:=
 ⟨fun m=>match m with|20=>pk|26=>k|m=>ρ.i m,ρ.b,fun m=>match m with|3=>v|m=>if 100≤m then a.tmps.getD (m-100) undef else ρ.v m⟩
structure Tryz.IdD (ρ' ρ:Val) (sz n k pk:Int) (v:Value) (a:Act):Prop where
 sz:(szv 0).den ρ'=sz
 n:(lnv 4).den ρ'=n
 k:(lnv 26).den ρ'=k
 pk:ρ'.i 20=pk
 i9:ρ'.i 9=ρ.i 9
 v3:ρ'.v 3=v
 p: ∀t,ρ'.v (100+t)=a.tmps.getD t undef
 act: ∀j vals,RL ρ j lwAct vals→RL ρ' j lwAct vals
theorem Tryz.idD {ρ:Val} {sz n k pk:Int} {v:Value} {a:Act} (h1:(szv 0).den ρ=sz) (h2:(lnv 4).den ρ=n) (hk:0≤k∧k<4000000):IdD (zsq ρ k pk v a) ρ sz n k pk v a:=
 ⟨h1,h2,zaB hk.1 (by show k<_;omega),rfl,rfl,rfl,fun t=>by
  show (match 100+t with|3=>v|m=>if 100≤m then a.tmps.getD (m-100) undef else ρ.v m)=_
  split
  ·omega
  ·rw [if_pos (by omega),Nat.add_sub_cancel_left],fun j vals h=>h⟩
set_option maxRecDepth 10000 in
set_option maxHeartbeats 2000000 in
theorem Tryz.zqa {ρ:Val} {w0:World} {K:Nat→Prop} {X:Nat→Prop} {bX:Nat} {S P L Bs B M N:Nat} {r:Rg} {b2:Nat} {sk:Nat→SS} {gk:Nat→Nat→Int} {rows:Nat→List LwR} {e0:LwR} {an sz:Int} {n:Nat}
  (hsz0:(szv 0).den ρ=sz) (hszb:1≤sz∧sz≤32768) (hn:(lnv 4).den ρ=n) (hnn:n≤60000) (h9:ρ.i 9=an) (hb2:b2≤w0.heap.size) (hbX:bX≤w0.heap.size) (he0:e0=⟨some 6,undef,1,n,zaG (zdR an sz n)⟩) (hrows: ∀e∈rows 5,e=e0∨e∈rows 1) (hs:sk 5=sk 1) (hg:gk 5=gk 1):
  zgc prog ρ w0 K (lwG X bX S P L Bs B M N r b2 sk gk rows) idsLoop:=by
 refine zed ?_
 intro cc hc j a w F n0 hsz hdf hsl hrw hnone hbase hF hs0 hf hold
 have hb:n0=6:=hbase (by show (1:Nat)≠0;decide)
 subst hb
 obtain ⟨hXF,F0,hF0,hlw,hrw2⟩:=hf
 have h0:=(hsl (0,.int .i64 (szv 0)) (by simp [idsLoop])).2
 have g0:a.tmps.getD 0 undef= .int .i64 sz:=by rw [show a.tmps.getD 0 undef= .int .i64 ((szv 0).den ρ) from h0,hsz0]
 have g21:a.tmps.getD 21 undef= .slice none 0 0:=(hsl (21,.nils) (by simp [idsLoop])).2
 have g22:a.tmps.getD 22 undef= .int .i64 0:=(hsl (22,.int .i64 (.lit 0)) (by simp [idsLoop])).2
 have h17:=(hsl (17,.ptr 3 0) (by simp [idsLoop])).2
 obtain ⟨La,hja,g17⟩:=h17
 obtain ⟨hLF,vals,hvals,hrow⟩:=hrw (3,lwAct) (by simp [idsLoop]) La hja
 have hone: ∀t∈ [2,7,8,9,13,14,15,16,18,19],(a.tmps.getD t undef).oneCell'=true:=by
  intro t ht
  simp only [List.mem_cons,List.not_mem_nil,or_false] at ht
  rcases ht with rfl|rfl|rfl|rfl|rfl|rfl|rfl|rfl|rfl|rfl
  ·exact zba rfl (hsl (2,lwActs) (by simp [idsLoop,idsRest])).2
  ·exact zba rfl (hsl (7,.cst 0 none) (by simp [idsLoop,idsRest])).2
  ·exact zba rfl (hsl (8,.cst 2 none) (by simp [idsLoop,idsRest])).2
  ·exact zba rfl (hsl (9,.ptr 1 0) (by simp [idsLoop,idsRest])).2
  ·exact zba rfl (hsl (13,.int .u64 (u64v 19)) (by simp [idsLoop,idsRest])).2
  ·exact zba rfl (hsl (14,.int .i64 (.var 15)) (by simp [idsLoop,idsRest])).2
  ·exact zba rfl (hsl (15,.int .i64 (.var 5)) (by simp [idsLoop,idsRest])).2
  ·exact zba rfl (hsl (16,.int .i64 (lnv 6)) (by simp [idsLoop,idsRest])).2
  ·exact zba rfl (hsl (18,.opq 4 none) (by simp [idsLoop,idsRest])).2
  ·exact zba rfl (hsl (19,.int .i64 (lnv 17)) (by simp [idsLoop,idsRest])).2
 have hcc:cc=codeR prog [0,0,1,0,1,0,1,0,1,1,1,1,1,1,1,0,1,0,1,1,1,0,0,1,0,0,1,0,1,1,1,1,1,1,1,1,4]:=by
  have:=zcU (P:=prog) (p:= [0,1,0,1,0,1,0,1,1,1,1,1,1,1,0,1,0,1,1,1,0,0,1,0,0,1,0,1,1,1,1,1,1,1,1,4]) (by kernel_rfl)
  have hc:codeR prog [0,1,0,1,0,1,0,1,1,1,1,1,1,1,0,1,0,1,1,1,0,0,1,0,0,1,0,1,1,1,1,1,1,1,1,4]= .loop cc:=hc
  rw [hc] at this
  injection this
 subst hcc
 have hsz:a.tmps.size=237:=hsz
 have hLlt:La.blk<w.heap.size:=zeW hrow
 have hv0:vals≠ []:=fun h=>by
  subst h
  obtain ⟨_,_,h,_⟩:=hvals
  cases h
 refine zbd (fun (x:Nat×Value) a' w'=>x.1≤n∧a'.tmps.size=237∧a'.defers= []∧a'.tmps.getD 0 undef= .int .i64 sz∧a'.tmps.getD 17 undef= .pointer (some ⟨La.blk,La.off+0,none⟩)∧a'.tmps.getD 21 undef=x.2∧a'.tmps.getD 22 undef= .int .i64 x.1∧(∀t∈ [2,7,8,9,13,14,15,16,18,19],a'.tmps.getD t undef=a.tmps.getD t undef)∧Below w.heap.size w w'∧OwnR 3 1 w' w.heap.size x.2 (zdR an sz x.1).length (zaG (zdR an sz x.1)))
  (fun x=>n-x.1) (fun x a1 w1 hI=> ?_) (0,.slice none 0 0) a w ⟨Nat.zero_le _,hsz,hdf,g0,g17,g21,g22,fun _ _=>rfl,Below.refl _ _,OwnR.nil _ _ _ _⟩
 obtain ⟨k,vk⟩:=x
 obtain ⟨hkn,q0,qd,p0,p17,p21,p22,pr,hb,hov⟩:=hI
 simp only at hkn p21 p22 hov
 have hvo:=OwnR.one hov
 have hvlt:=OwnR.lt hov
 have hrow1:Row w1 La vals:=hrow.kept (hb.block _ hLlt)
 have hwk:=zca k (by omega)
 have hm0:0≤an%sz:=Int.emod_nonneg _ (by omega)
 have hm1:an%sz<sz:=Int.emod_lt_of_pos _ (by omega)
 have D:=idD (ρ:=ρ) (sz:=sz) (n:=n) (k:=k) (pk:=an%sz) (v:=vk) (a:=a) hsz0 hn (by omega)
 generalize zsq ρ k (an%sz) vk a=ρ' at D
 have hj1:jOf [(La.blk,La.off)] 1=some ⟨La.blk,La.off,0,none⟩:=rfl
 have hvals1:RL ρ' (jOf [(La.blk,La.off)]) lwAct vals:=D.act _ vals hvals
 by_cases hk:k<n
 ·have hx:(SE.bin .rem .i64 (.bin .add .i64 (.var 20) (lnv 26)) (szv 0)).den ρ'=(an%sz+k)%sz:=by
   rw [zlA,den_add,zai,D.pk,D.k,D.sz,zbM (by omega) (by omega)]
   exact Int.tmod_eq_emod_of_nonneg (by omega)
  have hnL:vk.ownBlock≠some La.blk:=fun e=>by have:=(hvlt La.blk e).1;omega
  refine wp_mono (zam (ρ:=ρ') (K:=fun b=>vk.ownBlock=some b) (g:=idG w.heap.size vk (zdR an sz k) (zdR an sz k++ [(an%sz+k)%sz])) (bl:= [(La.blk,La.off)]) mixed idlb_run idlb_ok (fun b h=>(hvlt b h).2)
   ⟨zb1 hrow1 hv0 hvals1 hnL,trivial⟩ ⟨fun h=>(by cases h),trivial⟩ ⟨fun b=>vk.ownBlock=some b,fun b h=>⟨(hvlt b h).2,fun hmn=> ?_⟩,hov,fun b h=>h⟩
   ⟨zak (Dw.enters_of (by kernel_rfl)) (by decide) [.int .i64 an,.int .i64 sz] (.int .i64 (an%sz)) (fun j=>zaa (zab (D.i9.trans h9)) (zaa (zab D.sz) RL.nil)) (fun j=>zab D.pk) (fun w F q hf=>Calls.mono (zdc an sz (by omega) w) fun e w' hh=>⟨hh.1,hh.2▸Below.refl _ _⟩),trivial⟩ trivial
   ⟨zrE D.v3 hx hb.size (fun _ h=>h) (by rw [zg2];omega),trivial⟩ q0 qd ?_ (told_cons_iff.2 ⟨by rw [zaz,D.k,D.n];simp only [decide_eq_true_eq];omega,told_cons_iff.2 ⟨by rw [zbm,D.sz,zac];simp;omega,told_nil.2 trivial⟩⟩)) fun ex a2 w2 hh=> ?_
  ·have:=zce hmn
   simp only [List.map_cons,List.map_nil,List.mem_cons,List.not_mem_nil,or_false] at this
   exact hnL (this▸h)
  ·intro t ht
   simp only [idlb_slots,zcM,List.map_cons,List.map_nil,List.cons_append,List.nil_append,List.mem_cons,List.not_mem_nil,or_false] at ht
   rcases ht with rfl|rfl|rfl|rfl|ht
   ·rw [p0];exact zab D.sz
   ·rw [p17];exact ⟨_,hj1,rfl⟩
   ·rw [p21];exact zaD D.v3 hvo
   ·rw [p22];exact zab D.k
   ·rcases ht with rfl|rfl|rfl|rfl|rfl|rfl|rfl|rfl|rfl|rfl
    all_goals
     show Dw.R ρ' _ (.cst _ none) _
     rw [pr _ (by simp)]
     exact zaD (D.p _) (hone _ (by simp))
  ·obtain ⟨q,hq,hto,lf,hlf,rfl,hsz2,j2,hdf2,he⟩:=hh
   have hmv:=he.mv
   unfold idlb_ps at hq
   simp only [List.mem_cons,List.not_mem_nil,or_false] at hq
   subst hq
   cases hlf
   have hs2:=zal he.ret
   have lc1:=zad (he.sub _ _ hj1)
   obtain ⟨F2,_,u,hu,hou,_⟩:=he.gho
   have huv:(AV.opq 3 none).val ρ' (lcOf j2)=u:=zcR hu
   simp only [AV.valL,AV.val,D.sz,D.k,D.p,den_add,zac,hwk,lc1,List.map_cons,List.map_nil,List.cons.injEq,and_true] at hs2
   obtain ⟨r0,r17,r21,r22,r2,r7,r8,r9,r13,r14,r15,r16,r18,r19⟩:=hs2
   refine ⟨(k+1,u),by simp only;omega,hk,hsz2,hdf2,r0,r17,r21.trans huv,r22,fun t ht=> ?_,⟨hmv.os.trans hb.os,hmv.tape.trans hb.tape,hmv.output.trans hb.output,Nat.le_trans hb.size hmv.size,fun b hb'=>(hmv.block b (Nat.lt_of_lt_of_le hb' hb.size) fun e=>by have:=(hvlt b e).1;omega).trans (hb.block b hb')⟩,?_⟩
   ·simp only [List.mem_cons,List.not_mem_nil,or_false] at ht
    rcases ht with rfl|rfl|rfl|rfl|rfl|rfl|rfl|rfl|rfl|rfl
    ·exact r2.trans (D.p 2)
    ·exact r7.trans (D.p 7)
    ·exact r8.trans (D.p 8)
    ·exact r9.trans (D.p 9)
    ·exact r13.trans (D.p 13)
    ·exact r14.trans (D.p 14)
    ·exact r15.trans (D.p 15)
    ·exact r16.trans (D.p 16)
    ·exact r18.trans (D.p 18)
    ·exact r19.trans (D.p 19)
   ·rw [zm8];exact hou
 ·have hkk:k=n:=by omega
  subst hkk
  refine wp_mono (zam (ρ:=ρ') (K:=fun _=>False) (g:=Gho.none) (bl:= [(La.blk,La.off)]) mixed idle_run idle_ok (fun b h=>h.elim) ⟨zb1 hrow1 hv0 hvals1 (fun h=>h),trivial⟩ ⟨fun h=>(by cases h),trivial⟩ zas trivial trivial trivial q0 qd ?_ (told_cons_iff.2 ⟨by rw [zaz,D.k,D.n];simp,told_nil.2 trivial⟩)) fun ex a2 w2 hh=> ?_
  ·intro t ht
   simp only [idle_slots,zcM,List.map_cons,List.map_nil,List.cons_append,List.nil_append,List.mem_cons,List.not_mem_nil,or_false] at ht
   rcases ht with rfl|rfl|rfl|rfl|ht
   ·rw [p0];exact zab D.sz
   ·rw [p17];exact ⟨_,hj1,rfl⟩
   ·rw [p21];exact zaD D.v3 hvo
   ·rw [p22];exact zab D.k
   ·rcases ht with rfl|rfl|rfl|rfl|rfl|rfl|rfl|rfl|rfl|rfl
    all_goals
     show Dw.R ρ' _ (.cst _ none) _
     rw [pr _ (by simp)]
     exact zaD (D.p _) (hone _ (by simp))
  ·obtain ⟨q,hq,hto,lf,hlf,rfl,hsz2,j2,hdf2,he⟩:=hh
   have hb3:=zag he (fun _ h=>h)
   unfold idle_ps at hq
   simp only [List.mem_cons,List.not_mem_nil,or_false] at hq
   subst hq
   cases hlf
   have hs2:=zal he.ret
   have lc1:=zad (he.sub _ _ hj1)
   simp only [AV.valL,AV.val,D.sz,D.v3,D.p,lc1,List.map_cons,List.map_nil,List.cons.injEq,and_true] at hs2
   obtain ⟨r0,r17,r21,r2,r7,r8,r9,r13,r14,r15,r16,r18,r19⟩:=hs2
   have hb4:=hb.trans (hb3.mono hb.size)
   have hov2:=OwnR.kept hov fun b e=>hb3.block b (hvlt b e).2
   have hlt2:=OwnR.lt hov2
   refine ⟨⟨.lit true,.exit 3,[(0,.int .i64 (szv 0)),(17,.ptr 3 0),(21,.opq 6 none)]++idsRest,5⟩,[vk],fun b=>F b∨vk.ownBlock=some b,by unfold idsLoop;rw [zaT,if_pos (show SB.den ρ (.lit true)=true from rfl)],rfl,hsz2,hdf2,(fun t ht=>by cases ht),rfl,fun s hs=> ?_,⟨fun b hb'=> ?_,F0,fun b h=> .inl (hF0 b h),?_,fun e he'=> ?_⟩,?_,Dw.Mv.of_below hb4⟩
   ·have hsub:Sub j (jq j 6 [vk]):=zoo hnone
    simp only [idsRest,List.cons_append,List.nil_append,List.mem_cons,List.not_mem_nil,or_false] at hs
    rcases hs with rfl|rfl|rfl|rfl|rfl|rfl|rfl|rfl|rfl|rfl|rfl|rfl|rfl
    ·rw [r0];exact zab hsz0
    ·rw [r17];exact ⟨La,hsub _ _ hja,rfl⟩
    ·rw [r21]
     refine ⟨⟨⟨0,0,0,some vk⟩,?_,rfl⟩,hvo,fun _ h=>(by cases h)⟩
     show jq j 6 _ 6=_
     unfold jq
     rw [if_pos ⟨Nat.le_refl _,by simp⟩]
     simp
    ·rw [r2.trans (D.p 2)];exact R.mono hsub (hsl (2,lwActs) (by simp [idsLoop,idsRest])).2
    ·rw [r7.trans (D.p 7)];exact R.mono hsub (hsl (7,.cst 0 none) (by simp [idsLoop,idsRest])).2
    ·rw [r8.trans (D.p 8)];exact R.mono hsub (hsl (8,.cst 2 none) (by simp [idsLoop,idsRest])).2
    ·rw [r9.trans (D.p 9)];exact R.mono hsub (hsl (9,.ptr 1 0) (by simp [idsLoop,idsRest])).2
    ·rw [r13.trans (D.p 13)];exact R.mono hsub (hsl (13,.int .u64 (u64v 19)) (by simp [idsLoop,idsRest])).2
    ·rw [r14.trans (D.p 14)];exact R.mono hsub (hsl (14,.int .i64 (.var 15)) (by simp [idsLoop,idsRest])).2
    ·rw [r15.trans (D.p 15)];exact R.mono hsub (hsl (15,.int .i64 (.var 5)) (by simp [idsLoop,idsRest])).2
    ·rw [r16.trans (D.p 16)];exact R.mono hsub (hsl (16,.int .i64 (lnv 6)) (by simp [idsLoop,idsRest])).2
    ·rw [r18.trans (D.p 18)];exact R.mono hsub (hsl (18,.opq 4 none) (by simp [idsLoop,idsRest])).2
    ·rw [r19.trans (D.p 19)];exact R.mono hsub (hsl (19,.int .i64 (lnv 17)) (by simp [idsLoop,idsRest])).2
   ·rcases hb' with h|h
    ·exact hXF b h
    ·have:=(hlt2 b h).1
     exact .inr (by omega)
   ·show LwF S P L Bs B M N r (sk 5) (gk 5) _ w2
    rw [hs,hg]
    exact hlw.kept (fun b h=>hb4.block b (hF b (hF0 b h))) hb4.size
   ·rcases hrows e he' with rfl|he'
    ·rw [he0]
     refine ⟨vk,3,?_,?_,fun b h=>⟨.inr h,fun hn=> ?_⟩⟩
     ·show opqs (jq j 6 [vk]) 6=some vk
      exact za7
     ·have:=OwnR.mono hov2 (by omega:b2≤w.heap.size)
      rw [zg2] at this
      exact this
     ·have:=(hlt2 b h).1
      have:=hF b (hF0 b hn)
      omega
    ·obtain ⟨v,tv,e1,e2,e3⟩:=hrw2 e he'
     refine ⟨v,tv,?_,OwnR.kept e2 fun b h=>hb4.block b (OwnR.lt e2 b h).2,fun b h=>⟨.inl (e3 b h).1,(e3 b h).2⟩⟩
     unfold LwR.is at e1 ⊢
     split at e1
     ·exact ziu (zoo hnone) e1
     ·exact e1
   ·rintro b (h|h)
    ·exact ⟨Nat.lt_of_lt_of_le (hF b h) hb4.size,.inl h⟩
    ·exact ⟨(hlt2 b h).2,.inr (hlt2 b h).1⟩
end Go.Proofs
namespace Go.Proofs
open Go.Dw

def Tryz.ltb_ents:List Ent:= []
def Tryz.ltb_shs:List Sh:= [.ro lwAct]
def Tryz.ltb_slots:List (Nat×AV):= [(0,.sx 4 (lnv 7) 8 [(lnv 6,1)]),(3,.int .i64 (lnv 6))]
def Tryz.ltb_lents:List LEnt:= []
def Tryz.ltb_aents:List AEnt:= []
def Tryz.ltb_dfr:Option AV:=none
def Tryz.ltb_asm:List (SB×Bool):= [(.cmp .lss (lnv 6) (lnv 7),true)]
def Tryz.ltb_ls:List CLeaf:= [
 ⟨.ret,[2],none,⟨.tup [.bool (.lit false)],[],[],0,[]⟩⟩,
 ⟨.normal,[0,3],none,⟨.tup [.sx 4 ((lnv 7)) 8 [((lnv 6),1)],.int .i64 (.bin .add .i64 (lnv 6) (.lit 1))],[],[],0,[]⟩⟩,
 ⟨(.exit 0),[0],none,⟨.tup [.sx 4 ((lnv 7)) 8 [((lnv 6),1)]],[],[],0,[]⟩⟩]
def Tryz.ltb_ps:List (List (SB×Bool)×Nat):= [
 ([((.cmp .leq (lnv 6) (.lit 60)),true),((.cmp .gtr (lnv 4) (.lit 100)),true)],0),
 ([((.cmp .leq (lnv 6) (.lit 60)),true),((.cmp .gtr (lnv 4) (.lit 100)),false)],1),
 ([((.cmp .leq (lnv 6) (.lit 60)),false)],2)]
theorem Tryz.ltb_run:(evL prog (entOrc ltb_ents) (zao ltb_lents) (aentOrc ltb_aents) 100000 (.code (codeR prog [0,0,1,0,1,23]) [0,0,1,0,1,23] 24 (envS 24 ltb_slots ltb_dfr) (zaj 0 ltb_shs) (cleafAt ltb_ls 0))).ways ltb_asm=some ltb_ps:=by kernel_rfl
theorem Tryz.ltb_ok:(shsSmall ltb_shs&&entsSmall ltb_ents&&lentsSmall ltb_lents&&aentsSmall ltb_aents&&slotsSmall ltb_slots&&cleavesExact ltb_ls&&zaq 24 ltb_slots&&Nat.ble 24 dslot&&dfrSmall ltb_dfr)=true:=by kernel_rfl

def Tryz.lte_ents:List Ent:= []
def Tryz.lte_shs:List Sh:= []
def Tryz.lte_slots:List (Nat×AV):= [(0,.sx 4 (lnv 7) 8 []),(3,.int .i64 (lnv 6))]
def Tryz.lte_lents:List LEnt:= []
def Tryz.lte_aents:List AEnt:= []
def Tryz.lte_dfr:Option AV:=none
def Tryz.lte_asm:List (SB×Bool):= [(.cmp .lss (lnv 6) (lnv 7),false)]
def Tryz.lte_ls:List CLeaf:= [
 ⟨(.exit 0),[0],none,⟨.tup [.sx 4 ((lnv 7)) 8 []],[],[],0,[]⟩⟩]
def Tryz.lte_ps:List (List (SB×Bool)×Nat):= [
 ([], 0)]
theorem Tryz.lte_run:(evL prog (entOrc lte_ents) (zao lte_lents) (aentOrc lte_aents) 100000 (.code (codeR prog [0,0,1,0,1,23]) [0,0,1,0,1,23] 24 (envS 24 lte_slots lte_dfr) (zaj 0 lte_shs) (cleafAt lte_ls 0))).ways lte_asm=some lte_ps:=by kernel_rfl
theorem Tryz.lte_ok:(shsSmall lte_shs&&entsSmall lte_ents&&lentsSmall lte_lents&&aentsSmall lte_aents&&slotsSmall lte_slots&&cleavesExact lte_ls&&zaq 24 lte_slots&&Nat.ble 24 dslot&&dfrSmall lte_dfr)=true:=by kernel_rfl

def Tryz.ltt_ents:List Ent:= []
def Tryz.ltt_shs:List Sh:= []
def Tryz.ltt_slots:List (Nat×AV):= [(0,.sx 4 (lnv 7) 8 [])]
def Tryz.ltt_lents:List LEnt:= []
def Tryz.ltt_aents:List AEnt:= []
def Tryz.ltt_dfr:Option AV:=none
def Tryz.ltt_asm:List (SB×Bool):= []
def Tryz.ltt_ls:List CLeaf:= [
 ⟨.ret,[2],none,⟨.tup [.bool (.cmp .leq (lnv 7) (.lit 60))],[],[],0,[]⟩⟩]
def Tryz.ltt_ps:List (List (SB×Bool)×Nat):= [
 ([], 0)]
theorem Tryz.ltt_run:(evL prog (entOrc ltt_ents) (zao ltt_lents) (aentOrc ltt_aents) 100000 (.code (codeR prog [1,1,23]) [1,1,23] 24 (envS 24 ltt_slots ltt_dfr) (zaj 0 ltt_shs) (cleafAt ltt_ls 0))).ways ltt_asm=some ltt_ps:=by kernel_rfl
theorem Tryz.ltt_ok:(shsSmall ltt_shs&&entsSmall ltt_ents&&lentsSmall ltt_lents&&aentsSmall ltt_aents&&slotsSmall ltt_slots&&cleavesExact ltt_ls&&zaq 24 ltt_slots&&Nat.ble 24 dslot&&dfrSmall ltt_dfr)=true:=by kernel_rfl
end Go.Proofs
namespace Go.Proofs
open Go.Dw Go.RowKit Go.Maps Go.Sort

structure Tryz.Ac where
 k:Int
 n:Int
 v:Int
 a:Int
 l:Int
 f:Int
 x:Int
 sv:Value
 sl:List Sg
def Tryz.Ac.cells (c:Ac):List Value:= [.int .i64 c.k,.int .i64 c.n,.int .u32 c.v,.int .u64 c.a,.int .u32 c.l,.int .u16 c.f,.int .u16 c.x,c.sv]
structure Tryz.Ac.ok (c:Ac) (w:World):Prop where
 k: -9223372036854775808≤c.k∧c.k<9223372036854775808
 n: -9223372036854775808≤c.n∧c.n<9223372036854775808
 v:0≤c.v∧c.v<4294967296
 a:0≤c.a∧c.a<18446744073709551616
 l:0≤c.l∧c.l<4294967296
 f:0≤c.f∧c.f<65536
 x:0≤c.x∧c.x<65536
 sv:SegV (fun _=>False) w c.sv c.sl
 sn:c.sl.length<4000000000000000
structure Tryz.ActV (w:World) (av:Value) (acts:List Ac):Prop where
 val: ∃aa c,av= .slice aa acts.length c∧(acts= []∨ ∃R o,aa=some ⟨R,o,none⟩∧ ∀i,(hi:i<acts.length)→w.rangeAt R (o+8*i) acts[i].cells)
 ok: ∀x∈acts,x.ok w
 len:acts.length<4000000000000000
theorem Tryz.ActV.below {w w':World} {av:Value} {acts:List Ac} (h:ActV w av acts) (hb:Below w.heap.size w w'):ActV w' av acts:=by
 obtain ⟨aa,c,e,hr⟩:=h.val
 refine ⟨⟨aa,c,e,?_⟩,fun x hx=> ?_,h.len⟩
 ·rcases hr with hr|⟨R,o,e1,hr⟩
  ·exact .inl hr
  ·exact .inr ⟨R,o,e1,fun i hi=>zat (hr i hi) (hb.block R (World.block_lt_of_cell? w _ (hr i hi 0 _ rfl)))⟩
 ·have o:=h.ok x hx
  exact ⟨o.k,o.n,o.v,o.a,o.l,o.f,o.x,o.sv.kept (fun k hk _=>hb.block k hk),o.sn⟩
def Tryz.zfE (i n:Int) (c:Ac) (av:Value):Val:=⟨fun m=>match m with|4=>c.sl.length|6=>i|7=>n|8=>c.k|9=>c.n|10=>c.v|11=>c.a|12=>c.l|13=>c.f|14=>c.x|_=>0,fun _=>false,fun m=>match m with|1=>c.sv|4=>av|_=>undef⟩
theorem Tryz.zqJ {ρ:Val} {j:J} {w:World} {c:Ac} (h:c.ok w) (i4:ρ.i 4=c.sl.length) (i8:ρ.i 8=c.k) (i9:ρ.i 9=c.n) (i10:ρ.i 10=c.v) (i11:ρ.i 11=c.a) (i12:ρ.i 12=c.l) (i13:ρ.i 13=c.f) (i14:ρ.i 14=c.x) (v1:ρ.v 1=c.sv):RL ρ j lwAct c.cells:=by
 obtain ⟨sa,cc,e,_⟩:=h.sv
 have:=h.sn
 have d4:(lnv 4).den ρ=c.sl.length:=(zaB (by rw [i4];omega) (by rw [i4];omega)).trans i4
 exact zaa (zab i8) (zaa (zab i9) (zaa (zab ((zbp (by rw [i10];exact h.v.1) (by rw [i10];exact h.v.2)).trans i10)) (zaa (zab ((zav (by rw [i11];exact h.a.1) (by rw [i11];exact h.a.2)).trans i11)) (zaa (zab ((zbp (by rw [i12];exact h.l.1) (by rw [i12];exact h.l.2)).trans i12))
  (zaa (zab ((zaW (by rw [i13];exact h.f.1) (by rw [i13];exact h.f.2)).trans i13)) (zaa (zab ((zaW (by rw [i14];exact h.x.1) (by rw [i14];exact h.x.2)).trans i14)) (zaa ⟨v1.symm,sa,_,cc,e,d4.symm,trivial⟩ RL.nil)))))))
end Go.Proofs
namespace Go.Proofs
open Go.Dw Go.RowKit

def Tryz.okAc0:Ac:=⟨0,0,0,0,0,0,0,.slice none 0 0,[]⟩
set_option maxRecDepth 100000 in
set_option maxHeartbeats 1000000 in
theorem Tryz.zok {w:World} {av:Value} {acts:List Ac} (h:ActV w av acts):
  Calls prog 23 #[av] w fun e w'=> ∃b,e= .returned (.bool b)∧(b=true→acts.length≤60∧ ∀x∈acts,x.sl.length≤100)∧Below w.heap.size w w':=by
 obtain ⟨aa,c,rfl,hr⟩:=h.val
 have hl:=h.len
 have hok:=h.ok
 go_enter func23,ntmps23
 go_wp2
 refine zbu (c':= .loop (codeR prog [0,0,1,0,1,23])) (by kernel_rfl) ?_
 have post: ∀ {a':Act} {w':World} {b:Bool},a'.defers= []→a'.tmps.getD 2 undef= .bool b→(b=true→acts.length≤60∧ ∀x∈acts,x.sl.length≤100)→Below w.heap.size w w'→
   bodyPost prog f23 (fun e w'=> ∃b,e= .returned (.bool b)∧(b=true→acts.length≤60∧ ∀x∈acts,x.sl.length≤100)∧RowKit.Below w.heap.size w w') .ret a' w':=fun {a' w' b} h1 h2 h3 h4=>
  zc6 (fn:=f23) (Post:=fun e w'=> ∃b,e= .returned (.bool b)∧(b=true→acts.length≤60∧ ∀x∈acts,x.sl.length≤100)∧RowKit.Below w.heap.size w w') h1 rfl h2 ⟨b,rfl,h3,h4⟩
 have tail: ∀ {a':Act} {w':World} {Q:Exit→Act→World→Prop},a'.tmps.size=24→a'.defers= []→a'.tmps.getD 0 undef= .slice aa acts.length c→(acts.length≤60→ ∀x∈acts,x.sl.length≤100)→Below w.heap.size w w'→
   (∀ a2 w2,bodyPost prog f23 (fun e w'=> ∃b,e= .returned (.bool b)∧(b=true→acts.length≤60∧ ∀x∈acts,x.sl.length≤100)∧RowKit.Below w.heap.size w w') .ret a2 w2→Q .ret a2 w2)→(codeR prog [1,1,23]).wp prog Q a' w':=fun {a' w' Q} h1 h2 h3 h4 h5 h6=>by
  have d7:(lnv 7).den (zfE 0 acts.length okAc0 (.slice aa acts.length c))=acts.length:=zaB (by show (0:Int)≤acts.length;omega) (by show (acts.length:Int)<_;omega)
  have v4:(zfE 0 acts.length okAc0 (.slice aa acts.length c)).v 4= .slice aa acts.length c:=rfl
  generalize zfE 0 acts.length okAc0 (.slice aa acts.length c)=ρ at d7 v4
  refine wp_mono (zam (ρ:=ρ) (K:=fun _=>False) (g:=Gho.none) (bl:= []) mixed ltt_run ltt_ok (fun b h=>h.elim) trivial trivial zas trivial trivial trivial h1 h2 ?_ (told_nil.2 trivial)) fun ex a2 w2 hh=> ?_
  ·intro t ht
   simp only [ltt_slots,List.mem_cons,List.not_mem_nil,or_false] at ht
   subst ht
   rw [h3];exact ⟨v4.symm,_,_,_,rfl,d7.symm,trivial⟩
  ·obtain ⟨q,hq,hto,lf,hlf,rfl,hsz2,j2,hdf2,he⟩:=hh
   have hb3:=zag he (fun _ h=>h)
   unfold ltt_ps at hq
   simp only [List.mem_cons,List.not_mem_nil,or_false] at hq
   subst hq
   cases hlf
   have hs2:=zal he.ret
   simp only [AV.valL,AV.val,zbS,d7,zac,List.map_cons,List.map_nil,List.cons.injEq,and_true] at hs2
   refine h6 _ _ (post hdf2 hs2 (fun hb=> ?_) (h5.trans (hb3.mono h5.size)))
   have hb:=of_decide_eq_true hb
   exact ⟨by omega,h4 (by omega)⟩
 refine zbd (fun (i:Nat) a' w'=>i≤acts.length∧a'.tmps.size=24∧a'.defers= []∧a'.tmps.getD 0 undef= .slice aa acts.length c∧a'.tmps.getD 3 undef= .int .i64 i∧(∀q,(hq:q<acts.length)→q<i→acts[q].sl.length≤100)∧Below w.heap.size w w')
  (fun i=>acts.length-i) (fun i a1 w1 hI=> ?_) 0 _ _ ⟨Nat.zero_le _,rfl,rfl,rfl,rfl,fun q _ h=>by omega,Below.refl _ _⟩
 obtain ⟨hil,q0,qd,p0,p3,hbd,hb⟩:=hI
 have hwi:=zca i (by omega)
 by_cases hi:i<acts.length
 ·rcases hr with h0|⟨R,o,rfl,hr⟩
  ·rw [h0] at hi;simp at hi
  have hx:=zat (hr i hi) (hb.block R (World.block_lt_of_cell? w _ (hr i hi 0 _ rfl)))
  have hxo:=hok acts[i] (List.getElem_mem hi)
  have hEq: ∃C,acts[i]=C:=⟨_,rfl⟩
  obtain ⟨C,hC⟩:=hEq
  rw [hC] at hx hxo
  have hact:=fun j=>zqJ (ρ:=zfE i acts.length C (.slice (some ⟨R,o,none⟩) acts.length c)) (j:=j) hxo rfl rfl rfl rfl rfl rfl rfl rfl rfl
  have d4:(lnv 4).den (zfE i acts.length C (.slice (some ⟨R,o,none⟩) acts.length c))=C.sl.length:=zaB (by show (0:Int)≤C.sl.length;omega) (by have:=hxo.sn;show (C.sl.length:Int)<_;omega)
  have d6:(lnv 6).den (zfE i acts.length C (.slice (some ⟨R,o,none⟩) acts.length c))=i:=zaB (by show (0:Int)≤i;omega) (by show (i:Int)<_;omega)
  have d7:(lnv 7).den (zfE i acts.length C (.slice (some ⟨R,o,none⟩) acts.length c))=acts.length:=zaB (by show (0:Int)≤acts.length;omega) (by show (acts.length:Int)<_;omega)
  have v4:(zfE i acts.length C (.slice (some ⟨R,o,none⟩) acts.length c)).v 4= .slice (some ⟨R,o,none⟩) acts.length c:=rfl
  generalize zfE i acts.length C (.slice (some ⟨R,o,none⟩) acts.length c)=ρ at hact d4 d6 d7 v4
  have hj1:jOf [(R,o+8*i)] 1=some ⟨R,o+8*i,0,none⟩:=rfl
  refine wp_mono (zam (ρ:=ρ) (K:=fun _=>False) (g:=Gho.none) (bl:= [(R,o+8*i)]) mixed ltb_run ltb_ok (fun b h=>h.elim) ⟨zaw hx (by simp [Ac.cells]) (hact _) (fun h=>h),trivial⟩ ⟨fun h=>(by cases h),trivial⟩ zas trivial trivial trivial q0 qd ?_ (told_cons_iff.2 ⟨by rw [zaz,d6,d7];simp only [decide_eq_true_eq];omega,told_nil.2 trivial⟩)) fun ex a2 w2 hh=> ?_
  ·intro t ht
   simp only [ltb_slots,List.mem_cons,List.not_mem_nil,or_false] at ht
   rcases ht with rfl|rfl
   ·rw [p0];exact ⟨v4.symm,_,_,_,rfl,d7.symm,⟨R,o,_,i,rfl,hj1,rfl,d6,hi,rfl⟩,trivial⟩
   ·rw [p3];exact zab d6
  ·obtain ⟨q,hq,hto,lf,hlf,rfl,hsz2,j2,hdf2,he⟩:=hh
   have hb3:=zag he (fun _ h=>h)
   unfold ltb_ps at hq
   simp only [List.mem_cons,List.not_mem_nil,or_false] at hq
   rcases hq with rfl|rfl|rfl
   all_goals
    simp only [told_cons_iff,told_nil,zbS,zaP,d4,d6,zac,decide_eq_true_eq,decide_eq_false_iff_not,and_true] at hto
    cases hlf
    have hs2:=zal he.ret
    simp only [AV.valL,AV.val,v4,d6,den_add,zac,hwi,List.map_cons,List.map_nil,List.cons.injEq,and_true] at hs2
   ·exact post hdf2 hs2 (fun hb=>by cases hb) (hb.trans (hb3.mono hb.size))
   ·refine ⟨i+1,by omega,hi,hsz2,hdf2,hs2.1,hs2.2,fun q hq hlt=> ?_,hb.trans (hb3.mono hb.size)⟩
    by_cases hqi:q=i
    ·subst hqi;rw [hC];omega
    ·exact hbd q hq (by omega)
   ·simp only [exOf,Exit.inBlock,Exit.then,if_pos]
    rename_i K hK
    exact hK _ _ (zbu (c':=codeR prog [1,1,23]) (by kernel_rfl) (tail hsz2 hdf2 hs2 (fun hh=>by omega) (hb.trans (hb3.mono hb.size)) fun _ _ h=>h))
 ·have hii:i=acts.length:=by omega
  subst hii
  have d6:(lnv 6).den (zfE acts.length acts.length okAc0 (.slice aa acts.length c))=acts.length:=zaB (by show (0:Int)≤acts.length;omega) (by show (acts.length:Int)<_;omega)
  have d7:(lnv 7).den (zfE acts.length acts.length okAc0 (.slice aa acts.length c))=acts.length:=zaB (by show (0:Int)≤acts.length;omega) (by show (acts.length:Int)<_;omega)
  have v4:(zfE acts.length acts.length okAc0 (.slice aa acts.length c)).v 4= .slice aa acts.length c:=rfl
  generalize zfE acts.length acts.length okAc0 (.slice aa acts.length c)=ρ at d6 d7 v4
  refine wp_mono (zam (ρ:=ρ) (K:=fun _=>False) (g:=Gho.none) (bl:= []) mixed lte_run lte_ok (fun b h=>h.elim) trivial trivial zas trivial trivial trivial q0 qd ?_ (told_cons_iff.2 ⟨by rw [zaz,d6,d7];simp,told_nil.2 trivial⟩)) fun ex a2 w2 hh=> ?_
  ·intro t ht
   simp only [lte_slots,List.mem_cons,List.not_mem_nil,or_false] at ht
   rcases ht with rfl|rfl
   ·rw [p0];exact ⟨v4.symm,_,_,_,rfl,d7.symm,trivial⟩
   ·rw [p3];exact zab d6
  ·obtain ⟨q,hq,hto,lf,hlf,rfl,hsz2,j2,hdf2,he⟩:=hh
   have hb3:=zag he (fun _ h=>h)
   unfold lte_ps at hq
   simp only [List.mem_cons,List.not_mem_nil,or_false] at hq
   subst hq
   cases hlf
   have hs2:=zal he.ret
   simp only [AV.valL,AV.val,v4,List.map_cons,List.map_nil,List.cons.injEq,and_true] at hs2
   simp only [exOf,Exit.inBlock,Exit.then,if_pos]
   rename_i K hK
   refine hK _ _ (zbu (c':=codeR prog [1,1,23]) (by kernel_rfl) (tail hsz2 hdf2 hs2 (fun _ x hx=> ?_) (hb.trans (hb3.mono hb.size)) fun _ _ h=>h))
   obtain ⟨q,hq,rfl⟩:=List.mem_iff_getElem.1 hx
   exact hbd q hq hq
end Go.Proofs
namespace Go.Proofs
open Go.Dw Go.RowKit Go.Maps Go.Sort

section
variable {ρ:Val} {w0:World} {K:Nat→Prop} {X:Nat→Prop} {bX:Nat} {S P L Bs B M N:Nat} {r:Tryz.Rg} {b2:Nat} {sk:Nat→Tryz.SS} {gk:Nat→Nat→Int} {rows:Nat→List Tryz.LwR} {k k' q:Nat}
theorem Tryz.za8 (hv0:ρ.v 0= .pointer (some ⟨P,0,none⟩)) (hN:1≤N∧N≤1048576) (hbX:bX≤w0.heap.size) (hb2:b2≤w0.heap.size) (hrows: ∀e∈rows k',e=imgR q N (gk k)∨e∈rows k) (hs:sk k'=sk k) (hg:gk k'=gk k):
  zaJ prog ρ w0 K (lwG X bX S P L Bs B M N r b2 sk gk rows) (zb4 k q k'):=
 zqI (e0:=imgR q N (gk k)) (Dw.enters_of (by kernel_rfl)) (show AV.exactL [.cst 0 none]=true by decide) hbX [.pointer (some ⟨P,0,none⟩)] (fun j=>zaa (zaD hv0 rfl) RL.nil) hb2 (fun j u hj ho _=>⟨⟨_,hj,rfl⟩,ho,fun _ h=>by cases h⟩) hrows rfl hs hg
  fun A w hsw=>Calls.mono (zoy P L Bs B N (gk k) w hsw.mem hN.1 hN.2) fun e w' ⟨v,h1,h2,h3⟩=>⟨v,_,h1,h2,h3⟩
theorem Tryz.zbr {n:Nat} (hv2:ρ.v 2= .pointer (some ⟨S,0,none⟩)) (hn:(lnv n).den ρ=(sk k).tk.length) (hl:(sk k).tk.length≤1000000) (hbX:bX≤w0.heap.size) (hb2:b2≤w0.heap.size):
  zaJ prog ρ w0 K (lwG X bX S P L Bs B M N r b2 sk gk rows) (zcs k q n):=by
 refine ⟨Dw.enters_of (by kernel_rfl),fun j w vals F n0 hv hnone hb hF hsz hf _=> ?_⟩
 have hb:n0=q:=hb (by show (1:Nat)≠0;decide)
 subst hb
 have hv:=zbY (show AV.exactL [.cst 2 none]=true by decide) hv (zaa (zaD hv2 rfl) RL.nil)
 subst hv
 have hf0:=hf
 obtain ⟨hXF,F0,hF0,h1,h2⟩:=hf
 refine Calls.mono (zj9 h1.sw.srv hl) fun en w' hh=> ?_
 obtain ⟨u,t,rfl,hu,hbl⟩:=hh
 have hu:OwnR t 1 w' w.heap.size u (sk k).tk.length ((zbI (sk k)).map encZ):=hu
 have hj:jq j n0 [u] n0=some ⟨0,0,0,some u⟩:=by
  unfold jq
  rw [if_pos ⟨Nat.le_refl _,by simp⟩]
  simp
 obtain ⟨sa,c,hsl,_⟩:=OwnR.row hu
 refine ⟨u,[u],F,rfl,rfl,⟨⟨_,hj,rfl⟩,OwnR.one hu,fun m hm=> ?_⟩,?_,fun b hb=>⟨Nat.lt_of_lt_of_le (hF b hb) hbl.size,.inl hb⟩,Dw.Mv.of_below hbl⟩
 ·cases hm
  exact ⟨sa,_,c,hsl,hn.symm⟩
 ·exact (lwG X bX S P L Bs B M N r b2 sk gk rows).loc k _ _ F w w' hf0 (fun m v hm=>ziu (zoo hnone) hm) (fun b hb=>hbl.block b (hF b hb)) hbl.size
theorem Tryz.zob (hv2:ρ.v 2= .pointer (some ⟨S,0,none⟩)) (h21:ρ.i 21=(zbL (sk 1)).1) (hs:sk 2=(zbL (sk 1)).2) (hg:gk 2=gk 1) (hbX:bX≤w0.heap.size) (hlt:S<b2∧M<b2∧B<b2) (hK:K S∧K M∧K B) (hrows: ∀e∈rows 2,e∈rows 1):
  zaJ prog ρ w0 K (lwG X bX S P L Bs B M N r b2 sk gk rows) lwPollE:=
 zk8 (Dw.enters_of (by kernel_rfl)) (by decide) hbX [.pointer (some ⟨S,0,none⟩)] (.int .i64 (zbL (sk 1)).1) (fun j=>zaa (zaD hv2 rfl) RL.nil) (fun j=>zab h21) hlt hK hrows fun A w hsw=>by
  rw [hs,hg];exact zpS hsw
theorem Tryz.zoa {x y z:Int} (hv2:ρ.v 2= .pointer (some ⟨S,0,none⟩)) (hacc:(zaZ N r (sk 1) (gk 1)).1=accV x y z) (h30:ρ.i 30=x) (h31:ρ.i 31=y) (h32:ρ.i 32=z) (h21:ρ.i 21=(zaZ N r (sk 1) (gk 1)).2.1) (hs:sk 2=(zaZ N r (sk 1) (gk 1)).2.2.1) (hg:gk 2=(zaZ N r (sk 1) (gk 1)).2.2.2) (hbX:bX≤w0.heap.size) (hlt:S<b2∧M<b2∧B<b2) (hK:K S∧K M∧K B) (hrows: ∀e∈rows 2,e∈rows 1):
  zaJ prog ρ w0 K (lwG X bX S P L Bs B M N r b2 sk gk rows) lwStepE:=
 zk8 (Dw.enters_of (by kernel_rfl)) (by decide) hbX [.pointer (some ⟨S,0,none⟩)] (.tuple #[accV x y z,.int .i64 (zaZ N r (sk 1) (gk 1)).2.1]) (fun j=>zaa (zaD hv2 rfl) RL.nil) (fun j=>zcX (zaa (zlG (zaa (zab h30) (zaa (zab h31) (zaa (zab h32) RL.nil)))) (zaa (zab h21) RL.nil))) hlt hK hrows fun A w hsw=>by
  rw [hs,hg,←hacc];exact zpr hsw
theorem Tryz.zbP {b:Nat} (hv2:ρ.v 2= .pointer (some ⟨S,0,none⟩)) (hb:ρ.b b=decide ((sk k).ph≠0)):zaJ prog ρ w0 K (lwG X bX S P L Bs B M N r b2 sk gk rows) (zcT k b):=
 zak (Dw.enters_of (by kernel_rfl)) (by decide) [.pointer (some ⟨S,0,none⟩)] (.bool (decide ((sk k).ph≠0))) (fun j=>zaa (zaD hv2 rfl) RL.nil) (fun j=>zaH hb) fun w F q hf=>by
  obtain ⟨_,F0,_,h1,_⟩:=hf
  exact Calls.mono (zml h1.sw.srv) fun e w' hh=>⟨hh.1,hh.2▸Below.refl _ _⟩
theorem Tryz.zdg (hv2:ρ.v 2= .pointer (some ⟨S,0,none⟩)) (h23:ρ.i 23=if (sk k).br then 4 else 0):zaJ prog ρ w0 K (lwG X bX S P L Bs B M N r b2 sk gk rows) (zfV k):=
 zak (Dw.enters_of (by kernel_rfl)) (by decide) [.pointer (some ⟨S,0,none⟩)] (.int .i64 (if (sk k).br then 4 else 0)) (fun j=>zaa (zaD hv2 rfl) RL.nil) (fun j=>zab h23) fun w F q hf=>by
  obtain ⟨_,F0,_,h1,_⟩:=hf
  exact Calls.mono (zoJ h1.sw.srv) fun e w' hh=>⟨hh.1,hh.2▸Below.refl _ _⟩
theorem Tryz.zcr {kd n:Int} (h8:ρ.i 8=n) (hk:n%7=kd):zaJ prog ρ w0 K (lwG X bX S P L Bs B M N r b2 sk gk rows) (zdL kd):=
 zak (Dw.enters_of (by kernel_rfl)) rfl [.int .i64 n,.int .i64 7] (.int .i64 kd) (fun j=>zaa (zab h8) (zaa (zab rfl) RL.nil)) (fun j=>zab rfl) fun w F q hf=>by
  rw [←hk]
  exact Calls.mono (zdc n 7 (by decide) w) fun e w' hh=>⟨hh.1,hh.2▸Below.refl _ _⟩
def Tryz.hdsR (H:List Int):LwR:=⟨some 6,undef,1,H.length,zaG H⟩
theorem Tryz.zmT {p v:Int} (hv0:ρ.v 0= .pointer (some ⟨P,0,none⟩)) (h20:ρ.i 20=p) (hp:0≤p∧p+4≤N) (hN:N≤1048576) (h10:(u32v 10).den ρ=v) (hs:sk 2=sk 1) (hg:gk 2=putW (gk 1) p.toNat 4 v) (hbX:bX≤w0.heap.size) (hlt:B<b2) (hK:K B) (hrows: ∀e∈rows 2,e∈rows 1):
  zaJ prog ρ w0 K (lwG X bX S P L Bs B M N r b2 sk gk rows) lwStoreE:=
 zso (Dw.enters_of (by kernel_rfl)) (by decide) hbX [.pointer (some ⟨P,0,none⟩),.int .u64 p,.int .i64 4,.int .u64 v] (.int .i64 0)
  (fun j=>zaa (zaD hv0 rfl) (zaa (zab (by show IntKind.wrap .u64 (ρ.i 20)=p;rw [h20];exact zay (by omega) (by omega))) (zaa (zab rfl) (zaa (zab h10) RL.nil)))) (fun j=>zab rfl) hlt hK hrows hs fun w hm=>by
  rw [hg]
  exact Calls.mono (zij (k:=4) hm hN (.inr (.inr (.inl rfl))) v hp.1 hp.2) fun e w' ⟨e1,e2,e3⟩=>⟨e1,e2,e3⟩
theorem Tryz.zg3 (s:SS):(zbI s).length=s.tk.length:=by simp [zbI]
theorem Tryz.zoc (hv2:ρ.v 2= .pointer (some ⟨S,0,none⟩)) (hn:(lnv 17).den ρ=(sk 1).tk.length) (hl:(sk 1).tk.length≤1000000) (hbX:bX≤w0.heap.size) (hb2:b2≤w0.heap.size) (hrows: ∀e∈rows 6,e=hdsR (zbI (sk 1))∨e∈rows 1) (hs:sk 6=sk 1) (hg:gk 6=gk 1):
  zaJ prog ρ w0 K (lwG X bX S P L Bs B M N r b2 sk gk rows) lwHds2E:=
 zqI (e0:=hdsR (zbI (sk 1))) (Dw.enters_of (by kernel_rfl)) (show AV.exactL [.cst 2 none]=true by decide) hbX [.pointer (some ⟨S,0,none⟩)] (fun j=>zaa (zaD hv2 rfl) RL.nil) hb2 (fun j u hj ho hsl=>⟨⟨_,hj,rfl⟩,ho,fun m hm=>by
  cases hm
  obtain ⟨sa,c,e⟩:=hsl
  exact ⟨sa,_,c,e,by rw [hn];show ((zbI (sk 1)).length:Int)=_;rw [zg3]⟩⟩) hrows rfl hs hg
  fun A w hsw=>Calls.mono (zj9 hsw.srv hl) fun e w' ⟨v,t,h1,h2,h3⟩=>⟨v,t,h1,by show w'.ownsRow w.heap.size t 1 v (zbI (sk 1)).length _;rw [zg3];exact h2,h3⟩
end
end Go.Proofs
namespace Go.Proofs
open Go.Dw Go.RowKit Go.Maps Go.Sort

set_option maxHeartbeats 1000000 in
theorem Tryz.zmU {ρ:Val} {w0:World} {K:Nat→Prop} {X:Nat→Prop} {bX:Nat} {S P L Bs B M N:Nat} {r:Rg} {b2:Nat} {sk:Nat→SS} {gk:Nat→Nat→Int} {rows:Nat→List LwR} {e0:LwR} {ids:List Int} {l:List Sg} {n:Int} {sv:Value}
  (hv0:ρ.v 0= .pointer (some ⟨P,0,none⟩)) (hv1:ρ.v 1=sv) (h5:ρ.i 5=n) (hrg: ∀j,Dw.R ρ j rg r.val) (hb2r:ρ.b 2=decide (zbc l=0)) (hr:RgOk r) (hN:N≤1048576) (hfit:r.d+16*r.n≤N∧r.v+6+2*r.n≤N) (hsv:SegV (fun _=>False) w0 sv l)
  (hR: ∀R o' c',sv= .slice (some ⟨R,o',none⟩) l.length c'→ ¬K R∧R<b2) (hl:l.length<60000) (hil:ids.length=l.length) (hnd:ids.Nodup) (hin: ∀x∈ids,0≤x∧x<r.n) (hn:0≤n∧n<1000000)
  (he0:e0∈rows 5) (hq:e0.q=some 6) (hz:e0.sz=1) (hcn:e0.n=ids.length) (hcs:e0.cs=zaG ids) (hrows: ∀e∈rows 2,e∈rows 5) (hs:sk 2=sk 5) (hg:gk 2=zjF r ids l n (gk 5)) (hlt:B<b2) (hK:K B):
  zaJ prog ρ w0 K (lwG X bX S P L Bs B M N r b2 sk gk rows) lwOfferE:=by
 refine ⟨Dw.enters_of (by kernel_rfl),fun j w vals F n0 hv hnone _ hF hsz hf hold=> ?_⟩
 obtain ⟨x0,_,rfl,y0,hv⟩:=hv
 obtain ⟨x1,_,rfl,y1,hv⟩:=hv
 obtain ⟨x2,_,rfl,y2,hv⟩:=hv
 obtain ⟨x3,_,rfl,y3,hv⟩:=hv
 obtain ⟨x4,_,rfl,y4,hv⟩:=hv
 have hv:_= []:=hv
 subst hv
 obtain ⟨hXF,F0,hF0,h1,h2⟩:=hf
 obtain ⟨u,t,q1,q2,q3⟩:=h2 e0 he0
 rw [hz,hcn,hcs] at q2
 have y0:x0= .pointer (some ⟨P,0,none⟩):=by rw [R_val rfl y0];exact hv0
 have y1:x1=r.val:=(R_val (by decide) y1).trans (R_val (by decide) (hrg j)).symm
 have y2:x2=u:=by
  obtain ⟨⟨Lq,hj,hu⟩,_⟩:=y2
  unfold LwR.is at q1
  rw [hq] at q1
  simp only at q1
  unfold opqs at q1
  rw [hj] at q1
  simp only [Option.bind_some] at q1
  rw [hu] at q1
  injection q1
 have y3:x3=sv:=by rw [R_val rfl y3];exact hv1
 have y4:x4= .int .i64 n:=by rw [show x4= .int .i64 (ρ.i 5) from y4,h5]
 subst y0 y1 y2 y3 y4
 have hul:=OwnR.lt q2
 obtain ⟨sa,c,hsl,hur⟩:=OwnR.row q2
 have hseg:SegV (fun _=>False) w x3 l:=by
  obtain ⟨sa',c',e,hok,hr'⟩:=hsv
  refine ⟨sa',c',e,hok,?_⟩
  by_cases h0:l= []
  ·exact .inl h0
  ·rcases hr' with h|⟨R,o,e1,h3,h4⟩
   ·exact .inl h
   ·exact .inr ⟨R,o,e1,h3,zat h4 (hold R (zcZ h4 h0) (hR R o c' (by rw [e,e1])).1)⟩
 have hcall:Calls prog 12 #[.pointer (some ⟨P,0,none⟩),r.val,.slice sa ids.length c,x3,.int .i64 n] w fun e w'=>e= .returned (.bool (decide (zbc l=0)))∧GM w' P L Bs B N (zjF r ids l n (gk 5))∧Dw.Mv (fun b=>b=B) w w':=by
  refine znZ h1.mem hN hr hfit hseg hl hil hnd hin hn (by have:=hr.bnd;omega) ?_
  rcases hur with h|⟨G,e,hGo,hG⟩
  ·left
   have:=congrArg List.length h
   simp [zaG] at this
   exact List.length_eq_zero_iff.1 (by simpa using this)
  ·have hq3:=(q3 G hGo).2
   refine .inr ⟨G,0,e,hG,fun h=>hq3 (h▸h1.fP),fun h=>hq3 (h▸h1.fL),fun h=>hq3 (h▸h1.fs),fun h=>hq3 (h▸h1.fB),fun R o' ⟨c',h⟩ hGR=> ?_⟩
   have:=(hR R o' c' h).2
   have:=(hul G hGo).1
   omega
 rw [hsl]
 refine Calls.mono hcall fun en w' hh=> ?_
 obtain ⟨rfl,hgm,hmv⟩:=hh
 refine ⟨_,[],F,rfl,rfl,zaH hb2r,⟨hXF,F0,hF0,?_,fun e he=> ?_⟩,fun b hb=>⟨Nat.lt_of_lt_of_le (hF b hb) hmv.size,.inl hb⟩,hmv.mono fun b hb=> ?_⟩
 ·show LwF S P L Bs B M N r (sk 2) (gk 2) _ w'
  rw [hs,hg]
  exact h1.stored hmv hgm
 ·obtain ⟨v,t',e1,e2,e3⟩:=h2 e (hrows e he)
  refine ⟨v,t',by rw [zcb];exact e1,OwnR.kept e2 fun b hb=>hmv.block b (OwnR.lt e2 b hb).2 fun hh=> ?_,e3⟩
  have:=(OwnR.lt e2 b hb).1
  omega
 ·subst hb
  exact ⟨hF0 _ h1.fB,.inr hK⟩
end Go.Proofs
namespace Go.Proofs
open Go.Dw Go.RowKit Go.Maps Go.Sort

structure Tryz.LmV where
 r:Rg
 c:Ac
 nacts:Int
 i:Int
 steps:Int
 pub:Int
 h1:Int
 h2:Int
 pick:Int
 code:Int
 err:Int
 x:Int
 y:Int
 z:Int
 busy0:Bool
 busy1:Bool
 off:Bool
 ret:Bool
 busy:Bool
 mem:Value
 srv:Value
 acts:Value
def Tryz.LmV.rho (m:LmV):Val:=
  ⟨fun n=>match n with|0=>m.r.n|1=>m.r.d|2=>m.r.v|3=>m.r.c|4=>m.c.sl.length|5=>m.pub|6=>m.i|7=>m.nacts|8=>m.c.k|9=>m.c.n|10=>m.c.v|11=>m.c.a|12=>m.c.l|13=>m.c.f|14=>m.c.x|15=>m.steps|17=>m.h1|18=>m.h2|19=>6+8*m.r.n|20=>m.pick|21=>m.code|23=>m.err|30=>m.x|31=>m.y|32=>m.z|_=>0,
   fun n=>match n with|0=>m.busy0|1=>m.busy1|2=>m.off|3=>m.ret|4=>m.busy|_=>false,fun n=>match n with|0=>m.mem|1=>m.c.sv|2=>m.srv|4=>m.acts|_=>undef⟩
structure Tryz.LmD (ρ:Val) (m:LmV):Prop where
 sz:(szv 0).den ρ=m.r.n
 d1:(u64v 1).den ρ=m.r.d
 d2:(u64v 2).den ρ=m.r.v
 d3:(u64v 3).den ρ=m.r.c
 d4:(lnv 4).den ρ=m.c.sl.length
 i5:ρ.i 5=m.pub
 d6:(lnv 6).den ρ=m.i
 d7:(lnv 7).den ρ=m.nacts
 i8:ρ.i 8=m.c.k
 i9:ρ.i 9=m.c.n
 d10:(u32v 10).den ρ=m.c.v
 i15:ρ.i 15=m.steps
 d17:(lnv 17).den ρ=m.h1
 d18:(lnv 18).den ρ=m.h2
 d19:(u64v 19).den ρ=6+8*m.r.n
 i20:ρ.i 20=m.pick
 i21:ρ.i 21=m.code
 i23:ρ.i 23=m.err
 i30:ρ.i 30=m.x
 i31:ρ.i 31=m.y
 i32:ρ.i 32=m.z
 b0:ρ.b 0=m.busy0
 b1:ρ.b 1=m.busy1
 b2:ρ.b 2=m.off
 b3:ρ.b 3=m.ret
 b4:ρ.b 4=m.busy
 v0:ρ.v 0=m.mem
 v1:ρ.v 1=m.c.sv
 v2:ρ.v 2=m.srv
 v4:ρ.v 4=m.acts
 act: ∀j,RL ρ j lwAct m.c.cells
theorem Tryz.lmD {m:LmV} {w:World} (hr:RgOk m.r) (hc:m.c.ok w) (h6:0≤m.i∧m.i<4000000) (h7:0≤m.nacts∧m.nacts<4000000000000000) (h17:0≤m.h1∧m.h1<4000000) (h18:0≤m.h2∧m.h2<4000000):LmD m.rho m:=by
 have q1:=hr.dE
 have q2:=hr.vE
 have q3:=hr.cE
 have hb:=hr.bnd
 have hsn:=hc.sn
 exact ⟨ziW (by show 1≤m.r.n;omega) (by show m.r.n≤_;omega),zav hr.d0 (by show m.r.d<_;omega),zav hr.v0 (by show m.r.v<_;omega),zav hr.c0 (by show m.r.c<_;omega),zaB (by show (0:Int)≤m.c.sl.length;omega) (by show (m.c.sl.length:Int)<_;omega),rfl,
  zaB h6.1 (by show m.i<_;omega),zaB h7.1 (by show m.nacts<_;omega),rfl,rfl,zbp hc.v.1 hc.v.2,rfl,zaB h17.1 (by show m.h1<_;omega),zaB h18.1 (by show m.h2<_;omega),zav (by show 0≤6+8*m.r.n;omega) (by show 6+8*m.r.n<_;omega),rfl,rfl,rfl,rfl,rfl,rfl,rfl,rfl,rfl,rfl,rfl,rfl,rfl,rfl,rfl,
  fun j=>zqJ hc rfl rfl rfl rfl rfl rfl rfl rfl rfl⟩
theorem Tryz.LmD.rg {ρ:Val} {m:LmV} (D:LmD ρ m) (j:J):RL ρ j rowRg [.bool false,.int .i64 m.r.n,.int .u64 m.r.d,.int .u64 m.r.v,.int .u64 m.r.c]:=
 zaa (zaH rfl) (zaa (zab D.sz) (zaa (zab D.d1) (zaa (zab D.d2) (zaa (zab D.d3) RL.nil))))
end Go.Proofs
namespace Go.Proofs
open Go.Dw Go.RowKit Go.Maps Go.Sort

def Tryz.lwA (W0:World) (X9 S M B:Nat) (w:World) (b:Nat):Prop:=b<w.heap.size∧(b<W0.heap.size∨b=X9∨b=S∨b=M∨b=B)
structure Tryz.LwI (W0:World) (X9 S P L Bs B M:Nat) (r:Rg) (av:Value) (acts:List Ac) (s:SS) (g:Nat→Int) (i:Nat) (steps pub:Int) (a:Act) (w:World):Prop where
 size:a.tmps.size=237
 dfr:a.defers= []
 t0:a.tmps.getD 0 undef= .int .i64 r.n
 t2:a.tmps.getD 2 undef=av
 t7:a.tmps.getD 7 undef= .pointer (some ⟨P,0,none⟩)
 t8:a.tmps.getD 8 undef= .pointer (some ⟨S,0,none⟩)
 t9:a.tmps.getD 9 undef= .pointer (some ⟨X9,0,none⟩)
 t13:a.tmps.getD 13 undef= .int .u64 (6+8*r.n)
 t14:a.tmps.getD 14 undef= .int .i64 steps
 t15:a.tmps.getD 15 undef= .int .i64 pub
 t16:a.tmps.getD 16 undef= .int .i64 i
 row:Row w ⟨X9,0,0,none⟩ [.bool false,.int .i64 r.n,.int .u64 r.d,.int .u64 r.v,.int .u64 r.c]
 sw:SW (lwA W0 X9 S M B w) w S P L Bs B M 20000 r s g
 inv:EInv s steps i
 pub0:0≤pub∧pub≤i
 aok:ActV W0 av acts
 old:Below W0.heap.size W0 w
 lo:W0.heap.size≤X9∧W0.heap.size≤S∧W0.heap.size≤M∧W0.heap.size≤B∧W0.heap.size≤P∧W0.heap.size≤L∧W0.heap.size≤Bs
 x9:X9≠S∧X9≠M∧X9≠B∧X9≠P∧X9≠L∧X9≠Bs
 n60:acts.length≤60∧ ∀x∈acts,x.sl.length≤100
theorem Tryz.LwI.start {W0:World} {X9 S P L Bs B M:Nat} {r:Rg} {av:Value} {acts:List Ac} {s:SS} {g:Nat→Int} {i:Nat} {steps pub:Int} {a:Act} {w:World} (h:LwI W0 X9 S P L Bs B M r av acts s g i steps pub a w) {R o b2:Nat} (hR:R<W0.heap.size) {sk:Nat→SS} {gk:Nat→Nat→Int} {rows:Nat→List LwR} (hs:sk 0=s) (hg:gk 0=g) (hr:rows 0= []):
  (lwG (fun b=>b≠X9∧W0.heap.size≤b) w.heap.size S P L Bs B M 20000 r b2 sk gk rows).G 0 (jOf [(X9,0),(R,o)]) w:=by
 obtain ⟨l1,l2,l3,l4,l5,l6,l7⟩:=h.lo
 obtain ⟨n1,n2,n3,n4,n5,n6⟩:=h.x9
 have k1:=h.sw.srv.ltS
 have k2:=h.sw.srv.ltM
 have k3:=h.sw.mem.bl
 refine ⟨fun b=>b<w.heap.size∧b≠X9∧W0.heap.size≤b,fun b hb=>⟨hb.1,fun hm=> ?_⟩,fun b hb=> .inl hb.2,fun b=>b<w.heap.size∧b≠X9∧W0.heap.size≤b,fun b hb=>hb,?_,fun e he=> ?_⟩
 ·have:=zce hm
  simp only [List.map_cons,List.map_nil,List.mem_cons,List.not_mem_nil,or_false] at this
  rcases this with e|e
  ·exact hb.2.1 e
  ·have:=hb.2.2;omega
 ·show LwF S P L Bs B M 20000 r (sk 0) (gk 0) _ w
  rw [hs,hg]
  refine ⟨⟨k1,fun e=>n1 e.symm,l2⟩,⟨k2,fun e=>n2 e.symm,l3⟩,⟨h.sw.mem.pl,fun e=>n4 e.symm,l5⟩,⟨h.sw.mem.ll,fun e=>n5 e.symm,l6⟩,⟨h.sw.mem.sl,fun e=>n6 e.symm,l7⟩,⟨k3,fun e=>n3 e.symm,l4⟩,h.sw.set (fun b hb hh=>⟨hb,?_⟩) ⟨k1,.inr (.inl rfl)⟩ ⟨k2,.inr (.inr (.inl rfl))⟩ ⟨k3,.inr (.inr (.inr rfl))⟩ fun b hb=>hb.1⟩
  rcases hh.2 with hh|hh
  ·by_cases e1:b=X9
   ·exact .inr (.inl e1)
   ·by_cases e2:b<W0.heap.size
    ·exact .inl e2
    ·exact absurd ⟨hb,e1,by omega⟩ hh
  ·exact .inr (.inr hh)
 ·rw [hr] at he
  cases he
end Go.Proofs
namespace Go.Proofs
open Go.Dw Go.RowKit Go.Maps Go.Sort

theorem Tryz.znA (N:Nat) (r:Rg) (s:SS) (g:Nat→Int): ∃x y z,(zaZ N r s g).1=accV x y z:=by
 unfold zaZ zq3
 split
 ·exact ⟨_,_,_,rfl⟩
 ·split<;>exact ⟨_,_,_,rfl⟩
theorem Tryz.znM (g:Nat→Int) (N:Nat) (h:0<N):(row g 0 N)[0]? =some (.int .u8 (g 0)):=by
 unfold row
 rw [List.getElem?_map,List.getElem?_range h]
 rfl
theorem Tryz.zox (g:Nat→Int) (q N:Nat) (h:0<N):(imgR q N g).cs[0]? =some (.int .u8 (g 0)):=znM g N h
theorem Tryz.LwI.next {W0:World} {X9 S P L Bs B M:Nat} {r:Rg} {acts:List Ac} {s:SS} {g:Nat→Int} {i:Nat} {steps pub:Int} {a:Act} {w:World} {R o:Nat} {c:Nat} (h:LwI W0 X9 S P L Bs B M r (.slice (some ⟨R,o,none⟩) acts.length c) acts s g i steps pub a w)
  {s':SS} {g':Nat→Int} {steps' pub':Int} {a2:Act} {w2:World} {F2:Nat→Prop}
  (hmv:Dw.Mv (fun b=>b=S∨b=M∨b=B) w w2) (z1:a2.tmps.size=237) (z2:a2.defers= []) (hX2: ∀b,F2 b→(b≠X9∧W0.heap.size≤b)∨w.heap.size≤b) (hgho: ∃F0:Nat→Prop,(∀b,F0 b→F2 b)∧LwF S P L Bs B M 20000 r s' g' F0 w2)
  (hinv:EInv s' steps' (i+1)) (hpub:0≤pub'∧pub'≤(i:Int)+1)
  (z4:([0,2,7,8,9,13,14,15,16].map fun t=>a2.tmps.getD t undef)= [.int .i64 r.n,.slice (some ⟨R,o,none⟩) acts.length c,.pointer (some ⟨P,0,none⟩),.pointer (some ⟨S,0,none⟩),.pointer (some ⟨X9,0,none⟩),.int .u64 (6+8*r.n),.int .i64 steps',.int .i64 pub',.int .i64 (i+1:Nat)]):
  LwI W0 X9 S P L Bs B M r (.slice (some ⟨R,o,none⟩) acts.length c) acts s' g' (i+1) steps' pub' a2 w2:=by
 obtain ⟨F0,hF0,hlw⟩:=hgho
 simp only [List.map_cons,List.map_nil,List.cons.injEq,and_true] at z4
 obtain ⟨t0,t2,t7,t8,t9,t13,t14,t15,t16⟩:=z4
 obtain ⟨l1,l2,l3,l4,l5,l6,l7⟩:=h.lo
 have hX9:X9<w.heap.size:=zeW h.row
 have hX9n: ¬(X9=S∨X9=M∨X9=B):=by rintro (e|e|e);exact h.x9.1 e;exact h.x9.2.1 e;exact h.x9.2.2.1 e
 have hold:=h.old.size
 have k1:=h.sw.srv.ltS
 have k2:=h.sw.srv.ltM
 have k3:=h.sw.mem.bl
 have hs2:=hmv.size
 refine ⟨z1,z2,t0,t2,t7,t8,t9,t13,t14,t15,t16,h.row.kept (hmv.block _ hX9 hX9n),hlw.sw.set (fun b hb hh=>⟨hb,?_⟩) ⟨by omega,.inr (.inr (.inl rfl))⟩ ⟨by omega,.inr (.inr (.inr (.inl rfl)))⟩ ⟨by omega,.inr (.inr (.inr (.inr rfl)))⟩ (fun b hb=>hb.1),by push_cast;exact hinv,by push_cast;exact hpub,h.aok,h.old.trans ⟨hmv.os,hmv.tape,hmv.output,hmv.size,fun b hb=>hmv.block b (by omega) (by rintro (e|e|e)<;>omega)⟩,h.lo,h.x9,h.n60⟩
 rcases hh.2 with hh|hh|hh
 ·exact .inl fun hf=>by rcases hX2 b (hF0 b hf) with e|e<;>omega
 ·exact .inl fun hf=>by rcases hX2 b (hF0 b hf) with e|e;exact e.1 hh;omega
 ·exact .inr hh
end Go.Proofs
namespace Go.Proofs
open Go.Dw Go.RowKit Go.Maps Go.Sort

set_option maxRecDepth 10000 in
set_option maxHeartbeats 4000000 in
theorem Tryz.zjQ {kd:Int} (hrun:(evL prog (entOrc (zdM kd)) (zao lm4_lents) (aentOrc lm4_aents) 100000 (.code (codeR prog [0,0,1,0,1,1,1,1,1,1,1,1,4]) [0,0,1,0,1,1,1,1,1,1,1,1,4] 237 (envS 237 lm4_slots lm4_dfr) (zaj 0 lm4_shs) (cleafAt lm4_ls 0))).ways lm4_asm=some lm4_ps) (hok:(shsSmall lm4_shs&&entsSmall (zdM kd)&&lentsSmall lm4_lents&&aentsSmall lm4_aents&&slotsSmall lm4_slots&&cleavesExact lm4_ls&&zaq 237 lm4_slots&&Nat.ble 237 dslot&&dfrSmall lm4_dfr)=true) {W0:World} {X9 S P L Bs B M:Nat} {r:Rg} {av:Value} {acts:List Ac} {s:SS} {g:Nat→Int} {i:Nat} {steps pub:Int} {a:Act} {w:World} (h:LwI W0 X9 S P L Bs B M r av acts s g i steps pub a w) (hi:i<acts.length) (hk:acts[i].k%7=kd):
  (codeR prog [0,0,1,0,1,1,1,1,1,1,1,1,4]).wp prog (fun ex a' w'=>ex= .normal∧ ∃s' g' steps' pub',LwI W0 X9 S P L Bs B M r av acts s' g' (i+1) steps' pub' a' w') a w:=by
 obtain ⟨aa,c,rfl,hr0⟩:=h.aok.val
 rcases hr0 with h0|⟨R,o,rfl,hr0⟩
 ·rw [h0] at hi;simp at hi
 have hxW:=hr0 i hi
 have hRlt:R<W0.heap.size:=World.block_lt_of_cell? W0 _ (hxW 0 _ rfl)
 have hx:=zat hxW (h.old.block R hRlt)
 have hco:=h.aok.ok acts[i] (List.getElem_mem hi)
 have h60:=h.n60.1
 obtain ⟨l1,l2,l3,l4,l5,l6,l7⟩:=h.lo
 have k1:=h.sw.srv.ltS
 have k2:=h.sw.srv.ltM
 have k3:=h.sw.mem.bl
 have hrg:=h.sw.srv.rg
 have hbnd:=hrg.bnd
 have hcnt:=h.inv.cnt
 have hinv:=h.inv.stay
 have hp0:0≤acts[i].n%19996:=Int.emod_nonneg _ (by decide)
 have hp1:acts[i].n%19996<19996:=Int.emod_lt_of_pos _ (by decide)
 have D:=lmD (m:=⟨r,acts[i],acts.length,i,steps,pub,s.tk.length,(s.tk.length:Int),acts[i].n%19996,0,if (s).br then 4 else 0,0,0,0,false,false,false,false,decide ((s).ph≠0),.pointer (some ⟨P,0,none⟩),.pointer (some ⟨S,0,none⟩),.slice (some ⟨R,o,none⟩) acts.length c⟩) (w:=W0) hrg hco ⟨by show (0:Int)≤i;omega,by show (i:Int)<_;omega⟩ ⟨by show (0:Int)≤acts.length;omega,by show (acts.length:Int)<_;omega⟩ ⟨by show (0:Int)≤s.tk.length;omega,by show (s.tk.length:Int)<_;omega⟩ ⟨by show (0:Int)≤(s.tk.length:Int);omega,by show (s.tk.length:Int)<_;omega⟩
 generalize (LmV.rho ⟨r,acts[i],acts.length,i,steps,pub,s.tk.length,(s.tk.length:Int),acts[i].n%19996,0,if (s).br then 4 else 0,0,0,0,false,false,false,false,decide ((s).ph≠0),.pointer (some ⟨P,0,none⟩),.pointer (some ⟨S,0,none⟩),.slice (some ⟨R,o,none⟩) acts.length c⟩)=ρ at D
 have hj1:jOf [(X9,0),(R,o+8*i)] 1=some ⟨X9,0,0,none⟩:=rfl
 have hj2:jOf [(X9,0),(R,o+8*i)] 2=some ⟨R,o+8*i,0,none⟩:=rfl
 have hlt:S<w.heap.size∧M<w.heap.size∧B<w.heap.size:=⟨k1,k2,k3⟩
 have hKs:(S=S∨S=M∨S=B)∧(M=S∨M=M∨M=B)∧(B=S∨B=M∨B=B):=⟨.inl rfl,.inr (.inl rfl),.inr (.inr rfl)⟩
 have hcz:0≤6+8*r.n∧r.c+(6+8*r.n)<18446744073709551616:=⟨by omega,by have:=h.sw.fit.2.2;omega⟩
 refine wp_mono (zam (ρ:=ρ) (K:=fun b=>b=S∨b=M∨b=B) (g:=lwG (fun b=>b≠X9∧W0.heap.size≤b) w.heap.size S P L Bs B M 20000 r w.heap.size (fun k=>match k with|0=>s|_=>s) (fun k=>match k with|0=>g|1=>g|_=>(putW g (acts[i].n%19996).toNat 4 acts[i].v)) (fun k=>match k with|0=> []|1=> [imgR 4 20000 g]|2=> [imgR 4 20000 g]|3=> [imgR 4 20000 g,imgR 6 20000 (putW g (acts[i].n%19996).toNat 4 acts[i].v)]|_=> [imgR 4 20000 g,imgR 6 20000 (putW g (acts[i].n%19996).toNat 4 acts[i].v),imgR 7 20000 (putW g (acts[i].n%19996).toNat 4 acts[i].v)])) (bl:= [(X9,0),(R,o+8*i)]) mixed hrun hok (fun b hb=>by rcases hb with rfl|rfl|rfl<;>assumption)
  ⟨zb1 h.row (by simp) (D.rg _) (by rintro (e|e|e);exact h.x9.1 e;exact h.x9.2.1 e;exact h.x9.2.2.1 e),zaw hx (by simp [Ac.cells]) (D.act _) (by rintro (e|e|e)<;>omega),trivial⟩ ⟨fun hh=>(by cases hh),fun hh=>(by cases hh),trivial⟩ (h.start hRlt rfl rfl rfl)
  ⟨za8 D.v0 (by decide) (Nat.le_refl _) (Nat.le_refl _) (fun e he=>by simp at he ⊢;rcases he with he|he|he|he<;>simp_all) rfl rfl,zbr D.v2 D.d17 (by show s.tk.length≤1000000;omega) (Nat.le_refl _) (Nat.le_refl _),zcr D.i8 hk,zak (Dw.enters_of (by kernel_rfl)) rfl [.int .i64 acts[i].n,.int .i64 19996] (.int .i64 (acts[i].n%19996)) (fun j=>zaa (zab D.i9) (zaa (zab rfl) RL.nil)) (fun j=>zab D.i20) (fun w F q hf=>Calls.mono (zdc acts[i].n 19996 (by decide) w) fun e w' hh=>⟨hh.1,hh.2▸Below.refl _ _⟩),zmT D.v0 D.i20 ⟨hp0,(show acts[i].n%19996+4≤((20000:Nat):Int) by omega)⟩ (by decide) D.d10 rfl rfl (Nat.le_refl _) k3 (.inr (.inr rfl)) (fun e he=>he),za8 D.v0 (by decide) (Nat.le_refl _) (Nat.le_refl _) (fun e he=>by simp at he ⊢;rcases he with he|he|he|he<;>simp_all) rfl rfl,za8 D.v0 (by decide) (Nat.le_refl _) (Nat.le_refl _) (fun e he=>by simp at he ⊢;rcases he with he|he|he|he<;>simp_all) rfl rfl,zbr D.v2 (D.d18.trans rfl) (by show (s).tk.length≤1000000;omega) (Nat.le_refl _) (Nat.le_refl _),zdg D.v2 D.i23,zbP D.v2 D.b4,trivial⟩
  ⟨zbZ hrg (by decide) D.d19 hcz (fun j=>D.rg j) (show imgR 6 20000 (putW g (acts[i].n%19996).toNat 4 acts[i].v)∈ [imgR 4 20000 g,imgR 6 20000 (putW g (acts[i].n%19996).toNat 4 acts[i].v),imgR 7 20000 (putW g (acts[i].n%19996).toNat 4 acts[i].v)] by simp) (show imgR 7 20000 (putW g (acts[i].n%19996).toNat 4 acts[i].v)∈ [imgR 4 20000 g,imgR 6 20000 (putW g (acts[i].n%19996).toNat 4 acts[i].v),imgR 7 20000 (putW g (acts[i].n%19996).toNat 4 acts[i].v)] by simp) (fun j hj=>absurd rfl hj) rfl,trivial⟩ trivial h.size h.dfr ?_ ?_) fun ex a2 w2 hh=> ?_
 ·intro t ht
  simp only [lm4_slots,zbA,List.mem_cons,List.not_mem_nil,or_false] at ht
  rcases ht with rfl|rfl|rfl|rfl|rfl|rfl|rfl|rfl|rfl
  ·rw [h.t0];exact zab D.sz
  ·rw [h.t2];exact ⟨D.v4.symm,_,_,_,rfl,D.d7.symm,⟨R,o,_,i,rfl,hj2,rfl,D.d6,hi,rfl⟩,trivial⟩
  ·rw [h.t7];exact zaD D.v0 rfl
  ·rw [h.t8];exact zaD D.v2 rfl
  ·rw [h.t9];exact ⟨_,hj1,rfl⟩
  ·rw [h.t13];exact zab D.d19
  ·rw [h.t14];exact zab D.i15
  ·rw [h.t15];exact zab D.i5
  ·rw [h.t16];exact zab D.d6
 ·have e0:IntKind.wrap .i64 ((s.tk.length:Int)-s.tk.length)≤1∧ -1≤IntKind.wrap .i64 ((s.tk.length:Int)-s.tk.length):=by rw [zbM (by omega) (by omega)];omega
  refine told_cons_iff.2 ⟨?_,told_cons_iff.2 ⟨?_,told_cons_iff.2 ⟨?_,told_nil.2 trivial⟩⟩⟩
  ·rw [zaz,D.d6,D.d7]
   exact decide_eq_true (by show (i:Int)<acts.length;omega)
  ·rw [zaP,zax,D.d17,D.d18,zac]
   exact decide_eq_false (by show¬IntKind.wrap .i64 ((s.tk.length:Int)-s.tk.length)>1;omega)
  ·rw [zaz,zax,D.d17,D.d18,zac]
   exact decide_eq_false (by show¬IntKind.wrap .i64 ((s.tk.length:Int)-s.tk.length)< -1;omega)
 ·obtain ⟨q,hq,hto,lf,hlf,rfl,hsz2,j2,hdf2,he⟩:=hh
  have hmv:=he.mv
  have hwi:=zca i (by omega)
  have lc1:=zad (he.sub _ _ hj1)
  have hbr:=hinv.br
  unfold lm4_ps at hq
  simp only [List.mem_cons,List.not_mem_nil,or_false] at hq
  rcases hq with rfl|rfl|rfl
  all_goals
   simp only [told_cons_iff,told_nil,zbm,zaP,zau,zai,den_add,zac,D.i21,D.i23,D.i15,D.i5,D.b0,D.b1,D.b2,D.b3,D.b4,beq_iff_eq,beq_eq_false_iff_ne,ne_eq,decide_eq_true_eq,decide_eq_false_iff_not,and_true] at hto
   cases hlf
  ·exfalso
   obtain ⟨e1,e2⟩:=hto
   split at e1
   ·rename_i hb;exact e2 (hbr hb)
   ·cases e1
  ·obtain ⟨F2,z1,z2,F0,z3,z4,_⟩:=he.gho
   refine ⟨rfl,_,_,_,_,h.next (s':=s) (g':=(putW g (acts[i].n%19996).toNat 4 acts[i].v)) hmv hsz2 hdf2 z2 ⟨F0,z3,z4⟩ hinv ⟨h.pub0.1,by have:=h.pub0.2;omega⟩ ?_⟩
   have hs2:=zal he.ret
   rw [hs2]
   simp only [AV.valL,AV.val,D.sz,D.v0,D.v2,D.v4,D.d6,D.d19,D.i15,D.i5,zai,den_add,zac,hwi,lc1]
  ·obtain ⟨F2,z1,z2,F0,z3,z4,_⟩:=he.gho
   refine ⟨rfl,_,_,_,_,h.next (s':=s) (g':=(putW g (acts[i].n%19996).toNat 4 acts[i].v)) hmv hsz2 hdf2 z2 ⟨F0,z3,z4⟩ hinv ⟨h.pub0.1,by have:=h.pub0.2;omega⟩ ?_⟩
   have hs2:=zal he.ret
   rw [hs2]
   simp only [AV.valL,AV.val,D.sz,D.v0,D.v2,D.v4,D.d6,D.d19,D.i15,D.i5,zai,den_add,zac,hwi,lc1]
end Go.Proofs
namespace Go.Proofs
open Go.Dw Go.RowKit Go.Maps Go.Sort

set_option maxRecDepth 10000 in
set_option maxHeartbeats 4000000 in
theorem Tryz.zjR {kd:Int} (hrun:(evL prog (entOrc (zdN kd)) (zao lm2_lents) (aentOrc lm2_aents) 100000 (.code (codeR prog [0,0,1,0,1,1,1,1,1,1,1,1,4]) [0,0,1,0,1,1,1,1,1,1,1,1,4] 237 (envS 237 lm2_slots lm2_dfr) (zaj 0 lm2_shs) (cleafAt lm2_ls 0))).ways lm2_asm=some lm2_ps) (hok:(shsSmall lm2_shs&&entsSmall (zdN kd)&&lentsSmall lm2_lents&&aentsSmall lm2_aents&&slotsSmall lm2_slots&&cleavesExact lm2_ls&&zaq 237 lm2_slots&&Nat.ble 237 dslot&&dfrSmall lm2_dfr)=true) {W0:World} {X9 S P L Bs B M:Nat} {r:Rg} {av:Value} {acts:List Ac} {s:SS} {g:Nat→Int} {i:Nat} {steps pub:Int} {a:Act} {w:World} (h:LwI W0 X9 S P L Bs B M r av acts s g i steps pub a w) (hi:i<acts.length) (hk:acts[i].k%7=kd):
    (codeR prog [0,0,1,0,1,1,1,1,1,1,1,1,4]).wp prog (fun ex a' w'=>ex= .normal∧ ∃s' g' steps' pub',LwI W0 X9 S P L Bs B M r av acts s' g' (i+1) steps' pub' a' w') a w:=by
  obtain ⟨aa,c,rfl,hr0⟩:=h.aok.val
  rcases hr0 with h0|⟨R,o,rfl,hr0⟩
  · rw [h0] at hi;simp at hi
  have hxW:=hr0 i hi
  have hRlt:R<W0.heap.size:=World.block_lt_of_cell? W0 _ (hxW 0 _ rfl)
  have hx:=zat hxW (h.old.block R hRlt)
  have hco:=h.aok.ok acts[i] (List.getElem_mem hi)
  have h60:=h.n60.1
  obtain ⟨l1,l2,l3,l4,l5,l6,l7⟩:=h.lo
  have k1:=h.sw.srv.ltS
  have k2:=h.sw.srv.ltM
  have k3:=h.sw.mem.bl
  have hrg:=h.sw.srv.rg
  have hbnd:=hrg.bnd
  have hcnt:=h.inv.cnt
  have hst1:=h.inv.lo
  have hst2:=h.inv.hi
  have HL:=zpq (N:=20000) h.inv hrg h.sw.mem.byte (by omega) h.sw.srv.us.1
  obtain ⟨x,y,z,hacc⟩:=znA 20000 r s g
  rcases hst:zaZ 20000 r s g with ⟨av1,E,s',g'⟩
  rw [hst] at HL hacc
  simp only at HL hacc
  have hws:IntKind.wrap .i64 (steps+1)=steps+1:=zbM (by omega) (by omega)
  have hup:=HL.up
  have hdn:=HL.down
  have f1:=HL.idle
  have f2:=HL.soon
  have f3:=HL.bad
  have D:=lmD (m:=⟨r,acts[i],acts.length,i,steps,pub,s.tk.length,(s'.tk.length:Int),0,E,if (s').br then 4 else 0,x,y,z,decide (s.ph≠0),decide (s'.ph≠0),false,false,decide ((s').ph≠0),.pointer (some ⟨P,0,none⟩),.pointer (some ⟨S,0,none⟩),.slice (some ⟨R,o,none⟩) acts.length c⟩) (w:=W0) hrg hco ⟨by show (0:Int)≤i;omega,by show (i:Int)<_;omega⟩ ⟨by show (0:Int)≤acts.length;omega,by show (acts.length:Int)<_;omega⟩ ⟨by show (0:Int)≤s.tk.length;omega,by show (s.tk.length:Int)<_;omega⟩ ⟨by show (0:Int)≤(s'.tk.length:Int);omega,by show (s'.tk.length:Int)<_;omega⟩
  generalize (LmV.rho ⟨r,acts[i],acts.length,i,steps,pub,s.tk.length,(s'.tk.length:Int),0,E,if (s').br then 4 else 0,x,y,z,decide (s.ph≠0),decide (s'.ph≠0),false,false,decide ((s').ph≠0),.pointer (some ⟨P,0,none⟩),.pointer (some ⟨S,0,none⟩),.slice (some ⟨R,o,none⟩) acts.length c⟩)=ρ at D
  have hj1:jOf [(X9,0),(R,o+8*i)] 1=some ⟨X9,0,0,none⟩:=rfl
  have hj2:jOf [(X9,0),(R,o+8*i)] 2=some ⟨R,o+8*i,0,none⟩:=rfl
  have hlt:S<w.heap.size∧M<w.heap.size∧B<w.heap.size:=⟨k1,k2,k3⟩
  have hKs:(S=S∨S=M∨S=B)∧(M=S∨M=M∨M=B)∧(B=S∨B=M∨B=B):=⟨.inl rfl,.inr (.inl rfl),.inr (.inr rfl)⟩
  have hcz:0≤6+8*r.n∧r.c+(6+8*r.n)<18446744073709551616:=⟨by omega,by have:=h.sw.fit.2.2;omega⟩
  refine wp_mono (zam (ρ:=ρ) (K:=fun b=>b=S∨b=M∨b=B) (g:=lwG (fun b=>b≠X9∧W0.heap.size≤b) w.heap.size S P L Bs B M 20000 r w.heap.size (fun k=>match k with|0=>s|1=>s|_=>s') (fun k=>match k with|0=>g|1=>g|_=>g') (fun k=>match k with|0=> []|1=> [imgR 4 20000 g]|2=> [imgR 4 20000 g]|_=> [imgR 4 20000 g,imgR 7 20000 g'])) (bl:= [(X9,0),(R,o+8*i)]) mixed hrun hok (fun b hb=>by rcases hb with rfl|rfl|rfl<;>assumption)
    ⟨zb1 h.row (by simp) (D.rg _) (by rintro (e|e|e);exact h.x9.1 e;exact h.x9.2.1 e;exact h.x9.2.2.1 e),zaw hx (by simp [Ac.cells]) (D.act _) (by rintro (e|e|e)<;>omega),trivial⟩ ⟨fun hh=>(by cases hh),fun hh=>(by cases hh),trivial⟩ (h.start hRlt rfl rfl rfl)
    ⟨za8 D.v0 (by decide) (Nat.le_refl _) (Nat.le_refl _) (fun e he=>by simp at he ⊢;rcases he with he|he|he|he<;>simp_all) rfl rfl,zbr D.v2 D.d17 (by show s.tk.length≤1000000;omega) (Nat.le_refl _) (Nat.le_refl _),zcr D.i8 hk,zbP D.v2 D.b0,zoa D.v2 (by show (zaZ 20000 r s g).1=_;rw [hst];exact hacc) D.i30 D.i31 D.i32 (by show _=(zaZ 20000 r s g).2.1;rw [hst];exact D.i21) (by show s'=(zaZ 20000 r s g).2.2.1;rw [hst]) (by show g'=(zaZ 20000 r s g).2.2.2;rw [hst]) (Nat.le_refl _) hlt hKs (fun e he=>he),zbP D.v2 D.b1,za8 D.v0 (by decide) (Nat.le_refl _) (Nat.le_refl _) (fun e he=>by simp at he ⊢;rcases he with he|he|he|he<;>simp_all) rfl rfl,zbr D.v2 (D.d18.trans rfl) (by show (s').tk.length≤1000000;omega) (Nat.le_refl _) (Nat.le_refl _),zdg D.v2 D.i23,zbP D.v2 D.b4,trivial⟩
    ⟨zbZ hrg (by decide) D.d19 hcz (fun j=>D.rg j) (show imgR 4 20000 g∈ [imgR 4 20000 g,imgR 7 20000 g'] by simp) (show imgR 7 20000 g'∈ [imgR 4 20000 g,imgR 7 20000 g'] by simp) HL.own rfl,trivial⟩ trivial h.size h.dfr ?_ ?_) fun ex a2 w2 hh=> ?_
  · intro t ht
    simp only [lm2_slots,zbA,List.mem_cons,List.not_mem_nil,or_false] at ht
    rcases ht with rfl|rfl|rfl|rfl|rfl|rfl|rfl|rfl|rfl
    · rw [h.t0];exact zab D.sz
    · rw [h.t2];exact ⟨D.v4.symm,_,_,_,rfl,D.d7.symm,⟨R,o,_,i,rfl,hj2,rfl,D.d6,hi,rfl⟩,trivial⟩
    · rw [h.t7];exact zaD D.v0 rfl
    · rw [h.t8];exact zaD D.v2 rfl
    · rw [h.t9];exact ⟨_,hj1,rfl⟩
    · rw [h.t13];exact zab D.d19
    · rw [h.t14];exact zab D.i15
    · rw [h.t15];exact zab D.i5
    · rw [h.t16];exact zab D.d6
  · have e0:IntKind.wrap .i64 ((s'.tk.length:Int)-s.tk.length)≤1∧ -1≤IntKind.wrap .i64 ((s'.tk.length:Int)-s.tk.length):=by rw [zbM (by omega) (by omega)];omega
    refine told_cons_iff.2 ⟨?_,told_cons_iff.2 ⟨?_,told_cons_iff.2 ⟨?_,told_nil.2 trivial⟩⟩⟩
    · rw [zaz,D.d6,D.d7]
      exact decide_eq_true (by show (i:Int)<acts.length;omega)
    · rw [zaP,zax,D.d17,D.d18,zac]
      exact decide_eq_false (by show¬IntKind.wrap .i64 ((s'.tk.length:Int)-s.tk.length)>1;omega)
    · rw [zaz,zax,D.d17,D.d18,zac]
      exact decide_eq_false (by show¬IntKind.wrap .i64 ((s'.tk.length:Int)-s.tk.length)< -1;omega)
  · obtain ⟨q,hq,hto,lf,hlf,rfl,hsz2,j2,hdf2,he⟩:=hh
    have hmv:=he.mv
    have hwi:=zca i (by omega)
    have lc1:=zad (he.sub _ _ hj1)
    have hbr:=HL.inv.br
    unfold lm2_ps at hq
    simp only [List.mem_cons,List.not_mem_nil,or_false] at hq
    rcases hq with rfl|rfl|rfl|rfl|rfl|rfl|rfl|rfl|rfl|rfl|rfl|rfl|rfl|rfl|rfl|rfl|rfl|rfl|rfl|rfl|rfl|rfl|rfl
    all_goals
      simp only [told_cons_iff,told_nil,zbm,zaP,zau,zai,den_add,zac,D.i21,D.i23,D.i15,D.i5,D.b0,D.b1,D.b2,D.b3,D.b4,beq_iff_eq,beq_eq_false_iff_ne,ne_eq,decide_eq_true_eq,decide_eq_false_iff_not,and_true,hws] at hto
      cases hlf
    all_goals
      generalize hsn:(if s'.br=true then (4:Int) else 0)=er at hto
      have f4:er=4→s'.ph=0:=fun hh=>by
        rw [←hsn] at hh
        split at hh
        · rename_i hb;exact hbr hb
        · cases hh
    all_goals first
      | (exfalso;omega)
      | (obtain ⟨F2,z1,z2,F0,z3,z4,_⟩:=he.gho
         refine ⟨rfl,_,_,_,_,h.next (s':=s') (g':=g') hmv hsz2 hdf2 z2 ⟨F0,z3,z4⟩ HL.inv ⟨h.pub0.1,by have:=h.pub0.2;omega⟩ ?_⟩
         have hs2:=zal he.ret
         rw [hs2]
         simp only [AV.valL,AV.val,D.sz,D.v0,D.v2,D.v4,D.d6,D.d19,D.i15,D.i5,zai,den_add,zac,hwi,lc1,hws])
end Go.Proofs
namespace Go.Proofs
open Go.Dw Go.RowKit Go.Maps Go.Sort

set_option maxRecDepth 10000 in
set_option maxHeartbeats 4000000 in
theorem Tryz.zog {W0:World} {X9 S P L Bs B M:Nat} {r:Rg} {av:Value} {acts:List Ac} {s:SS} {g:Nat→Int} {i:Nat} {steps pub:Int} {a:Act} {w:World} (h:LwI W0 X9 S P L Bs B M r av acts s g i steps pub a w) (hi:i<acts.length) (hk:acts[i].k%7=1):
  (codeR prog [0,0,1,0,1,1,1,1,1,1,1,1,4]).wp prog (fun ex a' w'=>ex= .normal∧ ∃s' g' steps' pub',LwI W0 X9 S P L Bs B M r av acts s' g' (i+1) steps' pub' a' w') a w:=by
 obtain ⟨aa,c,rfl,hr0⟩:=h.aok.val
 rcases hr0 with h0|⟨R,o,rfl,hr0⟩
 ·rw [h0] at hi;simp at hi
 have hxW:=hr0 i hi
 have hRlt:R<W0.heap.size:=World.block_lt_of_cell? W0 _ (hxW 0 _ rfl)
 have hx:=zat hxW (h.old.block R hRlt)
 have hco:=h.aok.ok acts[i] (List.getElem_mem hi)
 have h60:=h.n60.1
 obtain ⟨l1,l2,l3,l4,l5,l6,l7⟩:=h.lo
 have k1:=h.sw.srv.ltS
 have k2:=h.sw.srv.ltM
 have k3:=h.sw.mem.bl
 have hrg:=h.sw.srv.rg
 have hbnd:=hrg.bnd
 have hcnt:=h.inv.cnt
 obtain ⟨s',bR,hs',hbR,hinv⟩: ∃(s':SS) (bR:Bool),(s'=if (zbI s).length=0 then s else (retS s ((zbI s).getD (acts[i].n%(zbI s).length).toNat 0) 0).2)∧bR=decide ((zbI s).length≠0∧(retS s ((zbI s).getD (acts[i].n%(zbI s).length).toNat 0) 0).1=0)∧EInv s' (if bR then 0 else steps) (i+1)∧s'.tk=s.tk:=by
  refine ⟨_,_,rfl,rfl,?_⟩
  by_cases h0:(zbI s).length=0
  ·rw [if_pos h0,show decide ((zbI s).length≠0∧(retS s ((zbI s).getD (acts[i].n%(zbI s).length).toNat 0) 0).1=0)=false from decide_eq_false fun hh=>hh.1 h0]
   exact ⟨h.inv.stay,rfl⟩
  ·have:=h.inv.ret (head:=(zbI s).getD (acts[i].n%(zbI s).length).toNat 0) (wr:=0) (by omega)
   rw [if_neg h0]
   refine ⟨?_,this.2⟩
   by_cases h1:(retS s ((zbI s).getD (acts[i].n%(zbI s).length).toNat 0) 0).1=0
   ·have h2:=this.1
    rw [if_pos h1] at h2
    rw [show decide ((zbI s).length≠0∧(retS s ((zbI s).getD (acts[i].n%(zbI s).length).toNat 0) 0).1=0)=true from decide_eq_true ⟨h0,h1⟩]
    exact h2
   ·have h2:=this.1
    rw [if_neg h1] at h2
    rw [show decide ((zbI s).length≠0∧(retS s ((zbI s).getD (acts[i].n%(zbI s).length).toNat 0) 0).1=0)=false from decide_eq_false fun hh=>h1 hh.2]
    exact h2
 have htk:=hinv.2
 have hhl:=zg3 s
 have D:=lmD (m:=⟨r,acts[i],acts.length,i,steps,pub,s.tk.length,(s.tk.length:Int),0,0,if (s').br then 4 else 0,0,0,0,false,false,false,bR,decide ((s').ph≠0),.pointer (some ⟨P,0,none⟩),.pointer (some ⟨S,0,none⟩),.slice (some ⟨R,o,none⟩) acts.length c⟩) (w:=W0) hrg hco ⟨by show (0:Int)≤i;omega,by show (i:Int)<_;omega⟩ ⟨by show (0:Int)≤acts.length;omega,by show (acts.length:Int)<_;omega⟩ ⟨by show (0:Int)≤s.tk.length;omega,by show (s.tk.length:Int)<_;omega⟩ ⟨by show (0:Int)≤(s.tk.length:Int);omega,by show (s.tk.length:Int)<_;omega⟩
 generalize (LmV.rho ⟨r,acts[i],acts.length,i,steps,pub,s.tk.length,(s.tk.length:Int),0,0,if (s').br then 4 else 0,0,0,0,false,false,false,bR,decide ((s').ph≠0),.pointer (some ⟨P,0,none⟩),.pointer (some ⟨S,0,none⟩),.slice (some ⟨R,o,none⟩) acts.length c⟩)=ρ at D
 have hj1:jOf [(X9,0),(R,o+8*i)] 1=some ⟨X9,0,0,none⟩:=rfl
 have hj2:jOf [(X9,0),(R,o+8*i)] 2=some ⟨R,o+8*i,0,none⟩:=rfl
 have hlt:S<w.heap.size∧M<w.heap.size∧B<w.heap.size:=⟨k1,k2,k3⟩
 have hKs:(S=S∨S=M∨S=B)∧(M=S∨M=M∨M=B)∧(B=S∨B=M∨B=B):=⟨.inl rfl,.inr (.inl rfl),.inr (.inr rfl)⟩
 have hcz:0≤6+8*r.n∧r.c+(6+8*r.n)<18446744073709551616:=⟨by omega,by have:=h.sw.fit.2.2;omega⟩
 refine wp_mono (zam (ρ:=ρ) (K:=fun b=>b=S∨b=M∨b=B) (g:=lwG (fun b=>b≠X9∧W0.heap.size≤b) w.heap.size S P L Bs B M 20000 r w.heap.size (fun k=>match k with|0=>s|1=>s|6=>s|_=>s') (fun k=>match k with|_=>g) (fun k=>match k with|0=> []|1=> [imgR 4 20000 g]|2=> [imgR 4 20000 g]|6=> [hdsR (zbI s),imgR 4 20000 g]|_=> [imgR 4 20000 g,imgR 7 20000 g])) (bl:= [(X9,0),(R,o+8*i)]) mixed lm1_run lm1_ok (fun b hb=>by rcases hb with rfl|rfl|rfl<;>assumption)
  ⟨zb1 h.row (by simp) (D.rg _) (by rintro (e|e|e);exact h.x9.1 e;exact h.x9.2.1 e;exact h.x9.2.2.1 e),zaw hx (by simp [Ac.cells]) (D.act _) (by rintro (e|e|e)<;>omega),trivial⟩ ⟨fun hh=>(by cases hh),fun hh=>(by cases hh),trivial⟩ (h.start hRlt rfl rfl rfl)
  ⟨za8 D.v0 (by decide) (Nat.le_refl _) (Nat.le_refl _) (fun e he=>by simp at he ⊢;rcases he with he|he|he|he<;>simp_all) rfl rfl,zbr D.v2 D.d17 (by show s.tk.length≤1000000;omega) (Nat.le_refl _) (Nat.le_refl _),zcr D.i8 hk,zoc D.v2 D.d17 (by show s.tk.length≤1000000;omega) (Nat.le_refl _) (Nat.le_refl _) (fun e he=>by simpa using he) rfl rfl,za8 D.v0 (by decide) (Nat.le_refl _) (Nat.le_refl _) (fun e he=>by simp at he ⊢;rcases he with he|he|he|he<;>simp_all) rfl rfl,zbr D.v2 (D.d18.trans (by show _=(s'.tk.length:Int);rw [htk])) (by show s'.tk.length≤1000000;rw [htk];omega) (Nat.le_refl _) (Nat.le_refl _),zdg D.v2 D.i23,zbP D.v2 D.b4,trivial⟩
  ⟨zrC (hd:=hdsR (zbI s)) (H:=zbI s) D.v2 (D.d17.trans (by rw [hhl])) (by rw [hhl];omega) D.i9 hlt hKs (Nat.le_refl _) (Nat.le_refl _) hco.n.1 (by simp) rfl rfl rfl rfl (fun e he=>⟨by simp at he ⊢;exact .inr he,.int .u8 (g 0),by simp only [List.mem_singleton] at he;subst he;exact zox g 4 20000 (by omega),fun z hz=>by cases hz⟩) (fun e he=>Nat.le_trans (h.inv.len e he) (by decide)) rfl hs' (D.b3.trans hbR),zbZ hrg (by decide) D.d19 hcz (fun j=>D.rg j) (show imgR 4 20000 g∈ [imgR 4 20000 g,imgR 7 20000 g] by simp) (show imgR 7 20000 g∈ [imgR 4 20000 g,imgR 7 20000 g] by simp) (fun j hj=>absurd rfl hj) rfl,zbZ hrg (by decide) D.d19 hcz (fun j=>D.rg j) (show imgR 4 20000 g∈ [imgR 4 20000 g,imgR 7 20000 g] by simp) (show imgR 7 20000 g∈ [imgR 4 20000 g,imgR 7 20000 g] by simp) (fun j hj=>absurd rfl hj) rfl,trivial⟩ trivial h.size h.dfr ?_ ?_) fun ex a2 w2 hh=> ?_
 ·intro t ht
  simp only [lm1_slots,zbA,List.mem_cons,List.not_mem_nil,or_false] at ht
  rcases ht with rfl|rfl|rfl|rfl|rfl|rfl|rfl|rfl|rfl
  ·rw [h.t0];exact zab D.sz
  ·rw [h.t2];exact ⟨D.v4.symm,_,_,_,rfl,D.d7.symm,⟨R,o,_,i,rfl,hj2,rfl,D.d6,hi,rfl⟩,trivial⟩
  ·rw [h.t7];exact zaD D.v0 rfl
  ·rw [h.t8];exact zaD D.v2 rfl
  ·rw [h.t9];exact ⟨_,hj1,rfl⟩
  ·rw [h.t13];exact zab D.d19
  ·rw [h.t14];exact zab D.i15
  ·rw [h.t15];exact zab D.i5
  ·rw [h.t16];exact zab D.d6
 ·have e0:IntKind.wrap .i64 ((s.tk.length:Int)-s.tk.length)≤1∧ -1≤IntKind.wrap .i64 ((s.tk.length:Int)-s.tk.length):=by rw [zbM (by omega) (by omega)];omega
  refine told_cons_iff.2 ⟨?_,told_cons_iff.2 ⟨?_,told_cons_iff.2 ⟨?_,told_nil.2 trivial⟩⟩⟩
  ·rw [zaz,D.d6,D.d7]
   exact decide_eq_true (by show (i:Int)<acts.length;omega)
  ·rw [zaP,zax,D.d17,D.d18,zac]
   exact decide_eq_false (by show¬IntKind.wrap .i64 ((s.tk.length:Int)-s.tk.length)>1;omega)
  ·rw [zaz,zax,D.d17,D.d18,zac]
   exact decide_eq_false (by show¬IntKind.wrap .i64 ((s.tk.length:Int)-s.tk.length)< -1;omega)
 ·obtain ⟨q,hq,hto,lf,hlf,rfl,hsz2,j2,hdf2,he⟩:=hh
  have hmv:=he.mv
  have hwi:=zca i (by omega)
  have lc1:=zad (he.sub _ _ hj1)
  have hbr:=hinv.1.br
  unfold lm1_ps at hq
  simp only [List.mem_cons,List.not_mem_nil,or_false] at hq
  rcases hq with rfl|rfl|rfl|rfl|rfl|rfl
  all_goals
   simp only [told_cons_iff,told_nil,zbm,zaP,zau,zai,den_add,zac,D.i21,D.i23,D.i15,D.i5,D.b0,D.b1,D.b2,D.b3,D.b4,beq_iff_eq,beq_eq_false_iff_ne,ne_eq,decide_eq_true_eq,decide_eq_false_iff_not,and_true] at hto
   cases hlf
  ·exfalso
   obtain ⟨_,e1,e2⟩:=hto
   split at e1
   ·rename_i hb;exact e2 (hbr hb)
   ·cases e1
  ·obtain ⟨F2,z1,z2,F0,z3,z4,_⟩:=he.gho
   refine ⟨rfl,_,_,_,_,h.next (s':=s') (g':=g) hmv hsz2 hdf2 z2 ⟨F0,z3,z4⟩ (show EInv s' 0 (i+1) by simpa only [hto.1,if_true] using hinv.1) ⟨h.pub0.1,by have:=h.pub0.2;omega⟩ ?_⟩
   have hs2:=zal he.ret
   rw [hs2]
   simp only [AV.valL,AV.val,D.sz,D.v0,D.v2,D.v4,D.d6,D.d19,D.i15,D.i5,zai,den_add,zac,hwi,lc1]
  ·obtain ⟨F2,z1,z2,F0,z3,z4,_⟩:=he.gho
   refine ⟨rfl,_,_,_,_,h.next (s':=s') (g':=g) hmv hsz2 hdf2 z2 ⟨F0,z3,z4⟩ (show EInv s' 0 (i+1) by simpa only [hto.1,if_true] using hinv.1) ⟨h.pub0.1,by have:=h.pub0.2;omega⟩ ?_⟩
   have hs2:=zal he.ret
   rw [hs2]
   simp only [AV.valL,AV.val,D.sz,D.v0,D.v2,D.v4,D.d6,D.d19,D.i15,D.i5,zai,den_add,zac,hwi,lc1]
  ·exfalso
   obtain ⟨_,e1,e2⟩:=hto
   split at e1
   ·rename_i hb;exact e2 (hbr hb)
   ·cases e1
  ·obtain ⟨F2,z1,z2,F0,z3,z4,_⟩:=he.gho
   refine ⟨rfl,_,_,_,_,h.next (s':=s') (g':=g) hmv hsz2 hdf2 z2 ⟨F0,z3,z4⟩ (show EInv s' steps (i+1) by simpa only [hto.1,Bool.false_eq_true,if_false] using hinv.1) ⟨h.pub0.1,by have:=h.pub0.2;omega⟩ ?_⟩
   have hs2:=zal he.ret
   rw [hs2]
   simp only [AV.valL,AV.val,D.sz,D.v0,D.v2,D.v4,D.d6,D.d19,D.i15,D.i5,zai,den_add,zac,hwi,lc1]
  ·obtain ⟨F2,z1,z2,F0,z3,z4,_⟩:=he.gho
   refine ⟨rfl,_,_,_,_,h.next (s':=s') (g':=g) hmv hsz2 hdf2 z2 ⟨F0,z3,z4⟩ (show EInv s' steps (i+1) by simpa only [hto.1,Bool.false_eq_true,if_false] using hinv.1) ⟨h.pub0.1,by have:=h.pub0.2;omega⟩ ?_⟩
   have hs2:=zal he.ret
   rw [hs2]
   simp only [AV.valL,AV.val,D.sz,D.v0,D.v2,D.v4,D.d6,D.d19,D.i15,D.i5,zai,den_add,zac,hwi,lc1]
end Go.Proofs
namespace Go.Proofs
open Go.Dw Go.RowKit Go.Maps Go.Sort

set_option maxRecDepth 10000 in
set_option maxHeartbeats 4000000 in
theorem Tryz.zof {W0:World} {X9 S P L Bs B M:Nat} {r:Rg} {av:Value} {acts:List Ac} {s:SS} {g:Nat→Int} {i:Nat} {steps pub:Int} {a:Act} {w:World} (h:LwI W0 X9 S P L Bs B M r av acts s g i steps pub a w) (hi:i<acts.length) (hk:acts[i].k%7=6) (hsl:(acts[i].sl.length:Int)≤r.n) (hs0:acts[i].sl.length≠0):
  (codeR prog [0,0,1,0,1,1,1,1,1,1,1,1,4]).wp prog (fun ex a' w'=>ex= .normal∧ ∃s' g' steps' pub',LwI W0 X9 S P L Bs B M r av acts s' g' (i+1) steps' pub' a' w') a w:=by
 obtain ⟨aa,c,rfl,hr0⟩:=h.aok.val
 rcases hr0 with h0|⟨R,o,rfl,hr0⟩
 ·rw [h0] at hi;simp at hi
 have hxW:=hr0 i hi
 have hRlt:R<W0.heap.size:=World.block_lt_of_cell? W0 _ (hxW 0 _ rfl)
 have hx:=zat hxW (h.old.block R hRlt)
 have hco:=h.aok.ok acts[i] (List.getElem_mem hi)
 have h60:=h.n60.1
 obtain ⟨l1,l2,l3,l4,l5,l6,l7⟩:=h.lo
 have k1:=h.sw.srv.ltS
 have k2:=h.sw.srv.ltM
 have k3:=h.sw.mem.bl
 have hrg:=h.sw.srv.rg
 have hbnd:=hrg.bnd
 have hcnt:=h.inv.cnt
 have hinv:=h.inv.stay
 have hp1:=h.pub0.1
 have hp2:=h.pub0.2
 have hwp:IntKind.wrap .i64 (pub+1)=pub+1:=zbM (by omega) (by omega)
 obtain ⟨g',hg'⟩: ∃g',g'=zjF r (zdR acts[i].n r.n acts[i].sl.length) acts[i].sl pub g:=⟨_,rfl⟩
 have hil:=zg2 acts[i].n r.n acts[i].sl.length
 have h100:=h.n60.2 acts[i] (List.getElem_mem hi)
 have hseg: ∀R1 o1 c1,acts[i].sv= .slice (some ⟨R1,o1,none⟩) acts[i].sl.length c1→R1<W0.heap.size:=fun R1 o1 c1 e1=>by
  obtain ⟨sa,c2,e2,_,h3⟩:=hco.sv
  rcases h3 with h3|⟨R2,o2,rfl,_,h4⟩
  ·exact absurd (by rw [h3];rfl) hs0
  ·rw [e1] at e2
   injection e2 with e3
   injection e3 with e4
   injection e4 with e5
   rw [e5]
   exact zcZ h4 fun h5=>hs0 (by rw [h5];rfl)
 have D:=lmD (m:=⟨r,acts[i],acts.length,i,steps,pub,s.tk.length,(s.tk.length:Int),0,0,if (s).br then 4 else 0,0,0,0,false,false,decide (zbc acts[i].sl=0),false,decide ((s).ph≠0),.pointer (some ⟨P,0,none⟩),.pointer (some ⟨S,0,none⟩),.slice (some ⟨R,o,none⟩) acts.length c⟩) (w:=W0) hrg hco ⟨by show (0:Int)≤i;omega,by show (i:Int)<_;omega⟩ ⟨by show (0:Int)≤acts.length;omega,by show (acts.length:Int)<_;omega⟩ ⟨by show (0:Int)≤s.tk.length;omega,by show (s.tk.length:Int)<_;omega⟩ ⟨by show (0:Int)≤(s.tk.length:Int);omega,by show (s.tk.length:Int)<_;omega⟩
 generalize (LmV.rho ⟨r,acts[i],acts.length,i,steps,pub,s.tk.length,(s.tk.length:Int),0,0,if (s).br then 4 else 0,0,0,0,false,false,decide (zbc acts[i].sl=0),false,decide ((s).ph≠0),.pointer (some ⟨P,0,none⟩),.pointer (some ⟨S,0,none⟩),.slice (some ⟨R,o,none⟩) acts.length c⟩)=ρ at D
 have hj1:jOf [(X9,0),(R,o+8*i)] 1=some ⟨X9,0,0,none⟩:=rfl
 have hj2:jOf [(X9,0),(R,o+8*i)] 2=some ⟨R,o+8*i,0,none⟩:=rfl
 have hlt:S<w.heap.size∧M<w.heap.size∧B<w.heap.size:=⟨k1,k2,k3⟩
 have hKs:(S=S∨S=M∨S=B)∧(M=S∨M=M∨M=B)∧(B=S∨B=M∨B=B):=⟨.inl rfl,.inr (.inl rfl),.inr (.inr rfl)⟩
 have hcz:0≤6+8*r.n∧r.c+(6+8*r.n)<18446744073709551616:=⟨by omega,by have:=h.sw.fit.2.2;omega⟩
 refine wp_mono (zam (ρ:=ρ) (K:=fun b=>b=S∨b=M∨b=B) (g:=lwG (fun b=>b≠X9∧W0.heap.size≤b) w.heap.size S P L Bs B M 20000 r w.heap.size (fun k=>match k with|_=>s) (fun k=>match k with|0=>g|1=>g|5=>g|_=>g') (fun k=>match k with|0=> []|1=> [imgR 4 20000 g]|2=> [imgR 4 20000 g]|5=> [⟨some 6,undef,1,acts[i].sl.length,zaG (zdR acts[i].n r.n acts[i].sl.length)⟩,imgR 4 20000 g]|3=> [imgR 4 20000 g,imgR 7 20000 g']|_=> [imgR 4 20000 g,imgR 7 20000 g',imgR 8 20000 g'])) (bl:= [(X9,0),(R,o+8*i)]) mixed lm6_run lm6_ok (fun b hb=>by rcases hb with rfl|rfl|rfl<;>assumption)
  ⟨zb1 h.row (by simp) (D.rg _) (by rintro (e|e|e);exact h.x9.1 e;exact h.x9.2.1 e;exact h.x9.2.2.1 e),zaw hx (by simp [Ac.cells]) (D.act _) (by rintro (e|e|e)<;>omega),trivial⟩ ⟨fun hh=>(by cases hh),fun hh=>(by cases hh),trivial⟩ (h.start hRlt rfl rfl rfl)
  ⟨za8 D.v0 (by decide) (Nat.le_refl _) (Nat.le_refl _) (fun e he=>by simp at he ⊢;rcases he with he|he|he|he<;>simp_all) rfl rfl,zbr D.v2 D.d17 (by show s.tk.length≤1000000;omega) (Nat.le_refl _) (Nat.le_refl _),zcr D.i8 hk,zmU (e0:=⟨some 6,undef,1,acts[i].sl.length,zaG (zdR acts[i].n r.n acts[i].sl.length)⟩) (ids:=zdR acts[i].n r.n acts[i].sl.length) (l:=acts[i].sl) (n:=pub) (sv:=acts[i].sv) D.v0 D.v1 D.i5 (fun j=>zlG (D.rg j)) D.b2 hrg (by decide) ⟨h.sw.fit.1,h.sw.fit.2.1⟩ (hco.sv.kept fun k hk _=>h.old.block k hk) (fun R1 o1 c1 hR1=>by have:=hseg R1 o1 c1 hR1;exact ⟨by rintro (e|e|e)<;>omega,by omega⟩) (by omega) hil (zln (by omega) hsl) (zqb (by omega) _) ⟨hp1,by omega⟩ (by simp) rfl rfl (by rw [hil]) rfl (fun e he=>by simp at he ⊢;exact .inr he) rfl hg' k3 (.inr (.inr rfl)),za8 D.v0 (by decide) (Nat.le_refl _) (Nat.le_refl _) (fun e he=>by simp at he ⊢;rcases he with he|he|he|he<;>simp_all) rfl rfl,za8 D.v0 (by decide) (Nat.le_refl _) (Nat.le_refl _) (fun e he=>by simp at he ⊢;rcases he with he|he|he|he<;>simp_all) rfl rfl,zbr D.v2 (D.d18.trans rfl) (by show (s).tk.length≤1000000;omega) (Nat.le_refl _) (Nat.le_refl _),zdg D.v2 D.i23,zbP D.v2 D.b4,trivial⟩
  ⟨zqa (n:=acts[i].sl.length) D.sz (by omega) D.d4 (by omega) D.i9 (Nat.le_refl _) (Nat.le_refl _) rfl (fun e he=>by simpa using he) rfl rfl,zbZ hrg (by decide) D.d19 hcz (fun j=>D.rg j) (show imgR 7 20000 g'∈ [imgR 4 20000 g,imgR 7 20000 g',imgR 8 20000 g'] by simp) (show imgR 8 20000 g'∈ [imgR 4 20000 g,imgR 7 20000 g',imgR 8 20000 g'] by simp) (fun j hj=>absurd rfl hj) rfl,zbZ hrg (by decide) D.d19 hcz (fun j=>D.rg j) (show imgR 7 20000 g'∈ [imgR 4 20000 g,imgR 7 20000 g',imgR 8 20000 g'] by simp) (show imgR 8 20000 g'∈ [imgR 4 20000 g,imgR 7 20000 g',imgR 8 20000 g'] by simp) (fun j hj=>absurd rfl hj) rfl,trivial⟩ trivial h.size h.dfr ?_ ?_) fun ex a2 w2 hh=> ?_
 ·intro t ht
  simp only [lm6_slots,zbA,List.mem_cons,List.not_mem_nil,or_false] at ht
  rcases ht with rfl|rfl|rfl|rfl|rfl|rfl|rfl|rfl|rfl
  ·rw [h.t0];exact zab D.sz
  ·rw [h.t2];exact ⟨D.v4.symm,_,_,_,rfl,D.d7.symm,⟨R,o,_,i,rfl,hj2,rfl,D.d6,hi,rfl⟩,trivial⟩
  ·rw [h.t7];exact zaD D.v0 rfl
  ·rw [h.t8];exact zaD D.v2 rfl
  ·rw [h.t9];exact ⟨_,hj1,rfl⟩
  ·rw [h.t13];exact zab D.d19
  ·rw [h.t14];exact zab D.i15
  ·rw [h.t15];exact zab D.i5
  ·rw [h.t16];exact zab D.d6
 ·have e0:IntKind.wrap .i64 ((s.tk.length:Int)-s.tk.length)≤1∧ -1≤IntKind.wrap .i64 ((s.tk.length:Int)-s.tk.length):=by rw [zbM (by omega) (by omega)];omega
  refine told_cons_iff.2 ⟨?_,told_cons_iff.2 ⟨?_,told_cons_iff.2 ⟨?_,told_cons_iff.2 ⟨by rw [zaP,D.d4,zac];exact decide_eq_true (by show ((acts[i].sl.length:Int)>0);omega),told_cons_iff.2 ⟨by rw [zbS,D.d4,D.sz];exact decide_eq_true hsl,told_nil.2 trivial⟩⟩⟩⟩⟩
  ·rw [zaz,D.d6,D.d7]
   exact decide_eq_true (by show (i:Int)<acts.length;omega)
  ·rw [zaP,zax,D.d17,D.d18,zac]
   exact decide_eq_false (by show¬IntKind.wrap .i64 ((s.tk.length:Int)-s.tk.length)>1;omega)
  ·rw [zaz,zax,D.d17,D.d18,zac]
   exact decide_eq_false (by show¬IntKind.wrap .i64 ((s.tk.length:Int)-s.tk.length)< -1;omega)
 ·obtain ⟨q,hq,hto,lf,hlf,rfl,hsz2,j2,hdf2,he⟩:=hh
  have hmv:=he.mv
  have hwi:=zca i (by omega)
  have lc1:=zad (he.sub _ _ hj1)
  have hbr:=hinv.br
  unfold lm6_ps at hq
  simp only [List.mem_cons,List.not_mem_nil,or_false] at hq
  rcases hq with rfl|rfl|rfl|rfl|rfl|rfl
  all_goals
   simp only [told_cons_iff,told_nil,zbm,zaP,zau,zai,den_add,zac,D.i21,D.i23,D.i15,D.i5,D.b0,D.b1,D.b2,D.b3,D.b4,beq_iff_eq,beq_eq_false_iff_ne,ne_eq,decide_eq_true_eq,decide_eq_false_iff_not,and_true] at hto
   cases hlf
  ·exfalso
   obtain ⟨_,e1,e2⟩:=hto
   split at e1
   ·rename_i hb;exact e2 (hbr hb)
   ·cases e1
  ·obtain ⟨F2,z1,z2,F0,z3,z4,_⟩:=he.gho
   refine ⟨rfl,_,_,_,(pub+1),h.next (s':=s) (g':=g') hmv hsz2 hdf2 z2 ⟨F0,z3,z4⟩ hinv ⟨by omega,by omega⟩ ?_⟩
   have hs2:=zal he.ret
   rw [hs2]
   simp only [AV.valL,AV.val,D.sz,D.v0,D.v2,D.v4,D.d6,D.d19,D.i15,D.i5,zai,den_add,zac,hwi,lc1,hwp]
  ·obtain ⟨F2,z1,z2,F0,z3,z4,_⟩:=he.gho
   refine ⟨rfl,_,_,_,(pub+1),h.next (s':=s) (g':=g') hmv hsz2 hdf2 z2 ⟨F0,z3,z4⟩ hinv ⟨by omega,by omega⟩ ?_⟩
   have hs2:=zal he.ret
   rw [hs2]
   simp only [AV.valL,AV.val,D.sz,D.v0,D.v2,D.v4,D.d6,D.d19,D.i15,D.i5,zai,den_add,zac,hwi,lc1,hwp]
  ·exfalso
   obtain ⟨_,e1,e2⟩:=hto
   split at e1
   ·rename_i hb;exact e2 (hbr hb)
   ·cases e1
  ·obtain ⟨F2,z1,z2,F0,z3,z4,_⟩:=he.gho
   refine ⟨rfl,_,_,_,pub,h.next (s':=s) (g':=g') hmv hsz2 hdf2 z2 ⟨F0,z3,z4⟩ hinv ⟨by omega,by omega⟩ ?_⟩
   have hs2:=zal he.ret
   rw [hs2]
   simp only [AV.valL,AV.val,D.sz,D.v0,D.v2,D.v4,D.d6,D.d19,D.i15,D.i5,zai,den_add,zac,hwi,lc1,hwp]
  ·obtain ⟨F2,z1,z2,F0,z3,z4,_⟩:=he.gho
   refine ⟨rfl,_,_,_,pub,h.next (s':=s) (g':=g') hmv hsz2 hdf2 z2 ⟨F0,z3,z4⟩ hinv ⟨by omega,by omega⟩ ?_⟩
   have hs2:=zal he.ret
   rw [hs2]
   simp only [AV.valL,AV.val,D.sz,D.v0,D.v2,D.v4,D.d6,D.d19,D.i15,D.i5,zai,den_add,zac,hwi,lc1,hwp]
end Go.Proofs
namespace Go.Proofs
open Go.Dw Go.RowKit Go.Maps Go.Sort

set_option maxRecDepth 10000 in
set_option maxHeartbeats 4000000 in
theorem Tryz.zmW {W0:World} {X9 S P L Bs B M:Nat} {r:Rg} {av:Value} {acts:List Ac} {s:SS} {g:Nat→Int} {i:Nat} {steps pub:Int} {a:Act} {w:World} (h:LwI W0 X9 S P L Bs B M r av acts s g i steps pub a w) (hi:i<acts.length) (hk:acts[i].k%7=6) (hsl:acts[i].sl.length=0):
  (codeR prog [0,0,1,0,1,1,1,1,1,1,1,1,4]).wp prog (fun ex a' w'=>ex= .normal∧ ∃s' g' steps' pub',LwI W0 X9 S P L Bs B M r av acts s' g' (i+1) steps' pub' a' w') a w:=by
 obtain ⟨aa,c,rfl,hr0⟩:=h.aok.val
 rcases hr0 with h0|⟨R,o,rfl,hr0⟩
 ·rw [h0] at hi;simp at hi
 have hxW:=hr0 i hi
 have hRlt:R<W0.heap.size:=World.block_lt_of_cell? W0 _ (hxW 0 _ rfl)
 have hx:=zat hxW (h.old.block R hRlt)
 have hco:=h.aok.ok acts[i] (List.getElem_mem hi)
 have h60:=h.n60.1
 obtain ⟨l1,l2,l3,l4,l5,l6,l7⟩:=h.lo
 have k1:=h.sw.srv.ltS
 have k2:=h.sw.srv.ltM
 have k3:=h.sw.mem.bl
 have hrg:=h.sw.srv.rg
 have hbnd:=hrg.bnd
 have hcnt:=h.inv.cnt
 have hinv:=h.inv.stay
 have D:=lmD (m:=⟨r,acts[i],acts.length,i,steps,pub,s.tk.length,(s.tk.length:Int),0,0,if (s).br then 4 else 0,0,0,0,false,false,false,false,decide ((s).ph≠0),.pointer (some ⟨P,0,none⟩),.pointer (some ⟨S,0,none⟩),.slice (some ⟨R,o,none⟩) acts.length c⟩) (w:=W0) hrg hco ⟨by show (0:Int)≤i;omega,by show (i:Int)<_;omega⟩ ⟨by show (0:Int)≤acts.length;omega,by show (acts.length:Int)<_;omega⟩ ⟨by show (0:Int)≤s.tk.length;omega,by show (s.tk.length:Int)<_;omega⟩ ⟨by show (0:Int)≤(s.tk.length:Int);omega,by show (s.tk.length:Int)<_;omega⟩
 generalize (LmV.rho ⟨r,acts[i],acts.length,i,steps,pub,s.tk.length,(s.tk.length:Int),0,0,if (s).br then 4 else 0,0,0,0,false,false,false,false,decide ((s).ph≠0),.pointer (some ⟨P,0,none⟩),.pointer (some ⟨S,0,none⟩),.slice (some ⟨R,o,none⟩) acts.length c⟩)=ρ at D
 have hj1:jOf [(X9,0),(R,o+8*i)] 1=some ⟨X9,0,0,none⟩:=rfl
 have hj2:jOf [(X9,0),(R,o+8*i)] 2=some ⟨R,o+8*i,0,none⟩:=rfl
 have hlt:S<w.heap.size∧M<w.heap.size∧B<w.heap.size:=⟨k1,k2,k3⟩
 have hKs:(S=S∨S=M∨S=B)∧(M=S∨M=M∨M=B)∧(B=S∨B=M∨B=B):=⟨.inl rfl,.inr (.inl rfl),.inr (.inr rfl)⟩
 have hcz:0≤6+8*r.n∧r.c+(6+8*r.n)<18446744073709551616:=⟨by omega,by have:=h.sw.fit.2.2;omega⟩
 refine wp_mono (zam (ρ:=ρ) (K:=fun b=>b=S∨b=M∨b=B) (g:=lwG (fun b=>b≠X9∧W0.heap.size≤b) w.heap.size S P L Bs B M 20000 r w.heap.size (fun k=>match k with|_=>s) (fun k=>match k with|_=>g) (fun k=>match k with|0=> []|1=> [imgR 4 20000 g]|_=> [imgR 4 20000 g,imgR 6 20000 g])) (bl:= [(X9,0),(R,o+8*i)]) mixed lm6n_run lm6n_ok (fun b hb=>by rcases hb with rfl|rfl|rfl<;>assumption)
  ⟨zb1 h.row (by simp) (D.rg _) (by rintro (e|e|e);exact h.x9.1 e;exact h.x9.2.1 e;exact h.x9.2.2.1 e),zaw hx (by simp [Ac.cells]) (D.act _) (by rintro (e|e|e)<;>omega),trivial⟩ ⟨fun hh=>(by cases hh),fun hh=>(by cases hh),trivial⟩ (h.start hRlt rfl rfl rfl)
  ⟨za8 D.v0 (by decide) (Nat.le_refl _) (Nat.le_refl _) (fun e he=>by simp at he ⊢;rcases he with he|he|he|he<;>simp_all) rfl rfl,zbr D.v2 D.d17 (by show s.tk.length≤1000000;omega) (Nat.le_refl _) (Nat.le_refl _),zcr D.i8 hk,za8 D.v0 (by decide) (Nat.le_refl _) (Nat.le_refl _) (fun e he=>by simp at he ⊢;rcases he with he|he|he|he<;>simp_all) rfl rfl,zbr D.v2 (D.d18.trans rfl) (by show (s).tk.length≤1000000;omega) (Nat.le_refl _) (Nat.le_refl _),zdg D.v2 D.i23,zbP D.v2 D.b4,trivial⟩
  ⟨zbZ hrg (by decide) D.d19 hcz (fun j=>D.rg j) (show imgR 4 20000 g∈ [imgR 4 20000 g,imgR 6 20000 g] by simp) (show imgR 6 20000 g∈ [imgR 4 20000 g,imgR 6 20000 g] by simp) (fun j hj=>absurd rfl hj) rfl,trivial⟩ trivial h.size h.dfr ?_ ?_) fun ex a2 w2 hh=> ?_
 ·intro t ht
  simp only [lm6n_slots,zbA,List.mem_cons,List.not_mem_nil,or_false] at ht
  rcases ht with rfl|rfl|rfl|rfl|rfl|rfl|rfl|rfl|rfl
  ·rw [h.t0];exact zab D.sz
  ·rw [h.t2];exact ⟨D.v4.symm,_,_,_,rfl,D.d7.symm,⟨R,o,_,i,rfl,hj2,rfl,D.d6,hi,rfl⟩,trivial⟩
  ·rw [h.t7];exact zaD D.v0 rfl
  ·rw [h.t8];exact zaD D.v2 rfl
  ·rw [h.t9];exact ⟨_,hj1,rfl⟩
  ·rw [h.t13];exact zab D.d19
  ·rw [h.t14];exact zab D.i15
  ·rw [h.t15];exact zab D.i5
  ·rw [h.t16];exact zab D.d6
 ·have e0:IntKind.wrap .i64 ((s.tk.length:Int)-s.tk.length)≤1∧ -1≤IntKind.wrap .i64 ((s.tk.length:Int)-s.tk.length):=by rw [zbM (by omega) (by omega)];omega
  refine told_cons_iff.2 ⟨?_,told_cons_iff.2 ⟨?_,told_cons_iff.2 ⟨?_,told_cons_iff.2 ⟨by rw [zaP,D.d4,zac];exact decide_eq_false (by show¬((acts[i].sl.length:Int)>0);omega),told_nil.2 trivial⟩⟩⟩⟩
  ·rw [zaz,D.d6,D.d7]
   exact decide_eq_true (by show (i:Int)<acts.length;omega)
  ·rw [zaP,zax,D.d17,D.d18,zac]
   exact decide_eq_false (by show¬IntKind.wrap .i64 ((s.tk.length:Int)-s.tk.length)>1;omega)
  ·rw [zaz,zax,D.d17,D.d18,zac]
   exact decide_eq_false (by show¬IntKind.wrap .i64 ((s.tk.length:Int)-s.tk.length)< -1;omega)
 ·obtain ⟨q,hq,hto,lf,hlf,rfl,hsz2,j2,hdf2,he⟩:=hh
  have hmv:=he.mv
  have hwi:=zca i (by omega)
  have lc1:=zad (he.sub _ _ hj1)
  have hbr:=hinv.br
  unfold lm6n_ps at hq
  simp only [List.mem_cons,List.not_mem_nil,or_false] at hq
  rcases hq with rfl|rfl|rfl
  all_goals
   simp only [told_cons_iff,told_nil,zbm,zaP,zau,zai,den_add,zac,D.i21,D.i23,D.i15,D.i5,D.b0,D.b1,D.b2,D.b3,D.b4,beq_iff_eq,beq_eq_false_iff_ne,ne_eq,decide_eq_true_eq,decide_eq_false_iff_not,and_true] at hto
   cases hlf
  ·exfalso
   obtain ⟨e1,e2⟩:=hto
   split at e1
   ·rename_i hb;exact e2 (hbr hb)
   ·cases e1
  ·obtain ⟨F2,z1,z2,F0,z3,z4,_⟩:=he.gho
   refine ⟨rfl,_,_,_,_,h.next (s':=s) (g':=g) hmv hsz2 hdf2 z2 ⟨F0,z3,z4⟩ hinv ⟨h.pub0.1,by have:=h.pub0.2;omega⟩ ?_⟩
   have hs2:=zal he.ret
   rw [hs2]
   simp only [AV.valL,AV.val,D.sz,D.v0,D.v2,D.v4,D.d6,D.d19,D.i15,D.i5,zai,den_add,zac,hwi,lc1]
  ·obtain ⟨F2,z1,z2,F0,z3,z4,_⟩:=he.gho
   refine ⟨rfl,_,_,_,_,h.next (s':=s) (g':=g) hmv hsz2 hdf2 z2 ⟨F0,z3,z4⟩ hinv ⟨h.pub0.1,by have:=h.pub0.2;omega⟩ ?_⟩
   have hs2:=zal he.ret
   rw [hs2]
   simp only [AV.valL,AV.val,D.sz,D.v0,D.v2,D.v4,D.d6,D.d19,D.i15,D.i5,zai,den_add,zac,hwi,lc1]
end Go.Proofs
namespace Go.Proofs
open Go.Dw Go.RowKit Go.Maps Go.Sort

set_option maxRecDepth 10000 in
set_option maxHeartbeats 4000000 in
theorem Tryz.zmX {W0:World} {X9 S P L Bs B M:Nat} {r:Rg} {av:Value} {acts:List Ac} {s:SS} {g:Nat→Int} {i:Nat} {steps pub:Int} {a:Act} {w:World} (h:LwI W0 X9 S P L Bs B M r av acts s g i steps pub a w) (hi:i<acts.length) (hk:acts[i].k%7=6) (hsl: ¬(acts[i].sl.length:Int)≤r.n) (hs0:acts[i].sl.length≠0):
  (codeR prog [0,0,1,0,1,1,1,1,1,1,1,1,4]).wp prog (fun ex a' w'=>ex= .normal∧ ∃s' g' steps' pub',LwI W0 X9 S P L Bs B M r av acts s' g' (i+1) steps' pub' a' w') a w:=by
 obtain ⟨aa,c,rfl,hr0⟩:=h.aok.val
 rcases hr0 with h0|⟨R,o,rfl,hr0⟩
 ·rw [h0] at hi;simp at hi
 have hxW:=hr0 i hi
 have hRlt:R<W0.heap.size:=World.block_lt_of_cell? W0 _ (hxW 0 _ rfl)
 have hx:=zat hxW (h.old.block R hRlt)
 have hco:=h.aok.ok acts[i] (List.getElem_mem hi)
 have h60:=h.n60.1
 obtain ⟨l1,l2,l3,l4,l5,l6,l7⟩:=h.lo
 have k1:=h.sw.srv.ltS
 have k2:=h.sw.srv.ltM
 have k3:=h.sw.mem.bl
 have hrg:=h.sw.srv.rg
 have hbnd:=hrg.bnd
 have hcnt:=h.inv.cnt
 have hinv:=h.inv.stay
 have D:=lmD (m:=⟨r,acts[i],acts.length,i,steps,pub,s.tk.length,(s.tk.length:Int),0,0,if (s).br then 4 else 0,0,0,0,false,false,false,false,decide ((s).ph≠0),.pointer (some ⟨P,0,none⟩),.pointer (some ⟨S,0,none⟩),.slice (some ⟨R,o,none⟩) acts.length c⟩) (w:=W0) hrg hco ⟨by show (0:Int)≤i;omega,by show (i:Int)<_;omega⟩ ⟨by show (0:Int)≤acts.length;omega,by show (acts.length:Int)<_;omega⟩ ⟨by show (0:Int)≤s.tk.length;omega,by show (s.tk.length:Int)<_;omega⟩ ⟨by show (0:Int)≤(s.tk.length:Int);omega,by show (s.tk.length:Int)<_;omega⟩
 generalize (LmV.rho ⟨r,acts[i],acts.length,i,steps,pub,s.tk.length,(s.tk.length:Int),0,0,if (s).br then 4 else 0,0,0,0,false,false,false,false,decide ((s).ph≠0),.pointer (some ⟨P,0,none⟩),.pointer (some ⟨S,0,none⟩),.slice (some ⟨R,o,none⟩) acts.length c⟩)=ρ at D
 have hj1:jOf [(X9,0),(R,o+8*i)] 1=some ⟨X9,0,0,none⟩:=rfl
 have hj2:jOf [(X9,0),(R,o+8*i)] 2=some ⟨R,o+8*i,0,none⟩:=rfl
 have hlt:S<w.heap.size∧M<w.heap.size∧B<w.heap.size:=⟨k1,k2,k3⟩
 have hKs:(S=S∨S=M∨S=B)∧(M=S∨M=M∨M=B)∧(B=S∨B=M∨B=B):=⟨.inl rfl,.inr (.inl rfl),.inr (.inr rfl)⟩
 have hcz:0≤6+8*r.n∧r.c+(6+8*r.n)<18446744073709551616:=⟨by omega,by have:=h.sw.fit.2.2;omega⟩
 refine wp_mono (zam (ρ:=ρ) (K:=fun b=>b=S∨b=M∨b=B) (g:=lwG (fun b=>b≠X9∧W0.heap.size≤b) w.heap.size S P L Bs B M 20000 r w.heap.size (fun k=>match k with|_=>s) (fun k=>match k with|_=>g) (fun k=>match k with|0=> []|1=> [imgR 4 20000 g]|_=> [imgR 4 20000 g,imgR 6 20000 g])) (bl:= [(X9,0),(R,o+8*i)]) mixed lm6b_run lm6b_ok (fun b hb=>by rcases hb with rfl|rfl|rfl<;>assumption)
  ⟨zb1 h.row (by simp) (D.rg _) (by rintro (e|e|e);exact h.x9.1 e;exact h.x9.2.1 e;exact h.x9.2.2.1 e),zaw hx (by simp [Ac.cells]) (D.act _) (by rintro (e|e|e)<;>omega),trivial⟩ ⟨fun hh=>(by cases hh),fun hh=>(by cases hh),trivial⟩ (h.start hRlt rfl rfl rfl)
  ⟨za8 D.v0 (by decide) (Nat.le_refl _) (Nat.le_refl _) (fun e he=>by simp at he ⊢;rcases he with he|he|he|he<;>simp_all) rfl rfl,zbr D.v2 D.d17 (by show s.tk.length≤1000000;omega) (Nat.le_refl _) (Nat.le_refl _),zcr D.i8 hk,za8 D.v0 (by decide) (Nat.le_refl _) (Nat.le_refl _) (fun e he=>by simp at he ⊢;rcases he with he|he|he|he<;>simp_all) rfl rfl,zbr D.v2 (D.d18.trans rfl) (by show (s).tk.length≤1000000;omega) (Nat.le_refl _) (Nat.le_refl _),zdg D.v2 D.i23,zbP D.v2 D.b4,trivial⟩
  ⟨zbZ hrg (by decide) D.d19 hcz (fun j=>D.rg j) (show imgR 4 20000 g∈ [imgR 4 20000 g,imgR 6 20000 g] by simp) (show imgR 6 20000 g∈ [imgR 4 20000 g,imgR 6 20000 g] by simp) (fun j hj=>absurd rfl hj) rfl,trivial⟩ trivial h.size h.dfr ?_ ?_) fun ex a2 w2 hh=> ?_
 ·intro t ht
  simp only [lm6b_slots,zbA,List.mem_cons,List.not_mem_nil,or_false] at ht
  rcases ht with rfl|rfl|rfl|rfl|rfl|rfl|rfl|rfl|rfl
  ·rw [h.t0];exact zab D.sz
  ·rw [h.t2];exact ⟨D.v4.symm,_,_,_,rfl,D.d7.symm,⟨R,o,_,i,rfl,hj2,rfl,D.d6,hi,rfl⟩,trivial⟩
  ·rw [h.t7];exact zaD D.v0 rfl
  ·rw [h.t8];exact zaD D.v2 rfl
  ·rw [h.t9];exact ⟨_,hj1,rfl⟩
  ·rw [h.t13];exact zab D.d19
  ·rw [h.t14];exact zab D.i15
  ·rw [h.t15];exact zab D.i5
  ·rw [h.t16];exact zab D.d6
 ·have e0:IntKind.wrap .i64 ((s.tk.length:Int)-s.tk.length)≤1∧ -1≤IntKind.wrap .i64 ((s.tk.length:Int)-s.tk.length):=by rw [zbM (by omega) (by omega)];omega
  refine told_cons_iff.2 ⟨?_,told_cons_iff.2 ⟨?_,told_cons_iff.2 ⟨?_,told_cons_iff.2 ⟨by rw [zaP,D.d4,zac];exact decide_eq_true (by show ((acts[i].sl.length:Int)>0);omega),told_cons_iff.2 ⟨by rw [zbS,D.d4,D.sz];exact decide_eq_false hsl,told_nil.2 trivial⟩⟩⟩⟩⟩
  ·rw [zaz,D.d6,D.d7]
   exact decide_eq_true (by show (i:Int)<acts.length;omega)
  ·rw [zaP,zax,D.d17,D.d18,zac]
   exact decide_eq_false (by show¬IntKind.wrap .i64 ((s.tk.length:Int)-s.tk.length)>1;omega)
  ·rw [zaz,zax,D.d17,D.d18,zac]
   exact decide_eq_false (by show¬IntKind.wrap .i64 ((s.tk.length:Int)-s.tk.length)< -1;omega)
 ·obtain ⟨q,hq,hto,lf,hlf,rfl,hsz2,j2,hdf2,he⟩:=hh
  have hmv:=he.mv
  have hwi:=zca i (by omega)
  have lc1:=zad (he.sub _ _ hj1)
  have hbr:=hinv.br
  unfold lm6b_ps at hq
  simp only [List.mem_cons,List.not_mem_nil,or_false] at hq
  rcases hq with rfl|rfl|rfl
  all_goals
   simp only [told_cons_iff,told_nil,zbm,zaP,zau,zai,den_add,zac,D.i21,D.i23,D.i15,D.i5,D.b0,D.b1,D.b2,D.b3,D.b4,beq_iff_eq,beq_eq_false_iff_ne,ne_eq,decide_eq_true_eq,decide_eq_false_iff_not,and_true] at hto
   cases hlf
  ·exfalso
   obtain ⟨e1,e2⟩:=hto
   split at e1
   ·rename_i hb;exact e2 (hbr hb)
   ·cases e1
  ·obtain ⟨F2,z1,z2,F0,z3,z4,_⟩:=he.gho
   refine ⟨rfl,_,_,_,_,h.next (s':=s) (g':=g) hmv hsz2 hdf2 z2 ⟨F0,z3,z4⟩ hinv ⟨h.pub0.1,by have:=h.pub0.2;omega⟩ ?_⟩
   have hs2:=zal he.ret
   rw [hs2]
   simp only [AV.valL,AV.val,D.sz,D.v0,D.v2,D.v4,D.d6,D.d19,D.i15,D.i5,zai,den_add,zac,hwi,lc1]
  ·obtain ⟨F2,z1,z2,F0,z3,z4,_⟩:=he.gho
   refine ⟨rfl,_,_,_,_,h.next (s':=s) (g':=g) hmv hsz2 hdf2 z2 ⟨F0,z3,z4⟩ hinv ⟨h.pub0.1,by have:=h.pub0.2;omega⟩ ?_⟩
   have hs2:=zal he.ret
   rw [hs2]
   simp only [AV.valL,AV.val,D.sz,D.v0,D.v2,D.v4,D.d6,D.d19,D.i15,D.i5,zai,den_add,zac,hwi,lc1]
end Go.Proofs
namespace Go.Proofs
open Go.Dw Go.RowKit Go.Maps Go.Sort

set_option maxRecDepth 10000 in
set_option maxHeartbeats 4000000 in
theorem Tryz.zoh {W0:World} {X9 S P L Bs B M:Nat} {r:Rg} {av:Value} {acts:List Ac} {s:SS} {g:Nat→Int} {i:Nat} {steps pub:Int} {a:Act} {w:World} (h:LwI W0 X9 S P L Bs B M r av acts s g i steps pub a w) (hi:i<acts.length) (hk:acts[i].k%7=0):
  (codeR prog [0,0,1,0,1,1,1,1,1,1,1,1,4]).wp prog (fun ex a' w'=>ex= .normal∧ ∃s' g' steps' pub',LwI W0 X9 S P L Bs B M r av acts s' g' (i+1) steps' pub' a' w') a w:=by
 obtain ⟨aa,c,rfl,hr0⟩:=h.aok.val
 rcases hr0 with h0|⟨R,o,rfl,hr0⟩
 ·rw [h0] at hi;simp at hi
 have hxW:=hr0 i hi
 have hRlt:R<W0.heap.size:=World.block_lt_of_cell? W0 _ (hxW 0 _ rfl)
 have hx:=zat hxW (h.old.block R hRlt)
 have hco:=h.aok.ok acts[i] (List.getElem_mem hi)
 have h60:=h.n60.1
 obtain ⟨l1,l2,l3,l4,l5,l6,l7⟩:=h.lo
 have k1:=h.sw.srv.ltS
 have k2:=h.sw.srv.ltM
 have k3:=h.sw.mem.bl
 have hrg:=h.sw.srv.rg
 have hbnd:=hrg.bnd
 have hcnt:=h.inv.cnt
 have hpoll:=h.inv.poll (by omega)
 have D:=lmD (m:=⟨r,acts[i],acts.length,i,steps,pub,s.tk.length,(s.tk.length:Int),0,(zbL s).1,if ((zbL s).2).br then 4 else 0,0,0,0,false,false,false,false,decide (((zbL s).2).ph≠0),.pointer (some ⟨P,0,none⟩),.pointer (some ⟨S,0,none⟩),.slice (some ⟨R,o,none⟩) acts.length c⟩) (w:=W0) hrg hco ⟨by show (0:Int)≤i;omega,by show (i:Int)<_;omega⟩ ⟨by show (0:Int)≤acts.length;omega,by show (acts.length:Int)<_;omega⟩ ⟨by show (0:Int)≤s.tk.length;omega,by show (s.tk.length:Int)<_;omega⟩ ⟨by show (0:Int)≤(s.tk.length:Int);omega,by show (s.tk.length:Int)<_;omega⟩
 generalize (LmV.rho ⟨r,acts[i],acts.length,i,steps,pub,s.tk.length,(s.tk.length:Int),0,(zbL s).1,if ((zbL s).2).br then 4 else 0,0,0,0,false,false,false,false,decide (((zbL s).2).ph≠0),.pointer (some ⟨P,0,none⟩),.pointer (some ⟨S,0,none⟩),.slice (some ⟨R,o,none⟩) acts.length c⟩)=ρ at D
 have hj1:jOf [(X9,0),(R,o+8*i)] 1=some ⟨X9,0,0,none⟩:=rfl
 have hj2:jOf [(X9,0),(R,o+8*i)] 2=some ⟨R,o+8*i,0,none⟩:=rfl
 have hlt:S<w.heap.size∧M<w.heap.size∧B<w.heap.size:=⟨k1,k2,k3⟩
 have hKs:(S=S∨S=M∨S=B)∧(M=S∨M=M∨M=B)∧(B=S∨B=M∨B=B):=⟨.inl rfl,.inr (.inl rfl),.inr (.inr rfl)⟩
 have hcz:0≤6+8*r.n∧r.c+(6+8*r.n)<18446744073709551616:=⟨by omega,by have:=h.sw.fit.2.2;omega⟩
 refine wp_mono (zam (ρ:=ρ) (K:=fun b=>b=S∨b=M∨b=B) (g:=lwG (fun b=>b≠X9∧W0.heap.size≤b) w.heap.size S P L Bs B M 20000 r w.heap.size (fun k=>match k with|0=>s|1=>s|_=>(zbL s).2) (fun k=>match k with|_=>g) (fun k=>match k with|0=> []|1=> [imgR 4 20000 g]|2=> [imgR 4 20000 g]|_=> [imgR 4 20000 g,imgR 6 20000 g])) (bl:= [(X9,0),(R,o+8*i)]) mixed lm0_run lm0_ok (fun b hb=>by rcases hb with rfl|rfl|rfl<;>assumption)
  ⟨zb1 h.row (by simp) (D.rg _) (by rintro (e|e|e);exact h.x9.1 e;exact h.x9.2.1 e;exact h.x9.2.2.1 e),zaw hx (by simp [Ac.cells]) (D.act _) (by rintro (e|e|e)<;>omega),trivial⟩ ⟨fun hh=>(by cases hh),fun hh=>(by cases hh),trivial⟩ (h.start hRlt rfl rfl rfl)
  ⟨za8 D.v0 (by decide) (Nat.le_refl _) (Nat.le_refl _) (fun e he=>by simp at he ⊢;rcases he with he|he|he|he<;>simp_all) rfl rfl,zbr D.v2 D.d17 (by show s.tk.length≤1000000;omega) (Nat.le_refl _) (Nat.le_refl _),zcr D.i8 hk,zob D.v2 D.i21 rfl rfl (Nat.le_refl _) hlt hKs (fun e he=>he),za8 D.v0 (by decide) (Nat.le_refl _) (Nat.le_refl _) (fun e he=>by simp at he ⊢;rcases he with he|he|he|he<;>simp_all) rfl rfl,zbr D.v2 (D.d18.trans (by show _=((zbL s).2.tk.length:Int);rw [hpoll.2])) (by show (zbL s).2.tk.length≤1000000;rw [hpoll.2];omega) (Nat.le_refl _) (Nat.le_refl _),zdg D.v2 D.i23,zbP D.v2 D.b4,trivial⟩
  ⟨zbZ hrg (by decide) D.d19 hcz (fun j=>D.rg j) (show imgR 4 20000 g∈ [imgR 4 20000 g,imgR 6 20000 g] by simp) (show imgR 6 20000 g∈ [imgR 4 20000 g,imgR 6 20000 g] by simp) (fun j hj=>absurd rfl hj) rfl,zbZ hrg (by decide) D.d19 hcz (fun j=>D.rg j) (show imgR 4 20000 g∈ [imgR 4 20000 g,imgR 6 20000 g] by simp) (show imgR 6 20000 g∈ [imgR 4 20000 g,imgR 6 20000 g] by simp) (fun j hj=>absurd rfl hj) rfl,trivial⟩ trivial h.size h.dfr ?_ ?_) fun ex a2 w2 hh=> ?_
 ·intro t ht
  simp only [lm0_slots,zbA,List.mem_cons,List.not_mem_nil,or_false] at ht
  rcases ht with rfl|rfl|rfl|rfl|rfl|rfl|rfl|rfl|rfl
  ·rw [h.t0];exact zab D.sz
  ·rw [h.t2];exact ⟨D.v4.symm,_,_,_,rfl,D.d7.symm,⟨R,o,_,i,rfl,hj2,rfl,D.d6,hi,rfl⟩,trivial⟩
  ·rw [h.t7];exact zaD D.v0 rfl
  ·rw [h.t8];exact zaD D.v2 rfl
  ·rw [h.t9];exact ⟨_,hj1,rfl⟩
  ·rw [h.t13];exact zab D.d19
  ·rw [h.t14];exact zab D.i15
  ·rw [h.t15];exact zab D.i5
  ·rw [h.t16];exact zab D.d6
 ·have e0:IntKind.wrap .i64 ((s.tk.length:Int)-s.tk.length)≤1∧ -1≤IntKind.wrap .i64 ((s.tk.length:Int)-s.tk.length):=by rw [zbM (by omega) (by omega)];omega
  refine told_cons_iff.2 ⟨?_,told_cons_iff.2 ⟨?_,told_cons_iff.2 ⟨?_,told_nil.2 trivial⟩⟩⟩
  ·rw [zaz,D.d6,D.d7]
   exact decide_eq_true (by show (i:Int)<acts.length;omega)
  ·rw [zaP,zax,D.d17,D.d18,zac]
   exact decide_eq_false (by show¬IntKind.wrap .i64 ((s.tk.length:Int)-s.tk.length)>1;omega)
  ·rw [zaz,zax,D.d17,D.d18,zac]
   exact decide_eq_false (by show¬IntKind.wrap .i64 ((s.tk.length:Int)-s.tk.length)< -1;omega)
 ·obtain ⟨q,hq,hto,lf,hlf,rfl,hsz2,j2,hdf2,he⟩:=hh
  have hmv:=he.mv
  have hwi:=zca i (by omega)
  have lc1:=zad (he.sub _ _ hj1)
  have hbr:=hpoll.1.br
  unfold lm0_ps at hq
  simp only [List.mem_cons,List.not_mem_nil,or_false] at hq
  rcases hq with rfl|rfl|rfl|rfl|rfl|rfl
  all_goals
   simp only [told_cons_iff,told_nil,zbm,zaP,zau,zai,den_add,zac,D.i21,D.i23,D.i15,D.i5,D.b0,D.b1,D.b2,D.b3,D.b4,beq_iff_eq,beq_eq_false_iff_ne,ne_eq,decide_eq_true_eq,decide_eq_false_iff_not,and_true] at hto
   cases hlf
  ·exfalso
   obtain ⟨_,e1,e2⟩:=hto
   split at e1
   ·rename_i hb;exact e2 (hbr hb)
   ·cases e1
  ·obtain ⟨F2,z1,z2,F0,z3,z4,_⟩:=he.gho
   refine ⟨rfl,_,_,_,_,h.next (s':=(zbL s).2) (g':=g) hmv hsz2 hdf2 z2 ⟨F0,z3,z4⟩ (show EInv (zbL s).2 0 (i+1) by have h9:=hpoll.1;rw [if_pos hto.1] at h9;exact h9) ⟨h.pub0.1,by have:=h.pub0.2;omega⟩ ?_⟩
   have hs2:=zal he.ret
   rw [hs2]
   simp only [AV.valL,AV.val,D.sz,D.v0,D.v2,D.v4,D.d6,D.d19,D.i15,D.i5,zai,den_add,zac,hwi,lc1]
  ·obtain ⟨F2,z1,z2,F0,z3,z4,_⟩:=he.gho
   refine ⟨rfl,_,_,_,_,h.next (s':=(zbL s).2) (g':=g) hmv hsz2 hdf2 z2 ⟨F0,z3,z4⟩ (show EInv (zbL s).2 0 (i+1) by have h9:=hpoll.1;rw [if_pos hto.1] at h9;exact h9) ⟨h.pub0.1,by have:=h.pub0.2;omega⟩ ?_⟩
   have hs2:=zal he.ret
   rw [hs2]
   simp only [AV.valL,AV.val,D.sz,D.v0,D.v2,D.v4,D.d6,D.d19,D.i15,D.i5,zai,den_add,zac,hwi,lc1]
  ·exfalso
   obtain ⟨_,e1,e2⟩:=hto
   split at e1
   ·rename_i hb;exact e2 (hbr hb)
   ·cases e1
  ·obtain ⟨F2,z1,z2,F0,z3,z4,_⟩:=he.gho
   refine ⟨rfl,_,_,_,_,h.next (s':=(zbL s).2) (g':=g) hmv hsz2 hdf2 z2 ⟨F0,z3,z4⟩ (show EInv (zbL s).2 steps (i+1) by have h9:=hpoll.1;rw [if_neg hto.1] at h9;exact h9) ⟨h.pub0.1,by have:=h.pub0.2;omega⟩ ?_⟩
   have hs2:=zal he.ret
   rw [hs2]
   simp only [AV.valL,AV.val,D.sz,D.v0,D.v2,D.v4,D.d6,D.d19,D.i15,D.i5,zai,den_add,zac,hwi,lc1]
  ·obtain ⟨F2,z1,z2,F0,z3,z4,_⟩:=he.gho
   refine ⟨rfl,_,_,_,_,h.next (s':=(zbL s).2) (g':=g) hmv hsz2 hdf2 z2 ⟨F0,z3,z4⟩ (show EInv (zbL s).2 steps (i+1) by have h9:=hpoll.1;rw [if_neg hto.1] at h9;exact h9) ⟨h.pub0.1,by have:=h.pub0.2;omega⟩ ?_⟩
   have hs2:=zal he.ret
   rw [hs2]
   simp only [AV.valL,AV.val,D.sz,D.v0,D.v2,D.v4,D.d6,D.d19,D.i15,D.i5,zai,den_add,zac,hwi,lc1]
end Go.Proofs
namespace Go.Proofs
open Go.Dw Go.RowKit Go.Maps Go.Sort

theorem Tryz.zpX {w:World}:okAc0.ok w:=⟨by decide,by decide,by decide,by decide,by decide,by decide,by decide,SegV.none,by decide⟩
theorem Tryz.zp3 {W0:World} {X9 S P L Bs B M:Nat} {r:Rg} {av:Value} {acts:List Ac} {s:SS} {g:Nat→Int} {i:Nat} {steps pub:Int} {a:Act} {w:World} (h:LwI W0 X9 S P L Bs B M r av acts s g i steps pub a w) (hi:i<acts.length):
  (codeR prog [0,0,1,0,1,1,1,1,1,1,1,1,4]).wp prog (fun ex a' w'=>ex= .normal∧ ∃s' g' steps' pub',LwI W0 X9 S P L Bs B M r av acts s' g' (i+1) steps' pub' a' w') a w:=by
 have h0:0≤acts[i].k%7:=Int.emod_nonneg _ (by decide)
 have h1:acts[i].k%7<7:=Int.emod_lt_of_pos _ (by decide)
 by_cases k0:acts[i].k%7=0
 ·exact zoh h hi k0
 by_cases k1:acts[i].k%7=1
 ·exact zog h hi k1
 by_cases k2:acts[i].k%7=2
 ·exact zjR lm2_run lm2_ok h hi k2
 by_cases k3:acts[i].k%7=3
 ·exact zjR lm3_run lm3_ok h hi k3
 by_cases k4:acts[i].k%7=4
 ·exact zjQ lm4_run lm4_ok h hi k4
 by_cases k5:acts[i].k%7=5
 ·exact zjQ lm5_run lm5_ok h hi k5
 have k6:acts[i].k%7=6:=by omega
 by_cases z:acts[i].sl.length=0
 ·exact zmW h hi k6 z
 by_cases y:(acts[i].sl.length:Int)≤r.n
 ·exact zof h hi k6 y z
 ·exact zmX h hi k6 y z
theorem Tryz.zsp {W0:World} {X9 S P L Bs B M:Nat} {r:Rg} {av:Value} {acts:List Ac} {s:SS} {g:Nat→Int} {i:Nat} {steps pub:Int} {a:Act} {w:World} (h:LwI W0 X9 S P L Bs B M r av acts s g i steps pub a w) (hi:i=acts.length):
  (codeR prog [0,0,1,0,1,1,1,1,1,1,1,1,4]).wp prog (fun ex a' w'=>ex= .exit 0∧a'.tmps.size=237∧a'.defers= []∧Below W0.heap.size W0 w') a w:=by
 have hrg:=h.sw.srv.rg
 have h60:=h.n60.1
 obtain ⟨aa,c,rfl,hr0⟩:=h.aok.val
 have hcnt:=h.inv.cnt
 have hsi:(i:Int)<4000000:=by omega
 have D:=lmD (m:=⟨r,okAc0,acts.length,i,steps,pub,0,0,0,0,0,0,0,0,false,false,false,false,false,.pointer (some ⟨P,0,none⟩),.pointer (some ⟨S,0,none⟩),.slice aa acts.length c⟩) (w:=W0) hrg zpX ⟨by show (0:Int)≤i;omega,hsi⟩ ⟨by show (0:Int)≤acts.length;omega,by show (acts.length:Int)<_;omega⟩ ⟨by show (0:Int)≤0;decide,by show (0:Int)<4000000;decide⟩ ⟨by show (0:Int)≤0;decide,by show (0:Int)<4000000;decide⟩
 generalize (LmV.rho ⟨r,okAc0,acts.length,i,steps,pub,0,0,0,0,0,0,0,0,false,false,false,false,false,.pointer (some ⟨P,0,none⟩),.pointer (some ⟨S,0,none⟩),.slice aa acts.length c⟩)=ρ at D
 have hj1:jOf [(X9,0)] 1=some ⟨X9,0,0,none⟩:=rfl
 refine wp_mono (zam (ρ:=ρ) (K:=fun _=>False) (g:=Gho.none) (bl:= [(X9,0)]) mixed lme_run lme_ok (fun b h=>h.elim) ⟨zb1 h.row (by simp) (D.rg _) (fun h=>h),trivial⟩ ⟨fun h=>(by cases h),trivial⟩ zas trivial trivial trivial h.size h.dfr ?_ (told_cons_iff.2 ⟨by rw [zaz,D.d6,D.d7];exact decide_eq_false (by show¬(i:Int)<acts.length;omega),told_nil.2 trivial⟩)) fun ex a2 w2 hh=> ?_
 ·intro t ht
  simp only [lme_slots,zbA,List.mem_cons,List.not_mem_nil,or_false] at ht
  rcases ht with rfl|rfl|rfl|rfl|rfl|rfl|rfl|rfl|rfl
  ·rw [h.t0];exact zab D.sz
  ·rw [h.t2];exact ⟨D.v4.symm,_,_,_,rfl,D.d7.symm,trivial⟩
  ·rw [h.t7];exact zaD D.v0 rfl
  ·rw [h.t8];exact zaD D.v2 rfl
  ·rw [h.t9];exact ⟨_,hj1,rfl⟩
  ·rw [h.t13];exact zab D.d19
  ·rw [h.t14];exact zab D.i15
  ·rw [h.t15];exact zab D.i5
  ·rw [h.t16];exact zab D.d6
 ·obtain ⟨q,hq,hto,lf,hlf,rfl,hsz2,j2,hdf2,he⟩:=hh
  have hb3:=zag he (fun _ h=>h)
  unfold lme_ps at hq
  simp only [List.mem_cons,List.not_mem_nil,or_false] at hq
  subst hq
  cases hlf
  exact ⟨rfl,hsz2,hdf2,h.old.trans (hb3.mono h.old.size)⟩
end Go.Proofs
namespace Go.Proofs
open Go.Dw Go.RowKit Go.Maps Go.Sort Go.Deep

set_option maxRecDepth 100000 in
set_option maxHeartbeats 2000000 in
theorem Tryz.ends_walk (hlives: ∀w,Calls prog 6 #[] w fun e w'=>e= .returned (.bool true)∧Below w.heap.size w w') {w:World} {av:Value} {acts:List Ac} (hA:ActV w av acts) (size:Int) (ev tb pk:Bool):
    Calls prog 4 #[.int .i64 size,.agg #[.bool ev,.bool tb,.bool pk],av] w fun e w'=>e= .returned (.bool true)∧Below w.heap.size w w':=by
  obtain ⟨n,hn,hsh⟩: ∃n:Nat,(n=1∨n=2∨n=4∨n=8∨n=16)∧ ∃k:Nat,size%5=k∧k<5∧n=1<<<k:=by
    have h0:0≤size%5:=Int.emod_nonneg _ (by decide)
    have h1:size%5<5:=Int.emod_lt_of_pos _ (by decide)
    have h2:size%5=0∨size%5=1∨size%5=2∨size%5=3∨size%5=4:=by omega
    rcases h2 with h|h|h|h|h
    · exact ⟨1,by decide,0,h,by decide,rfl⟩
    · exact ⟨2,by decide,1,h,by decide,rfl⟩
    · exact ⟨4,by decide,2,h,by decide,rfl⟩
    · exact ⟨8,by decide,3,h,by decide,rfl⟩
    · exact ⟨16,by decide,4,h,by decide,rfl⟩
  obtain ⟨k,hk1,hk2,hk3⟩:=hsh
  have hA1: ∀w1:World,Below (w.alloc (Obj.cells #[Value.bool ev,Value.bool tb,Value.bool pk] 23)).heap.size (w.alloc (Obj.cells #[Value.bool ev,Value.bool tb,Value.bool pk] 23)) w1→ActV w1 av acts:=fun w1 hb=>ActV.below hA ((Below.alloc (Below.refl w.heap.size w) (Nat.le_refl _) _).trans (hb.mono (by simp)))
  go_enter func4,ntmps4
  have hwk:IntKind.wrap .u64 (k:Int)=k:=zay (by omega) (by omega)
  have hsh:wrap64 (2^k)=(n:Int):=by
    have:k=0∨k=1∨k=2∨k=3∨k=4:=by omega
    rcases this with rfl|rfl|rfl|rfl|rfl<;>(subst hk3;first|decide|decide+kernel|simp [wrap64])
  clear hk3
  have hparts:=znX n hn
  unfold rings at hparts
  go_wp2_with (first
    | (go_at_call 6;refine (hlives _).mono ?_;rintro e w1 ⟨rfl,hb1⟩
       have ka:=(Cl.new w _ _).below hb1 (by simp))
    | (go_at_call 23;refine (zok (hA1 _ hb1)).mono ?_;rintro e w2 ⟨b,rfl,hlt,hb2⟩
       replace ka:=ka.below hb2 ka.lt
       have x0:=ka.cell 0 _ rfl;have x1:=ka.cell 1 _ rfl;have x2:=ka.cell 2 _ rfl)
    | (go_at_call 7;refine (zdc size 5 (by decide) _).mono ?_;rintro e w3 ⟨rfl,rfl⟩
       rw [hk1]
       have f0:=ka.free 0;have f1:=ka.free 1;have f2:=ka.free 2)
    | (go_at_call 8;rw [hsh];refine (zkK hn ev tb _).mono ?_;rintro e w4 ⟨S,P,L,Bs,B,M,rfl,hsw,hb4,hS,hM,hB,hP,hL,hBs⟩
       unfold rings
       have kb:=Cl.new w4 #[.bool false,.int .i64 0,.int .u64 0,.int .u64 0,.int .u64 0] 32
       have y0:=kb.cell 0 _ rfl;have y1:=kb.cell 1 _ rfl;have y2:=kb.cell 2 _ rfl;have y3:=kb.cell 3 _ rfl;have y4:=kb.cell 4 _ rfl
       have g0:=kb.free 0;have g1:=kb.free 1;have g2:=kb.free 2;have g3:=kb.free 3;have g4:=kb.free 4)
    | (go_at_call 24;refine (hparts _).mono ?_;rintro e w5 ⟨rfl,hb5⟩)
    | go_in)
  · rename_i hb
    have hbl:=((Below.alloc (Below.refl w.heap.size w) (Nat.le_refl _) (Obj.cells #[Value.bool ev,Value.bool tb,Value.bool pk] 23)).trans (hb1.mono (by simp))).trans (hb2.mono (by have:=hb1.size;simp at this;omega))
    exact zc6 (fn:=f4) (Post:=fun e w'=>e= .returned (.bool true)∧RowKit.Below w.heap.size w w') rfl rfl rfl ⟨rfl,hbl⟩
  · rename_i K hK
    have hbt:b=true:=by cases b with|true=>rfl|false=>rename_i h;exact absurd h (by simp)
    have hbl3:Below w.heap.size w w3:=((Below.alloc (Below.refl w.heap.size w) (Nat.le_refl _) (Obj.cells #[Value.bool ev,Value.bool tb,Value.bool pk] 23)).trans (hb1.mono (by simp))).trans (hb2.mono (by have:=hb1.size;simp at this;omega))
    have hmv:=(Mv.refl (· =w.heap.size) w3).setCell w.heap.size 2 (.bool false) (.inl rfl)
    have hbl4:=hbl3.trans (hmv.below (base:=w.heap.size) (fun k hk=>by omega) hbl3.size)
    generalize w3.setCell ⟨w.heap.size,2,none⟩ (.bool false)=w3' at hbl4 hmv hb4 hS hM hB hP hL hBs
    have hs3:=hbl4.size
    have hs4:=hb4.size
    have hbl5:=hbl4.trans (hb4.mono hs3)
    have hrow:Row w5 ⟨w4.heap.size,0,0,none⟩ [.bool false,.int .i64 (zdx n).n,.int .u64 (zdx n).d,.int .u64 (zdx n).v,.int .u64 (zdx n).c]:=by
      refine ⟨_,_,_,(hb5.block _ (by simp)).trans (heap_alloc_last w4 _),fun i y hy=> ?_⟩
      rw [Nat.zero_add]
      have hy: [Value.bool false,Value.int IntKind.i64 n,Value.int IntKind.u64 4096,Value.int IntKind.u64 (drv n),Value.int IntKind.u64 (dvc n)][i]? =some y:=hy
      simpa using hy
    generalize hw6:w4.alloc (Obj.cells #[Value.bool false,Value.int IntKind.i64 n,Value.int IntKind.u64 4096,Value.int IntKind.u64 (drv n),Value.int IntKind.u64 (dvc n)] 32)=w6 at hb5
    have hbl6:Below w4.heap.size w4 w6:=hw6▸Below.alloc (Below.refl _ w4) (Nat.le_refl _) _
    have hb46:=hbl6.trans (hb5.mono hbl6.size)
    have hbl:=hbl5.trans (hb46.mono (by omega))
    have hs6:=hbl6.size
    have hs5:=hb5.size
    have e6:w6.heap.size=w4.heap.size+1:=by rw [←hw6];simp
    have k1:=hsw.srv.ltS
    have k2:=hsw.srv.ltM
    have k3:=hsw.mem.bl
    have k4:=hsw.mem.pl
    have k5:=hsw.mem.ll
    have k6:=hsw.mem.sl
    have hk: ∀b,b<w4.heap.size→w5.heap[b]? =w4.heap[b]? :=fun b hb=>hb46.block b hb
    have hsv:=(hsw.srv.kept (hk S k1) (hk M k2) (fun b hb _=>hk b hb)).fresh (A':=lwA w w4.heap.size S M B w5) ⟨by omega,.inr (.inr (.inl rfl))⟩ ⟨by omega,.inr (.inr (.inr (.inl rfl)))⟩
    have hI: ∀tmps:Array Value,tmps.size=237→(∀p∈ [(0,Value.int .i64 (zdx n).n),(2,av),(7,.pointer (some ⟨P,0,none⟩)),(8,.pointer (some ⟨S,0,none⟩)),(9,.pointer (some ⟨w4.heap.size,0,none⟩)),(13,.int .u64 (6+8*(zdx n).n)),(14,.int .i64 0),(15,.int .i64 0),(16,.int .i64 (0:Nat))],tmps.getD p.1 undef=p.2)→
        LwI w w4.heap.size S P L Bs B M (zdx n) av acts (SS.fresh ev tb) (fun _=>0) 0 0 0 ⟨tmps,[]⟩ w5:=fun tmps hz ht=>
      ⟨hz,rfl,ht (0,_) (by simp),ht (2,_) (by simp),ht (7,_) (by simp),ht (8,_) (by simp),ht (9,_) (by simp),ht (13,_) (by simp),ht (14,_) (by simp),ht (15,_) (by simp),ht (16,_) (by simp),hrow,
        ⟨hsv,hsw.mem.below hb46,hsw.hN,hsw.sd,hsw.md,⟨by omega,.inr (.inr (.inr (.inr rfl)))⟩,fun b hb=>hb.1,hsw.fit⟩,
        ⟨fun h=>(by cases h),.inl rfl,by decide,by decide,fun h=>absurd h (by show¬1≤0;decide),fun h=>absurd h (by show¬11≤0;decide),fun e he=>(by cases he),Int.le_refl 0⟩,⟨by decide,by decide⟩,hA,hbl,⟨by omega,by omega,by omega,by omega,by omega,by omega,by omega⟩,⟨by omega,by omega,by omega,by omega,by omega,by omega⟩,hlt hbt⟩
    refine zbu (c':= .loop (codeR prog [0,0,1,0,1,1,1,1,1,1,1,1,4])) (by kernel_rfl) ?_
    refine zbd (fun (i:Nat) a' w'=>i≤acts.length∧ ∃s g steps pub,LwI w w4.heap.size S P L Bs B M (zdx n) av acts s g i steps pub a' w') (fun i=>acts.length-i) (fun i a1 w1 hI=> ?_) 0 _ _ ⟨Nat.zero_le _,_,_,_,_,hI _ rfl ?_⟩
    · obtain ⟨hi,s,g,steps,pub,hL⟩:=hI
      by_cases hlt2:i<acts.length
      · refine wp_mono (zp3 hL hlt2) fun ex a2 w2 hh=> ?_
        obtain ⟨rfl,s',g',steps',pub',h2⟩:=hh
        exact ⟨i+1,by omega,by omega,s',g',steps',pub',h2⟩
      · refine wp_mono (zsp hL (by omega)) fun ex a2 w2 hh=> ?_
        obtain ⟨rfl,h2,h3,h4⟩:=hh
        show K a2 w2
        refine hK _ _ ?_
        obtain ⟨tmps,dfr⟩:=a2
        have h3:dfr= []:=h3
        have h2:tmps.size=237:=h2
        subst h3
        go_wp2_with fail
        refine zc6 (fn:=f4) (Post:=fun e w'=>e= .returned (.bool true)∧RowKit.Below w.heap.size w w') rfl rfl ?_ ⟨rfl,h4⟩
        simp [h2]
    · intro p hp
      simp only [List.mem_cons,List.not_mem_nil,or_false] at hp
      rcases hp with rfl|rfl|rfl|rfl|rfl|rfl|rfl|rfl|rfl<;>rfl
end Go.Proofs
namespace Go.Proofs
open Go.Dw Go.RowKit Go.Maps Go.Sort Go.Deep Go.ChangeShapes Go.WideShapes

section
variable {H:Type} {enc:TypeId×Value→H} {W:World} {sp:Nat→Bool} {held:Bool} {fuel:Nat}
theorem Tryz.zoi {α:Type} {p:Nat→α→Prop}: ∀n,(∀i,i<n→ ∃x,p i x)→ ∃l:List α,l.length=n∧ ∀(i:Nat) (hi:i<l.length),p i l[i]
 | 0,_=>⟨[],rfl,fun i hi=>absurd hi (Nat.not_lt_zero i)⟩
 | n+1,h=>by
  obtain ⟨l,hl,hp⟩:=zoi n fun i hi=>h i (by omega)
  obtain ⟨x,hx⟩:=h n (by omega)
  refine ⟨l++ [x],by simp [hl],fun i hi=> ?_⟩
  by_cases hlt:i<l.length
  ·rw [List.getElem_append_left hlt];exact hp i hlt
  ·have e:i=n:=by simp at hi;omega
   subst e
   simp only [List.getElem_append_right (by omega:l.length≤i),hl,Nat.sub_self,List.getElem_singleton]
   exact hx
theorem Tryz.addr_add (b o n:Nat):(⟨b,o,none⟩:Addr).add n=⟨b,o+n,none⟩:=by
 unfold Addr.add
 split
 ·rename_i h;rw [h];rfl
 ·rfl
theorem Tryz.zfq {α:Type} {l:List α} {i:Nat} (h:i<l.length):l[i]? =some l[i]:=List.getElem?_eq_getElem h
set_option maxRecDepth 100000 in
theorem Tryz.zpv {cs:List Value} {x:DataW H×List MemPlace} (h:DataW.trod enc prog W 0 sp held fuel 48 cs=some x): ∃s:Sg,cs=s.cells∧s.ok:=by
 obtain ⟨xs,n,rfl,rfl,hl,hx,hf⟩:=DataW.trod_struct underlying48 h
 have hl:cs.length=3:=hl.trans (by kernel_rfl)
 have hx:xs.length=3:=hx
 match cs,hl with
 | [c0,c1,c2],_=>
  have f0:DataW.trod enc prog W 0 sp held n 30 [c0]=xs[0]? :=by
   have:=(show DataW.trod enc prog W 0 sp held n 30 (([c0,c1,c2].drop 0).take (prog.cellsOf 30))=xs[0]? from hf 0 _ rfl)
   rw [show prog.cellsOf 30=1 from by kernel_rfl] at this
   exact this
  have f1:DataW.trod enc prog W 0 sp held n 46 [c1]=xs[1]? :=by
   have:=(show DataW.trod enc prog W 0 sp held n 46 (([c0,c1,c2].drop 1).take (prog.cellsOf 46))=xs[1]? from hf 1 _ rfl)
   rw [show prog.cellsOf 46=1 from by kernel_rfl] at this
   exact this
  have f2:DataW.trod enc prog W 0 sp held n 4 [c2]=xs[2]? :=by
   have:=(show DataW.trod enc prog W 0 sp held n 4 (([c0,c1,c2].drop 2).take (prog.cellsOf 4))=xs[2]? from hf 2 _ rfl)
   rw [show prog.cellsOf 4=1 from by kernel_rfl] at this
   exact this
  rw [zfq (by omega)] at f0 f1 f2
  obtain ⟨n0,e0,_,w0⟩:=DataW.trod_int underlying30 f0
  obtain ⟨n1,e1,_,w1⟩:=DataW.trod_int underlying46 f1
  obtain ⟨b,e2,_⟩:=DataW.trod_bool underlying4 f2
  simp only [List.cons.injEq,and_true] at e0 e1 e2
  subst e0 e1 e2
  have b0:=bounds_u64 w0
  have b1:=bounds_u32 w1
  exact ⟨⟨n0,n1,b⟩,rfl,by show 0≤n0;omega,by show n0<_;omega,by show 0≤n1;omega,by show n1<_;omega⟩
theorem Tryz.zhP {R:Nat}: ∀ {l:List Sg} {o:Nat},(∀(i:Nat) (hi:i<l.length),W.rangeAt R (o+3*i) l[i].cells)→W.rangeAt R o (zaA l)
 | [], o,_=>fun j v hv=>by simp [zaA] at hv
 | x::r,o,h=>fun j v hv=>by
  have h0:=h 0 (by simp)
  have hr:=zhP (R:=R) (l:=r) (o:=o+3) fun i hi=>by
   have:=h (i+1) (by simpa using hi)
   rw [show o+3*(i+1)=o+3+3*i by omega] at this
   simpa using this
  have hv:(x.cells++zaA r)[j]? =some v:=hv
  by_cases hj:j<3
  ·rw [List.getElem?_append_left (by simpa [Sg.cells] using hj)] at hv
   exact h0 j v hv
  ·rw [List.getElem?_append_right (by simp [Sg.cells];omega)] at hv
   have:=hr (j-3) v hv
   rw [show o+3+(j-3)=o+j by omega] at this
   exact this
set_option maxRecDepth 100000 in
theorem Tryz.znF {v:Value} {x:DataW H×List MemPlace} (h:DataW.trod enc prog W 0 sp held fuel 36 [v]=some x) (hw: ∀n∈x.1.weights prog 36,n≤reachBytes):
  ∃ l,SegV (fun _=>False) W v l∧l.length<4000000000000000:=by
 rcases DataW.trod_slice underlying36 h with ⟨e,_⟩|⟨a,len,cap,elems,rest,n,rfl,e,rfl,_,hlc,hcap,hel,hc,_⟩
 ·simp only [List.cons.injEq,and_true] at e
  subst e
  exact ⟨[],SegV.none,by decide⟩
 ·simp only [List.cons.injEq,and_true] at e
  subst e
  have hb:prog.bytesOf 48=16:=by kernel_rfl
  have hsz:=hw ((elems.length+rest.length)*16) (by
   unfold DataW.weights
   rw [underlying36]
   simp [hb])
  unfold reachBytes at hsz
  obtain ⟨l,hll,hl⟩:=zoi (p:=fun i (s:Sg)=>W.cells? 0 (a.add (i*3)) 3=some s.cells∧s.ok) len fun i hi=>by
   have:=hc i hi
   rw [zfq (by omega)] at this
   obtain ⟨cs,h1,h2⟩:=Option.bind_eq_some_iff.1 this
   obtain ⟨s,rfl,hs⟩:=zpv h2
   exact ⟨s,h1,hs⟩
  subst hll
  refine ⟨l,⟨some a,cap,rfl,fun s hs=> ?_,?_⟩,by omega⟩
  ·obtain ⟨i,hi,rfl⟩:=List.mem_iff_getElem.1 hs
   exact (hl i hi).2
  ·by_cases h0:l= []
   ·exact .inl h0
   ·right
    obtain ⟨ab,ao,aq⟩:=a
    have hp:0<l.length:=List.length_pos_iff.2 h0
    have hs:aq=none:=cell_spot ((World.cells?_some (hl 0 hp).1).2.2 0 (by decide))
    subst hs
    refine ⟨ab,ao,rfl,fun h=>h,zhP fun i hi j y hy=> ?_⟩
    have hj:j<3:=by
     have:=List.getElem?_eq_some_iff.1 hy
     simpa [Sg.cells] using this.1
    have:=(World.cells?_some (hl i hi).1).2.2 j hj
    rw [hy,addr_add,addr_add] at this
    rw [show ao+3*i+j=ao+i*3+j by omega]
    exact this
end
end Go.Proofs
namespace Go.Proofs
open Go.Dw Go.RowKit Go.Maps Go.Sort Go.Deep Go.ChangeShapes Go.WideShapes

section
variable {H:Type} {enc:TypeId×Value→H} {W:World} {sp:Nat→Bool} {held:Bool} {fuel:Nat}
set_option maxRecDepth 100000 in
theorem Tryz.zoN {cs:List Value} {x:DataW H×List MemPlace} (h:DataW.trod enc prog W 0 sp held fuel 74 cs=some x): ∃a l f y:Int,cs= [.int .u64 a,.int .u32 l,.int .u16 f,.int .u16 y]∧(0≤a∧a<18446744073709551616)∧(0≤l∧l<4294967296)∧(0≤f∧f<65536)∧(0≤y∧y<65536):=by
 obtain ⟨xs,n,rfl,rfl,hl,hx,hf⟩:=DataW.trod_struct underlying74 h
 have hl:cs.length=4:=hl.trans (by kernel_rfl)
 have hx:xs.length=4:=hx
 match cs,hl with
 | [c0,c1,c2,c3],_=>
  have f0:DataW.trod enc prog W 0 sp held n 30 [c0]=xs[0]? :=by
   have:=(show DataW.trod enc prog W 0 sp held n 30 (([c0,c1,c2,c3].drop 0).take (prog.cellsOf 30))=xs[0]? from hf 0 _ rfl)
   rw [show prog.cellsOf 30=1 from by kernel_rfl] at this
   exact this
  have f1:DataW.trod enc prog W 0 sp held n 46 [c1]=xs[1]? :=by
   have:=(show DataW.trod enc prog W 0 sp held n 46 (([c0,c1,c2,c3].drop 1).take (prog.cellsOf 46))=xs[1]? from hf 1 _ rfl)
   rw [show prog.cellsOf 46=1 from by kernel_rfl] at this
   exact this
  have f2:DataW.trod enc prog W 0 sp held n 72 [c2]=xs[2]? :=by
   have:=(show DataW.trod enc prog W 0 sp held n 72 (([c0,c1,c2,c3].drop 2).take (prog.cellsOf 72))=xs[2]? from hf 2 _ rfl)
   rw [show prog.cellsOf 72=1 from by kernel_rfl] at this
   exact this
  have f3:DataW.trod enc prog W 0 sp held n 72 [c3]=xs[3]? :=by
   have:=(show DataW.trod enc prog W 0 sp held n 72 (([c0,c1,c2,c3].drop 3).take (prog.cellsOf 72))=xs[3]? from hf 3 _ rfl)
   rw [show prog.cellsOf 72=1 from by kernel_rfl] at this
   exact this
  rw [zfq (by omega)] at f0 f1 f2 f3
  obtain ⟨n0,e0,_,w0⟩:=DataW.trod_int underlying30 f0
  obtain ⟨n1,e1,_,w1⟩:=DataW.trod_int underlying46 f1
  obtain ⟨n2,e2,_,w2⟩:=DataW.trod_int underlying72 f2
  obtain ⟨n3,e3,_,w3⟩:=DataW.trod_int underlying72 f3
  simp only [List.cons.injEq,and_true] at e0 e1 e2 e3
  subst e0 e1 e2 e3
  have b0:=bounds_u64 w0
  have b1:=bounds_u32 w1
  have b2:=bounds_u16 w2
  have b3:=bounds_u16 w3
  exact ⟨n0,n1,n2,n3,rfl,by omega,by omega,by omega,by omega⟩
set_option maxRecDepth 100000 in
theorem Tryz.zqw {cs:List Value} {x:DataW H×List MemPlace} (h:DataW.trod enc prog W 0 sp held fuel 76 cs=some x) (hw: ∀n∈x.1.weights prog 76,n≤reachBytes): ∃c:Ac,cs=c.cells∧c.ok W:=by
 obtain ⟨xs,n,rfl,rfl,hl,hx,hf⟩:=DataW.trod_struct underlying76 h
 have hl:cs.length=8:=hl.trans (by kernel_rfl)
 have hx:xs.length=5:=hx
 match cs,hl with
 | [c0,c1,c2,c3,c4,c5,c6,c7],_=>
  have f0:DataW.trod enc prog W 0 sp held n 3 [c0]=xs[0]? :=by
   have:=(show DataW.trod enc prog W 0 sp held n 3 (([c0,c1,c2,c3,c4,c5,c6,c7].drop 0).take (prog.cellsOf 3))=xs[0]? from hf 0 _ rfl)
   rw [show prog.cellsOf 3=1 from by kernel_rfl] at this
   exact this
  have f1:DataW.trod enc prog W 0 sp held n 3 [c1]=xs[1]? :=by
   have:=(show DataW.trod enc prog W 0 sp held n 3 (([c0,c1,c2,c3,c4,c5,c6,c7].drop 1).take (prog.cellsOf 3))=xs[1]? from hf 1 _ rfl)
   rw [show prog.cellsOf 3=1 from by kernel_rfl] at this
   exact this
  have f2:DataW.trod enc prog W 0 sp held n 46 [c2]=xs[2]? :=by
   have:=(show DataW.trod enc prog W 0 sp held n 46 (([c0,c1,c2,c3,c4,c5,c6,c7].drop 2).take (prog.cellsOf 46))=xs[2]? from hf 2 _ rfl)
   rw [show prog.cellsOf 46=1 from by kernel_rfl] at this
   exact this
  have f3:DataW.trod enc prog W 0 sp held n 74 [c3,c4,c5,c6]=xs[3]? :=by
   have:=(show DataW.trod enc prog W 0 sp held n 74 (([c0,c1,c2,c3,c4,c5,c6,c7].drop 3).take (prog.cellsOf 74))=xs[3]? from hf 3 _ rfl)
   rw [show prog.cellsOf 74=4 from by kernel_rfl] at this
   exact this
  have f4:DataW.trod enc prog W 0 sp held n 36 [c7]=xs[4]? :=by
   have:=(show DataW.trod enc prog W 0 sp held n 36 (([c0,c1,c2,c3,c4,c5,c6,c7].drop 7).take (prog.cellsOf 36))=xs[4]? from hf 4 _ rfl)
   rw [show prog.cellsOf 36=1 from by kernel_rfl] at this
   exact this
  rw [zfq (by omega)] at f0 f1 f2 f3 f4
  obtain ⟨n0,e0,_,w0⟩:=DataW.trod_int underlying3 f0
  obtain ⟨n1,e1,_,w1⟩:=DataW.trod_int underlying3 f1
  obtain ⟨n2,e2,_,w2⟩:=DataW.trod_int underlying46 f2
  obtain ⟨a,l,f,y,e3,ha,hl2,hf2,hy⟩:=zoN f3
  obtain ⟨sl,hsl,hsn⟩:=znF f4 fun m hm=>hw m (by
   unfold DataW.weights
   rw [underlying76]
   exact DataW.weights_mem_each (j:=4) (t:=36) (d:=xs[4].1) rfl (by rw [List.getElem?_map,zfq (by omega)];rfl) m hm)
  simp only [List.cons.injEq,and_true] at e0 e1 e2 e3
  obtain ⟨e3,e4,e5,e6⟩:=e3
  subst e0 e1 e2 e3 e4 e5 e6
  have b0:=bounds_i64 w0
  have b1:=bounds_i64 w1
  have b2:=bounds_u32 w2
  exact ⟨⟨n0,n1,n2,a,l,f,y,c7,sl⟩,rfl,⟨by show _≤n0;omega,by show n0<_;omega⟩,⟨by show _≤n1;omega,by show n1<_;omega⟩,⟨by show 0≤n2;omega,by show n2<_;omega⟩,ha,hl2,hf2,hy,hsl,hsn⟩
theorem Tryz.zgv {e:TypeId}: ∀ {l:List (DataW H)} {d:DataW H},d∈l→ ∀n∈d.weights prog e,n∈DataW.weightsAll prog e l
 | x::r,d,h,n,hn=>by
  unfold DataW.weightsAll
  rcases List.mem_cons.1 h with rfl|h
  ·exact List.mem_append_left _ hn
  ·exact List.mem_append_right _ (zgv h n hn)
set_option maxRecDepth 100000 in
theorem Tryz.acts_open {v:Value} {x:DataW H×List MemPlace} (h:DataW.trod enc prog W 0 sp held fuel 68 [v]=some x) (hw: ∀n∈x.1.weights prog 68,n≤reachBytes):
  ∃ l,ActV W v l:=by
 rcases DataW.trod_slice underlying68 h with ⟨e,_⟩|⟨a,len,cap,elems,rest,n,rfl,e,rfl,_,hlc,hcap,hel,hc,_⟩
 ·simp only [List.cons.injEq,and_true] at e
  subst e
  exact ⟨[],⟨⟨none,0,rfl,.inl rfl⟩,fun x hx=>(by cases hx),by decide⟩⟩
 ·simp only [List.cons.injEq,and_true] at e
  subst e
  have hb:prog.bytesOf 76=64:=by kernel_rfl
  have hc8:prog.cellsOf 76=8:=by kernel_rfl
  have hws: ∀m,(m=(elems.length+rest.length)*64∨m∈DataW.weightsAll prog 76 (elems.map (·.1)))→m≤reachBytes:=fun m hm=>hw m (by
   unfold DataW.weights
   rw [underlying68]
   simp only [List.length_map,hb,List.mem_cons,List.mem_append]
   rcases hm with hm|hm
   ·exact .inl hm
   ·exact .inr (.inl hm))
  have hsz:=hws _ (.inl rfl)
  unfold reachBytes at hsz
  rw [hc8] at hc
  obtain ⟨l,hll,hl⟩:=zoi (p:=fun i (s:Ac)=>W.cells? 0 (a.add (i*8)) 8=some s.cells∧s.ok W) len fun i hi=>by
   have:=hc i hi
   rw [zfq (by omega)] at this
   obtain ⟨cs,h1,h2⟩:=Option.bind_eq_some_iff.1 this
   obtain ⟨s,rfl,hs⟩:=zqw h2 fun m hm=>hws m (.inr (zgv (List.mem_map.2 ⟨_,List.getElem_mem _,rfl⟩) m hm))
   exact ⟨s,h1,hs⟩
  subst hll
  refine ⟨l,⟨⟨some a,cap,rfl,?_⟩,fun s hs=> ?_,by omega⟩⟩
  ·by_cases h0:l= []
   ·exact .inl h0
   ·right
    obtain ⟨ab,ao,aq⟩:=a
    have hp:0<l.length:=List.length_pos_iff.2 h0
    have hs:aq=none:=cell_spot ((World.cells?_some (hl 0 hp).1).2.2 0 (by decide))
    subst hs
    refine ⟨ab,ao,rfl,fun i hi j y hy=> ?_⟩
    have hj:j<8:=by
     have:=List.getElem?_eq_some_iff.1 hy
     simpa [Ac.cells] using this.1
    have:=(World.cells?_some (hl i hi).1).2.2 j hj
    rw [hy,addr_add,addr_add] at this
    rw [show ao+8*i+j=ao+i*8+j by omega]
    exact this
  ·obtain ⟨i,hi,rfl⟩:=List.mem_iff_getElem.1 hs
   exact (hl i hi).2
end
end Go.Proofs
namespace Go.Proofs.YtpogddachhjgaaaGreat
theorem livesGood6:(Dw.ev Tryz.prog (Dw.zeN 58 [87]) 100000000 (.call 6 [] Dw.heap0 Dw.isTrue)).good=true:=by kernel_rfl
theorem lives6:Dw.TrueOk Tryz.prog 6:=Dw.zmC (by kernel_rfl) (fun w=>Tryz.zq4) livesGood6
end Go.Proofs.YtpogddachhjgaaaGreat
namespace Go.Proofs.YtpogddachhjgaaaGreat
theorem mayEnterAll:Tryz.pinned.checked.prog.mayEnter=true:=by kernel_rfl
end Go.Proofs.YtpogddachhjgaaaGreat
namespace Go.Proofs.YtpogddachhjgaaaGreat.sserveEnds
open Go.ChangeShapes Go.WideShapes Go.ChangeAt Go.RowKit
theorem closedFacts:joinedFacts Tryz.pinned.checked.prog 4 Tryz.f4 Rows.sserveEndsSpec Rows.sserveEndsRow=true:=by
 unfold joinedFacts
 rw [mayEnterAll]
 kernel_rfl
end Go.Proofs.YtpogddachhjgaaaGreat.sserveEnds
end
