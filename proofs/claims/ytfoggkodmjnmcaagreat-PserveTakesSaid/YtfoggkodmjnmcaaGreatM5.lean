/-
  Proved: laws on the way to 'PserveTakesProof' (texts PsS PsT PsU PsX PsY PtA0 PtA PtB PtC PtD PsV PsW PtE0 PtE PtF PtG PtH PtI PtJ PtK PtL PtM PtN PuB PvA PvB PuA0 PuA PuC PvC PuD PuE PuF PuG PuH PuI PuI2 PvD PvE PvF XcR XcM XcI XcJ XcK XcL XcN XcO XcS XcT XcU XcV XcW XcX XcY XcZ XdA XdB0 XdB XdC XdD PvH PvG PvI PvJ0 PvJ PvK XbI XbK XbM XbN XbF XbG XbE XbO XbP); no condition.
-/
import Derived.Test.YtfoggkodmjnmcaaGreatM4
import Derived.Deep.RegionWith
import Derived.Deep.RegionHeld3
set_option linter.unusedSimpArgs false
set_option linter.unusedVariables false
set_option maxHeartbeats 4000000
noncomputable section
namespace Go.Proofs
open Go.Dw Go.RowKit Go.Maps Go.Sort
theorem Tryz.zDS (M:Nat) (w:World):(binOp .neq 117 (.map (some M)) (.map none)).run prog w= .ok (.bool true) w:=by
 rw [run_neq_map_nil w 117 3 122 (some M) underlying117]
 rfl
section
variable {A:Nat→Prop} {w:World} {S P L Bs B M N:Nat} {r:Tryz.Rg} {s:Tryz.PS} {g:Nat→Int}
set_option maxRecDepth 100000 in
theorem Tryz.zgA (h:PW A w S P L Bs B M N r s g):Calls prog 56 #[.pointer (some ⟨S,0,none⟩)] w fun e w'=>e= .returned (.bool true)∧w'=w:=by
 obtain ⟨sv,ho,hsv⟩:=h.obj
 have c1:=zbc ho (i:=13) rfl
 have hq:=zDS M
 clear ho
 go_enter func56,ntmps56
 go_wp2
 go_ret
 exact ⟨rfl,rfl⟩
set_option maxRecDepth 100000 in
theorem Tryz.zEn (h:PW A w S P L Bs B M N r s g):Calls prog 28 #[.pointer (some ⟨S,0,none⟩)] w fun e w'=>e= .returned (.int .i64 (if s.br then 4 else 0))∧w'=w:=by
  have hm:=zgA h
  obtain ⟨sv,ho,hsv⟩:=h.obj
  have c1:=zbc ho (i:=23) rfl
  clear ho
  cases hb:s.br<;>rw [hb] at c1
  all_goals
    go_enter func28,ntmps28
    go_wp2_with (first
      | (go_at_call 56;refine hm.mono ?_;rintro e w' ⟨rfl,hw⟩;have hw:=hw.symm;subst hw)
      | go_in)
    go_ret
    exact ⟨rfl,rfl⟩
set_option maxRecDepth 100000 in
theorem Tryz.zkJ (h:PW A w S P L Bs B M N r s g):Calls prog 26 #[.pointer (some ⟨S,0,none⟩)] w fun e w'=>e= .returned (.bool (decide (s.ph≠0)))∧w'=w:=by
  have hm:=zgA h
  obtain ⟨sv,ho,hsv⟩:=h.obj
  have c1:=zbc ho (i:=15) rfl
  clear ho
  by_cases h0:s.ph=0
  · rw [decide_eq_false (fun hh=>hh h0)]
    rw [h0] at c1
    go_enter func26,ntmps26
    go_wp2_with (first
      | (go_at_call 56;refine hm.mono ?_;rintro e w' ⟨rfl,hw⟩;have hw:=hw.symm;subst hw)
      | go_in)
    go_ret
    exact ⟨rfl,rfl⟩
  · rw [decide_eq_true h0]
    have hne:((s.ph:Int) !=0)=true:=by rw [bne_iff_ne];omega
    go_enter func26,ntmps26
    go_wp2_with (first
      | (go_at_call 56;refine hm.mono ?_;rintro e w' ⟨rfl,hw⟩;have hw:=hw.symm;subst hw)
      | go_in)
    go_ret
    exact ⟨rfl,rfl⟩
set_option maxRecDepth 100000 in
theorem Tryz.zlz (h:PW A w S P L Bs B M N r s g) (hnr:s.br=true∨s.ph≠0):Calls prog 55 #[.pointer (some ⟨S,0,none⟩)] w fun e w'=>e= .returned (.int .i64 (if s.br then 4 else 8))∧w'=w:=by
  have he:=zEn h
  have hi:=zkJ h
  cases hb:s.br with
  | true=>
    rw [hb,if_pos rfl] at he
    go_enter func55,ntmps55
    go_wp2_with (first
      | (go_at_call 28;refine he.mono ?_;rintro e w' ⟨rfl,hw⟩;have hw:=hw.symm;subst hw)
      | go_in)
    go_ret
    exact ⟨rfl,rfl⟩
  | false=>
    rw [hb,if_neg (by decide)] at he
    have h0:s.ph≠0:=hnr.resolve_left (by rw [hb];decide)
    rw [decide_eq_true h0] at hi
    go_enter func55,ntmps55
    go_wp2_with (first
      | (go_at_call 28;refine he.mono ?_;rintro e w' ⟨rfl,hw⟩;have hw:=hw.symm;subst hw)
      | (go_at_call 26;refine hi.mono ?_;rintro e w' ⟨rfl,hw⟩;have hw:=hw.symm;subst hw)
      | go_in)
    go_ret
    exact ⟨rfl,rfl⟩
set_option maxRecDepth 100000 in
theorem Tryz.zDD (h:PW A w S P L Bs B M N r s g) (hnr:s.br=true∨s.ph≠0):Calls prog 12 #[.pointer (some ⟨S,0,none⟩)] w fun e w'=>e= .returned (.int .i64 (if s.br then 4 else 8))∧w'=w:=by
  have he:=zlz h hnr
  cases hb:s.br<;>rw [hb] at he
  all_goals
    simp only [if_true,Bool.false_eq_true,if_false] at he
    go_enter func12,ntmps12
    go_wp2_with (first
      | (go_at_call 55;refine he.mono ?_;rintro e w' ⟨rfl,hw⟩;have hw:=hw.symm;subst hw)
      | go_in)
    go_ret
    exact ⟨rfl,rfl⟩
set_option maxRecDepth 100000 in
theorem Tryz.zHh (h:PW A w S P L Bs B M N r s g) (hnr:s.br=true∨s.ph≠0) (hd wr:Int):Calls prog 16 #[.pointer (some ⟨S,0,none⟩),.int .i64 hd,.int .u32 wr] w fun e w'=>e= .returned (.int .i64 (if s.br then 4 else 8))∧w'=w:=by
  have he:=zlz h hnr
  cases hb:s.br<;>rw [hb] at he
  all_goals
    simp only [if_true,Bool.false_eq_true,if_false] at he
    go_enter func16,ntmps16
    go_wp2_with (first
      | (go_at_call 55;refine he.mono ?_;rintro e w' ⟨rfl,hw⟩;have hw:=hw.symm;subst hw)
      | go_in)
    go_ret
    exact ⟨rfl,rfl⟩
theorem Tryz.PW.same (h:PW A w S P L Bs B M N r s g) {w':World} (hm:Dw.Mv (fun b=>b=S∨b=M) w w') (ho: ∃sv,Own w' S (s.row r P M sv)∧SegV A w' sv s.sg) (hM: ∃arr clock arr0 clock0,w'.heap[M]? =some (.map arr clock)∧w.heap[M]? =some (.map arr0 clock0)∧(zdA arr∧Born arr clock)∧ ∀k,zbm arr k=zbm arr0 k):PW A w' S P L Bs B M N r s g:=by
 have hmv:Dw.Mv (sK S M B) w w':=hm.mono fun b hb=>hb.imp_right .inl
 have hgm:=h.mem.kept (fun k hk hk'=>hm.block k hk (h.kmem k hk')) hm.size
 exact h.next hmv hgm ho (h.tk.same (h.kA hmv) hM) h.pb
theorem Tryz.zw4 (h:PW A w S P L Bs B M N r s g) (hb:s.br=false) (hp:s.ph=0):
  Calls prog 27 #[.pointer (some ⟨S,0,none⟩)] w fun e w'=>e= .returned (.tuple #[.agg #[.int .i64 0,.int .i64 0,.int .i64 0],.int .i64 8])∧PW A w' S P L Bs B M N r s g∧Dw.Mv (sK S M B) w w':=by
 obtain ⟨sv,ho,hsv⟩:=h.obj
 have hd:=zbf h.rg h.pb (by rw [h.pb.ou.1];exact zbh h.tk.rng) [] [] (vp P) sv undef
 generalize prho r s [] [] (vp P) sv undef=ρ at*
 have hj2:jOf [(S,0),(M,0)] 2=some ⟨M,0,0,none⟩:=rfl
 have hj1:jOf [(S,0),(M,0)] 1=some ⟨S,0,0,none⟩:=rfl
 refine Calls.mono (zaD (ρ:=ρ) (K:=fun b=>b=S∨b=M) (g:=Gho.none) (bl:= [(S,0),(M,0)]) (vals:= [.pointer (some ⟨S,0,none⟩)]) mixed zw6 zzN (fun b hb=>h.kold b (hb.imp_right .inl))
  ⟨za6 ho (zcd hd hb (by rw [hp];rfl) hsv.one hj2) (.inl rfl),zco h.tk (.inr rfl),trivial⟩ h.apart zaO trivial (zab (zcj hj1) RL.nil) (zae.2 trivial)) fun e w' hh=> ?_
 obtain ⟨_,j,he⟩:=zcr hh
 have hj1':=he.sub _ _ hj1
 have hj2':=he.sub _ _ hj2
 have lc1:=zag hj1'
 have lc2:=zag hj2'
 have hO:=(he.rows.1 _ hj1').2 (.inr (.inl rfl)) rfl
 have hM:=he.maps.1 _ hj2'
 simp only [AV.val,AV.valL,lc1,lc2,hd.n,hd.d,hd.v,hd.c,hd.nx,hd.us,hd.hd,hd.wr,hd.ou,hd.p,hd.sv,zaM,zad,zaA,zbN,hd.op,hd.b0,hd.b1,hd.b2,hd.b3,hd.b4,hd.b5,hd.b6] at hO
 have hO':Own w' S (s.row r P M sv):=by
  unfold PS.row
  rw [hb,hp]
  exact hO
 have hkA: ∀k,k<w.heap.size→ ¬A k→w'.heap[k]? =w.heap[k]? :=fun k hk ha=>he.mv.block k hk (by rintro (rfl|rfl);exact ha h.aS;exact ha h.aM)
 exact ⟨he.ret,h.same he.mv ⟨_,hO',hsv.kept hkA⟩ hM,he.mv.mono fun b hb=>hb.imp_right .inl⟩
theorem Tryz.zpx (h:PW A w S P L Bs B M N r s g) (hb:s.br=true):
  Calls prog 27 #[.pointer (some ⟨S,0,none⟩)] w fun e w'=>e= .returned (.tuple #[.agg #[.int .i64 0,.int .i64 0,.int .i64 0],.int .i64 4])∧PW A w' S P L Bs B M N r s g∧Dw.Mv (sK S M B) w w':=by
 obtain ⟨sv,ho,hsv⟩:=h.obj
 have hd:=zbf h.rg h.pb (by rw [h.pb.ou.1];exact zbh h.tk.rng) [0,0,0,0,0,0,0,0,0,0,s.ph] [] (vp P) sv undef
 have hph:(prho r s [0,0,0,0,0,0,0,0,0,0,s.ph] [] (vp P) sv undef).i 20=s.ph:=rfl
 generalize prho r s [0,0,0,0,0,0,0,0,0,0,s.ph] [] (vp P) sv undef=ρ at*
 have hj2:jOf [(S,0),(M,0)] 2=some ⟨M,0,0,none⟩:=rfl
 have hj1:jOf [(S,0),(M,0)] 1=some ⟨S,0,0,none⟩:=rfl
 have hrow:RL ρ (jOf [(S,0),(M,0)]) (zJv (.var 20) (.lit true)) (s.row r P M sv):=by
  refine zab (za5 hd.p rfl) (zab (zap rfl) (zab (zac hd.n) (zab (zac hd.d) (zab (zac hd.v) (zab (zac hd.c) (zab (zap hd.b0) (zab (zap hd.b1) (zab (zap rfl) (zab (zac hd.nx) (zab (zap hd.b2) (zab (zac hd.us) (zab (zap hd.b6) (zab (zKk hj2) (zab (zac hd.ou) (zab (zac hph)
   (zab (zac hd.op) (zab (zap hd.b3) (zab (zac hd.hd) (zab (za5 hd.sv hsv.one) (zab (zac hd.wr) (zab (zap hd.b4) (zab (zap hd.b5) (zab (zap ?_) RL.nil)))))))))))))))))))))))
  exact hb.symm
 refine Calls.mono (zaD (ρ:=ρ) (K:=fun b=>b=S∨b=M) (g:=Gho.none) (bl:= [(S,0),(M,0)]) (vals:= [.pointer (some ⟨S,0,none⟩)]) mixed zw8 zzP (fun b hb=>h.kold b (hb.imp_right .inl))
  ⟨za6 ho hrow (.inl rfl),zco h.tk (.inr rfl),trivial⟩ h.apart zaO trivial (zab (zcj hj1) RL.nil) (zae.2 trivial)) fun e w' hh=> ?_
 obtain ⟨_,j,he⟩:=zcr hh
 have hj1':=he.sub _ _ hj1
 have hj2':=he.sub _ _ hj2
 have lc1:=zag hj1'
 have lc2:=zag hj2'
 have hO:=(he.rows.1 _ hj1').2 (.inr (.inl rfl)) rfl
 have hM:=he.maps.1 _ hj2'
 simp only [AV.val,AV.valL,lc1,lc2,hd.n,hd.d,hd.v,hd.c,hd.nx,hd.us,hd.hd,hd.wr,hd.ou,hd.p,hd.sv,zaM,zad,zaA,zbN,hd.op,hd.b0,hd.b1,hd.b2,hd.b3,hd.b4,hd.b5,hd.b6] at hO
 have hO':Own w' S (s.row r P M sv):=by
  rw [hph] at hO
  unfold PS.row
  rw [hb]
  exact hO
 have hkA: ∀k,k<w.heap.size→ ¬A k→w'.heap[k]? =w.heap[k]? :=fun k hk ha=>he.mv.block k hk (by rintro (rfl|rfl);exact ha h.aS;exact ha h.aM)
 exact ⟨he.ret,h.same he.mv ⟨_,hO',hsv.kept hkA⟩ hM,he.mv.mono fun b hb=>hb.imp_right .inl⟩
theorem Tryz.zpI (h:PW A w S P L Bs B M N r s g):
  Calls prog 12 #[.pointer (some ⟨S,0,none⟩)] w fun e w'=>e= .returned (.int .i64 (zck s).1)∧PW A w' S P L Bs B M N r (zck s).2 g∧Dw.Mv (sK S M B) w w':=by
 by_cases hno:s.br=true∨s.ph≠0
 ·have e:zck s=((if s.br=true then 4 else 8),s):=by
   unfold zck
   by_cases hb:s.br=true
   ·rw [if_pos hb,if_pos hb]
   ·rw [if_neg hb,if_neg hb,if_pos (hno.resolve_left hb)]
  rw [e]
  exact (zDD h hno).mono fun en w' hh=>⟨hh.1,hh.2▸h,hh.2▸Dw.Mv.refl _ _⟩
 have hb:s.br=false:=by
  cases hb:s.br with
  | false=>rfl
  | true=>exact absurd (.inl hb) hno
 have hp:s.ph=0:=Decidable.byContradiction fun hp=>hno (.inr hp)
 have e:zck s=(0,({ s with op:=3,nn:=false,hd:=0,sg:= [],wr:=0,it:=false }:PS).goto 1):=by
  unfold zck;rw [if_neg (by rw [hb];decide),if_neg (fun hh=>hh hp)]
 rw [e]
 obtain ⟨sv,ho,hsv⟩:=h.obj
 have hd:=zbf h.rg h.pb (by rw [h.pb.ou.1];exact zbh h.tk.rng) [] [] (vp P) sv undef
 generalize prho r s [] [] (vp P) sv undef=ρ at*
 have hj2:jOf [(S,0),(M,0)] 2=some ⟨M,0,0,none⟩:=rfl
 have hj1:jOf [(S,0),(M,0)] 1=some ⟨S,0,0,none⟩:=rfl
 refine Calls.mono (zaD (ρ:=ρ) (K:=fun b=>b=S∨b=M) (g:=Gho.none) (bl:= [(S,0),(M,0)]) (vals:= [.pointer (some ⟨S,0,none⟩)]) mixed zxc zz0 (fun b hb=>h.kold b (hb.imp_right .inl))
  ⟨za6 ho (zcd hd hb (by rw [hp];rfl) hsv.one hj2) (.inl rfl),zco h.tk (.inr rfl),trivial⟩ h.apart zaO trivial (zab (zcj hj1) RL.nil) (zae.2 trivial)) fun e w' hh=> ?_
 obtain ⟨_,j,he⟩:=zcr hh
 have hj1':=he.sub _ _ hj1
 have hj2':=he.sub _ _ hj2
 have lc1:=zag hj1'
 have lc2:=zag hj2'
 have hO:=(he.rows.1 _ hj1').2 (.inr (.inl rfl)) rfl
 have hM:=he.maps.1 _ hj2'
 simp only [AV.val,AV.valL,lc1,lc2,hd.n,hd.d,hd.v,hd.c,hd.nx,hd.us,hd.hd,hd.wr,hd.ou,hd.p,hd.sv,zaM,zad,zaA,zbN,hd.op,hd.b0,hd.b1,hd.b2,hd.b3,hd.b4,hd.b5,hd.b6] at hO
 have hmv:Dw.Mv (sK S M B) w w':=he.mv.mono fun b hb=>hb.imp_right .inl
 have hgm:=h.mem.kept (fun k hk hk'=>he.mv.block k hk (h.kmem k hk')) he.mv.size
 exact ⟨he.ret,h.next hmv hgm ⟨_,hO,SegV.none⟩ (h.tk.same (h.kA hmv) hM) ⟨h.pb.nx,h.pb.us,h.pb.ou,z16,z32,by show 1≤11;decide,fun h7=>absurd h7 (by show¬7≤1;decide)⟩,hmv⟩
theorem Tryz.zDv (h:PW A w S P L Bs B M N r s g) (head wr:Int) (hw:0≤wr∧wr<4294967296) (hlen: ∀e∈s.tk,e.2.sg.length≤1000000):
  Calls prog 16 #[.pointer (some ⟨S,0,none⟩),.int .i64 head,.int .u32 wr] w fun e w'=>e= .returned (.int .i64 (zc7 s head wr).1)∧PW A w' S P L Bs B M N r (zc7 s head wr).2 g∧Dw.Mv (sK S M B) w w':=by
 by_cases hno:s.br=true∨s.ph≠0
 ·have e:zc7 s head wr=((if s.br=true then 4 else 8),s):=by
   unfold zc7
   by_cases hb:s.br=true
   ·rw [if_pos hb,if_pos hb]
   ·rw [if_neg hb,if_neg hb,if_pos (hno.resolve_left hb)]
  rw [e]
  exact (zHh h hno head wr).mono fun en w' hh=>⟨hh.1,hh.2▸h,hh.2▸Dw.Mv.refl _ _⟩
 have hb:s.br=false:=by
  cases hb:s.br with
  | false=>rfl
  | true=>exact absurd (.inl hb) hno
 have hp:s.ph=0:=Decidable.byContradiction fun hp=>hno (.inr hp)
 obtain ⟨sv,ho,hsv⟩:=h.obj
 have hj2:jOf [(S,0),(M,0)] 2=some ⟨M,0,0,none⟩:=rfl
 have hj1:jOf [(S,0),(M,0)] 1=some ⟨S,0,0,none⟩:=rfl
 obtain ⟨arr1,clock1,g1,g2,g3⟩:=h.tk.map
 have key: ∀(tv:Value) (ct t1 t2:Int),(0≤ct∧ct≤16)→(0≤t1∧t1<18446744073709551616)→(0≤t2∧t2<18446744073709551616)→ ∃ρ:Val,PDen ρ r s (vp P) sv∧ρ.v 2=tv∧(lnv 19).den ρ=ct∧ρ.i 20=head∧(u32v 21).den ρ=wr∧(u64v 22).den ρ=t1∧(u64v 23).den ρ=t2:=fun tv ct t1 t2 b0 b1 b2=>
  ⟨prho r s [0,0,0,0,0,0,0,0,0,ct,head,wr,t1,t2] [] (vp P) sv tv,zbf h.rg h.pb (by rw [h.pb.ou.1];exact zbh h.tk.rng) _ _ _ _ _,rfl,zat (by show 0≤ct;omega) (by show ct<_;omega),rfl,zbx hw.1 hw.2,zaG b1.1 b1.2,zaG b2.1 b2.2⟩
 cases htk:zbk head s.tk with
 | none=>
  have e:zc7 s head wr=(6,s):=by unfold zc7;rw [if_neg (by rw [hb];decide),if_neg (fun hh=>hh hp),htk]
  rw [e]
  obtain ⟨ρ,hd,_,_,h20,h21,_,_⟩:=key undef 0 0 0 (by decide) (by decide) (by decide)
  refine Calls.mono (zaD (ρ:=ρ) (K:=fun b=>b=S∨b=M) (g:=Gho.none) (bl:= [(S,0),(M,0)]) (vals:= [.pointer (some ⟨S,0,none⟩),.int .i64 head,.int .u32 wr]) mixed zzV zDy (fun b hb=>h.kold b (hb.imp_right .inl))
   ⟨za6 ho (zcd hd hb (by rw [hp];rfl) hsv.one hj2) (.inl rfl),⟨.inr rfl,rfl,arr1,clock1,[(head,none)],g1,g2,⟨head,none,[],rfl,zac h20,rfl,rfl⟩,fun k o hm=> ?_⟩,trivial⟩ h.apart zaO trivial (zab (zcj hj1) (zab (zac h20) (zab (zac h21) RL.nil))) (zae.2 trivial)) fun e w' hh=> ?_
  ·simp only [List.mem_cons,Prod.mk.injEq,List.not_mem_nil,or_false] at hm
   obtain ⟨rfl,rfl⟩:=hm
   exact (g3 _).1 htk
  ·obtain ⟨_,j,he⟩:=zcr hh
   have hj1':=he.sub _ _ hj1
   have hj2':=he.sub _ _ hj2
   have lc1:=zag hj1'
   have lc2:=zag hj2'
   have hO:=(he.rows.1 _ hj1').2 (.inr (.inl rfl)) rfl
   have hM:=he.maps.1 _ hj2'
   simp only [AV.val,AV.valL,lc1,lc2,hd.n,hd.d,hd.v,hd.c,hd.nx,hd.us,hd.hd,hd.wr,hd.ou,hd.p,hd.sv,zaM,zad,zaA,zbN,hd.op,hd.b0,hd.b1,hd.b2,hd.b3,hd.b4,hd.b5,hd.b6] at hO
   have hO':Own w' S (s.row r P M sv):=by
    unfold PS.row
    rw [hb,hp]
    exact hO
   have hkA: ∀k,k<w.heap.size→ ¬A k→w'.heap[k]? =w.heap[k]? :=fun k hk ha=>he.mv.block k hk (by rintro (rfl|rfl);exact ha h.aS;exact ha h.aM)
   exact ⟨he.ret,h.same he.mv ⟨_,hO',hsv.kept hkA⟩ hM,he.mv.mono fun b hb=>hb.imp_right .inl⟩
 | some t=>
  obtain ⟨tv,hv1,hv2⟩:=(g3 head).2 t htk
  have hmem:=zcG htk
  have hll:t.sg.length≤1000000:=hlen _ hmem
  have hrng:=h.tk.rng _ hmem
  have hn16:=h.rg.bnd
  have hhd:0≤head∧head<r.n:=hrng.1
  have hct:1≤t.ct∧t.ct≤r.n:=hrng.2
  obtain ⟨sa,c,rfl,hok,hr⟩:=hv2
  obtain ⟨b1,b2,b3,b4⟩:=zpc hok
  have hv2:SegV A w (.slice sa t.sg.length c) t.sg:=⟨sa,c,rfl,hok,hr⟩
  obtain ⟨ρ,hd,hv,h19,h20,h21,h22,h23⟩:=key (.slice sa t.sg.length c) t.ct (zbp t.sg).1 (zbp t.sg).2 ⟨by omega,by omega⟩ ⟨b1,b2⟩ ⟨b3,b4⟩
  have hG:(segG sa t.sg).G 0 (jOf [(S,0),(M,0)]) w:=by
   rcases hr with h0|⟨R,o,e,hA,hr⟩
   ·exact ⟨fun _=>False,fun _ h=>h.elim,.inl h0⟩
   ·by_cases h0:t.sg= []
    ·exact ⟨fun _=>False,fun _ h=>h.elim,.inl h0⟩
    ·refine ⟨fun b=>b=R,fun b hb=>⟨by rw [hb];exact zcF hr h0,fun hm=> ?_⟩,.inr ⟨R,o,e,rfl,hr⟩⟩
     have:=zdp hm
     simp only [List.map_cons,List.map_nil,List.mem_cons,List.not_mem_nil,or_false] at this
     rw [hb] at this
     rcases this with e|e
     ·exact hA (e▸h.aS)
     ·exact hA (e▸h.aM)
  refine Calls.mono (zaD (ρ:=ρ) (K:=fun b=>b=S∨b=M) (g:=segG sa t.sg) (bl:= [(S,0),(M,0)]) (vals:= [.pointer (some ⟨S,0,none⟩),.int .i64 head,.int .u32 wr]) mixed zzT zDw (fun b hb=>h.kold b (hb.imp_right .inl))
   ⟨za6 ho (zcd hd hb (by rw [hp];rfl) hsv.one hj2) (.inl rfl),⟨.inr rfl,rfl,arr1,clock1,[(head,some (.agg #[.int .i64 head,.int .i64 t.ct,.slice sa t.sg.length c]))],g1,g2,⟨head,some (.agg #[.int .i64 head,.int .i64 t.ct,.slice sa t.sg.length c]),[],rfl,zac h20,⟨_,rfl,zbg (zab (zac h20) (zab (zac h19) (zab (za5 hv rfl) RL.nil)))⟩,rfl⟩,fun k o hm=> ?_⟩,trivial⟩ h.apart hG
   ⟨zaw (Dw.enters_of (by kernel_rfl)) (by decide) [.slice sa t.sg.length c] (.tuple #[.int .u64 (zbp t.sg).1,.int .u64 (zbp t.sg).2]) (fun j=>zab (za5 hv rfl) RL.nil) (fun j=>zcC (zab (zac h22) (zab (zac h23) RL.nil))) fun w F q hf=>zpd (SegF.v hf hok c) (by omega),trivial⟩ (zab (zcj hj1) (zab (zac h20) (zab (zac h21) RL.nil))) (zae.2 trivial)) fun e w' hh=> ?_
  ·simp only [List.mem_cons,Prod.mk.injEq,List.not_mem_nil,or_false] at hm
   obtain ⟨rfl,rfl⟩:=hm
   exact hv1
  ·obtain ⟨p,hpm,hto,lf,hlf,j,he⟩:=hh
   unfold zuM at hpm
   simp only [List.mem_cons,List.not_mem_nil,or_false] at hpm
   have hj1':=he.sub _ _ hj1
   have hj2':=he.sub _ _ hj2
   have lc1:=zag hj1'
   have lc2:=zag hj2'
   have hmv:Dw.Mv (sK S M B) w w':=he.mv.mono fun b hb=>hb.imp_right .inl
   have hgm:=h.mem.kept (fun k hk hk'=>he.mv.block k hk (h.kmem k hk')) he.mv.size
   have hkA:=h.kA hmv
   rcases hpm with rfl|rfl
   all_goals
    simp only [zaa,zae,zbC,h21,h23,decide_eq_true_eq,decide_eq_false_iff_not,and_true] at hto
    cases hlf
    have hO:=(he.rows.1 _ hj1').2 (.inr (.inl rfl)) rfl
    have hM:=he.maps.1 _ hj2'
    simp only [AV.val,AV.valL,lc1,lc2,hd.n,hd.d,hd.v,hd.c,hd.nx,hd.us,hd.hd,hd.wr,hd.ou,hd.p,hd.sv,zaM,zad,zaA,zbN,hd.op,hd.b0,hd.b1,hd.b2,hd.b3,hd.b4,hd.b5,hd.b6,h20,h21] at hO
   ·have e:zc7 s head wr=(2,s):=by unfold zc7;rw [if_neg (by rw [hb];decide),if_neg (fun hh=>hh hp),htk];simp only;rw [if_pos (by omega)]
    rw [e]
    have hO':Own w' S (s.row r P M sv):=by
     unfold PS.row
     rw [hb,hp]
     exact hO
    exact ⟨he.ret,h.same he.mv ⟨_,hO',hsv.kept hkA⟩ hM,hmv⟩
   ·have e:zc7 s head wr=(0,({ s with op:=4,nn:=false,hd:=head,sg:= [],wr:=wr,it:=false }:PS).goto 7):=by unfold zc7;rw [if_neg (by rw [hb];decide),if_neg (fun hh=>hh hp),htk];simp only;rw [if_neg (by omega)]
    rw [e]
    exact ⟨he.ret,h.next hmv hgm ⟨_,hO,SegV.none⟩ (h.tk.same hkA hM) ⟨h.pb.nx,h.pb.us,h.pb.ou,⟨hhd.1,by show head<65536;omega⟩,hw,by show 7≤11;decide,fun _=>⟨t,htk⟩⟩,hmv⟩
theorem Tryz.zzL (h:PW A w S P L Bs B M N r s g):
  Calls prog 27 #[.pointer (some ⟨S,0,none⟩)] w fun e w'=>e= .returned (.tuple #[(zaT N r s g).1,.int .i64 (zaT N r s g).2.1])∧PW A w' S P L Bs B M N r (zaT N r s g).2.2.1 (zaT N r s g).2.2.2∧Dw.Mv (sK S M B) w w':=by
 cases hb:s.br with
 | true=>
  have e:zaT N r s g=(.agg #[.int .i64 0,.int .i64 0,.int .i64 0],4,s,g):=by unfold zaT;rw [if_pos hb]
  rw [e];exact zpx h hb
 | false=>
  have e0: ¬s.br=true:=by rw [hb];decide
  by_cases h0:s.ph=0
  ·have e:zaT N r s g=(.agg #[.int .i64 0,.int .i64 0,.int .i64 0],8,s,g):=by unfold zaT;rw [if_neg e0,if_pos h0]
   rw [e];exact zw4 h hb h0
  have e:zaT N r s g=zdJ N r s g s.ph:=by unfold zaT;rw [if_neg e0,if_neg h0]
  rw [e]
  have h11:=h.pb.ph
  have hph:s.ph=1∨s.ph=2∨s.ph=3∨s.ph=4∨s.ph=5∨s.ph=6∨s.ph=7∨s.ph=8∨s.ph=9∨s.ph=10∨s.ph=11:=by omega
  rcases hph with hp|hp|hp|hp|hp|hp|hp|hp|hp|hp|hp
  ·rw [hp];exact zAm h hb hp
  ·rw [hp];exact zxq h hb hp
  ·rw [hp];exact zsS h hb hp
  ·rw [hp];exact zxA h hb hp
  ·rw [hp];exact zsR h hb hp
  ·rw [hp];exact zxt h hb hp
  ·rw [hp];exact zqz h hb hp
  ·rw [hp];exact zsO h hb hp
  ·rw [hp]
   unfold zdJ
   simp only
   by_cases hw:0<s.wr
   ·rw [if_pos hw];exact zsI h hb hp hw
   ·rw [if_neg hw];exact zsL h hb hp hw
  ·rw [hp];exact zqn h hb hp
  ·rw [hp]
   obtain ⟨t,ht⟩:=h.pb.ret (by omega)
   unfold zdJ
   simp only [ht]
   by_cases w0:zah g r.v.toNat 4/65536%4=0
   ·exact zw3 h hb hp ht w0
   ·by_cases w2:zah g r.v.toNat 4/65536%4=2
    ·by_cases w3:r.n≤zah g r.v.toNat 4%32768
     ·exact zsv h hb hp ht w0 w2 w3
     ·exact zsy h hb hp ht w0 w2 (by omega)
    ·exact zwY h hb hp ht w0 w2
end
end Go.Proofs
namespace Go.Proofs
open Go.Dw Go.RowKit Go.Maps Go.Sort Go.Shelf
theorem Tryz.zAj {A:Nat→Prop} {w:World} {M:Nat} {n:Int} {tk:List (Int×PTk)} (h:PtW A w M n tk) {arr:Array MapEntry} {clock:Nat} (hb:w.heap[M]? =some (.map arr clock)):
  MapKept.Stamped arr clock∧ ∃ks:List Int,arr.toList.map (·.key)=ks.map encZ∧ks.Perm (tk.map (·.1)):=by
 obtain ⟨arr',clock',h1,⟨h2,h3⟩,h4⟩:=h.map
 rw [hb] at h1;cases h1
 obtain ⟨ks,g1,g2⟩:=zq7 h2.keys
 have hnd:ks.Nodup:=by
  have:(ks.map encZ).Nodup:=by
   rw [←g1,List.Nodup,List.pairwise_map]
   exact h2.once
  exact (List.pairwise_map.1 this).imp fun h e=>h (congrArg encZ e)
 refine ⟨(MapKept.stamped_iff _ _).2 ⟨h3.1,h3.2,h2.once⟩,ks,g1,(List.perm_ext_iff_of_nodup hnd h.keys).2 fun x=> ?_⟩
 rw [g2]
 constructor
 ·rintro ⟨e,he,hk⟩
  have hv:=zcT h2 he hk
  cases hg:zbk x tk with
  | none=>rw [(h4 x).1 hg] at hv;cases hv
  | some l=>exact List.mem_map.2 ⟨_,zcG hg,rfl⟩
 ·intro hx
  cases hg:zbk x tk with
  | none=>exact absurd hx (zcy.1 hg)
  | some l=>
   obtain ⟨v,hv,_⟩:=(h4 x).2 l hg
   obtain ⟨e,he,hk,_⟩:=zgw hv
   exact ⟨e,he,hk⟩
set_option maxRecDepth 100000 in
theorem Tryz.zxh (M:Nat) (w:World):
  Calls prog 65 #[.map (some M)] w fun e w'=> ∃t,e= .returned (.func (.func 90) #[] #[.pointer (some ⟨w.heap.size,0,none⟩)])∧w'=w.alloc (.cells #[.map (some M)] t):=by
 have hmf: ∀(fn:Fn) (first cap:Array Value) (w:World),(Instr.makeFunc fn first cap).run prog w= .ok (.func fn first cap) w:=fun _ _ _ _=>rfl
 go_enter func65,ntmps65
 go_wp2
 go_ret
 exact ⟨_,rfl,rfl⟩
def Tryz.zJG (s:PS):List Int:=(s.tk.map (·.1)).mergeSort leI
set_option maxRecDepth 100000 in
theorem Tryz.zx0 {A:Nat→Prop} {w:World} {S P L Bs B M N:Nat} {r:Rg} {s:PS} {g:Nat→Int} (h:PW A w S P L Bs B M N r s g) (hl:s.tk.length≤1000000):
    Calls prog 21 #[.pointer (some ⟨S,0,none⟩)] w fun e w'=> ∃(v:Value) (t:TypeId),e= .returned v∧w'.ownsRow w.heap.size t 1 v s.tk.length ((zJG s).map encZ)∧Below w.heap.size w w':=by
  have hm:=zgA h
  obtain ⟨sv,ho,hsv⟩:=h.obj
  have c1:=zbc ho (i:=13) rfl
  clear ho hsv
  have hn16:=h.rg.bnd
  obtain ⟨arr,clock,hb,_⟩:=h.tk.map
  obtain ⟨hst,ks,hk1,hk2⟩:=zAj h.tk hb
  have hlt:=h.ltM
  have hS: ∀t,Calls prog 64 #[.func (.func 90) #[] #[.pointer (some ⟨w.heap.size,0,none⟩)]] (w.alloc (.cells #[.map (some M)] t)) fun e w'=> ∃v ss t',e= .returned v∧ss.Perm ks∧w'.ownsRow (w.alloc (.cells #[.map (some M)] t)).heap.size t' 1 v ss.length ((ss.mergeSort leI).map encZ)∧(v= .slice none 0 0↔ss= [])∧RowKit.Below (w.alloc (.cells #[.map (some M)] t)).heap.size (w.alloc (.cells #[.map (some M)] t)) w':=fun t=>
    sortedOk90.sorted _ w.heap.size M arr clock ks (by simp) (by rw [cell_of_row _ _ 0 _ _ (0,0) (heap_alloc_last w _)];rfl) (by rw [←hb];exact MapKept.heap_alloc w _|>.2 _ hlt) hst hk1
      (fun x hx=>by
        obtain ⟨e,he,rfl⟩:=List.mem_map.1 (hk2.subset hx)
        have this1:0≤e.1:=(h.tk.rng e he).1.1
        have this2:e.1<r.n:=(h.tk.rng e he).1.2
        generalize e.1=x at this1 this2
        have e1:IntKind.i64.min= -9223372036854775808:=by decide
        have e2:IntKind.i64.max=9223372036854775807:=by decide
        simp only [Lit.wf,e1,e2,Bool.and_eq_true,decide_eq_true_eq]
        omega)
      (by rw [hk2.length_eq,List.length_map];exact hl)
  go_enter func21,ntmps21
  go_wp2_with (first
    | (go_at_call 56;refine hm.mono ?_;rintro e w' ⟨rfl,hw⟩;have hw:=hw.symm;subst hw)
    | (go_at_call 65;refine (zxh M _).mono ?_;rintro e w' ⟨t,rfl,hw⟩;subst hw)
    | (go_at_call 64;refine (hS _).mono ?_;rintro e w' ⟨v,ss,t,rfl,hss,hrow,_,hb⟩)
    | go_in)
  go_ret
  have hss:=hss.trans hk2
  rw [hss.length_eq,List.length_map,mergeSort_of_perm_i hss] at hrow
  exact ⟨v,t,rfl,zDe hrow (by simp),((Below.refl _ w).alloc (Nat.le_refl _) _).trans (hb.mono (by simp))⟩
end Go.Proofs
namespace Go.Proofs
open Go.RowKit Go.Maps Go.Sort
def Tryz.zbl (n:Nat):Rg:=⟨n,4096,4096+16*n,4100+16*n⟩
theorem Tryz.zxa {n:Nat} (h:1≤n∧n≤16):PgOk (zbl n):=⟨⟨by show (1:Int)≤n;omega,by show (n:Int)≤16;omega⟩,rfl,rfl,rfl⟩
def Tryz.zHg (n:Nat):Dw.AV:= .agg [.bool (.lit true),.int .i64 (.lit n),.int .u64 (.lit 4096),.int .u64 (.lit (4096+16*n)),.int .u64 (.lit (4100+16*n))]
def Tryz.sizes16:List Nat:= [1,2,3,4,5,6,7,8,9,10,11,12,13,14,15,16]
theorem Tryz.zJh {n:Nat} (h:1≤n∧n≤16):n∈sizes16:=by unfold sizes16;simp;omega
noncomputable def Tryz.zD9 (n:Nat):Bool:=(Dw.ev prog Dw.zxE 100000 (.call 29 [.bool (.lit true),.int .i64 (.lit n),.int .u64 (.lit 4096)] Dw.heap0 (Dw.isAV (.tup [zHg n,.int .u64 (.lit (8+16*n)),.int .i64 (.lit 0)])))).good
theorem Tryz.zsE:(sizes16.all fun n=>zD9 n)=true:=by kernel_rfl
theorem Tryz.zxe (n:Nat) (hn:1≤n∧n≤16) (w:World):
  Calls prog 29 #[.bool true,.int .i64 n,.int .u64 4096] w fun e w'=>e= .returned (.tuple #[(zbl n).pval,.int .u64 (8+16*n),.int .i64 0])∧Below w.heap.size w w':=by
 have h1:=List.all_eq_true.1 zsE n (zJh hn)
 exact Dw.zsj (by kernel_rfl) rfl (Dw.ztI (Dw.zCx (Dw.zCx Dw.RL.nil))) h1 w
noncomputable def Tryz.zD8 (f:Nat):Bool:=(Dw.ev prog Dw.zxE 100000 (.call f [] Dw.heap0 (Dw.isAV (.agg [.int .i64 (.lit 0),.bool (.lit true)])))).good
theorem Tryz.zsz:([76,9].all fun f=>zD8 f)=true:=by kernel_rfl
theorem Tryz.zlT (f:Nat) (hf:f=76∨f=9) (w:World):
  Calls prog f #[] w fun e w'=>e= .returned (.agg #[.int .i64 0,.bool true])∧Below w.heap.size w w':=by
 have h1:=List.all_eq_true.1 zsz f (by simpa using hf)
 exact Dw.zsj (by kernel_rfl) rfl Dw.RL.nil h1 w
end Go.Proofs
namespace Go.Proofs
open Go.Dw Go.RowKit
def Tryz.PS.fresh (ev tb:Bool):PS:=⟨ev,tb,0,true,0,true,[],0,0,0,false,0,[],0,false,false,false⟩
theorem Tryz.znm {w wx:World} {r:Rg} {ev tb:Bool} {P M:Nat} {T:TypeId} (hb:Below w.heap.size w wx) (hm:wx.heap[M]? =some (.map #[] 0)):
  Own (wx.alloc (.cells (((PS.fresh ev tb).row r P M (.slice none 0 0)).toArray) T)) wx.heap.size ((PS.fresh ev tb).row r P M (.slice none 0 0))∧(wx.alloc (.cells (((PS.fresh ev tb).row r P M (.slice none 0 0)).toArray) T)).heap[M]? =some (.map #[] 0)∧
   Below w.heap.size w (wx.alloc (.cells (((PS.fresh ev tb).row r P M (.slice none 0 0)).toArray) T)):=by
 have hlt:M<wx.heap.size:=by
  rcases Nat.lt_or_ge M wx.heap.size with h|h
  ·exact h
  ·rw [Array.getElem?_eq_none h] at hm;cases hm
 exact ⟨⟨_,T,heap_alloc_last wx _,fun i y h=>by rw [List.getElem?_toArray];exact h⟩,((MapKept.heap_alloc _ _).2 _ hlt).trans hm,hb.alloc hb.size _⟩
theorem Tryz.zbd {w w':World} {p:Addr} {v:Value} (hb:Below w.heap.size w w') (h:w.cell? p=some v):w'.cell? p=some v:=(hb.cell (World.block_lt_of_cell? _ _ h)).trans h
set_option maxRecDepth 100000 in
theorem Tryz.zEc {w:World} {P L Bs B N:Nat} {g:Nat→Int} {r:Rg} {ev tb:Bool} (st:GM w P L Bs B N g) (hr:PgOk r):
    Calls prog 32 #[.pointer (some ⟨P,0,none⟩),r.pval,.agg #[.bool ev,.bool tb,.bool true]] w fun e w'=> ∃S M,e= .returned (.tuple #[.pointer (some ⟨S,0,none⟩),.int .i64 0])∧w.heap.size≤S∧w.heap.size≤M∧S≠M∧
      Own w' S ((PS.fresh ev tb).row r P M (.slice none 0 0))∧w'.heap[M]? =some (.map #[] 0)∧Below w.heap.size w w':=by
  have hst2: ∀x y tx ty,GM ((w.alloc (.cells x tx)).alloc (.cells y ty)) P L Bs B N g:=fun x y tx ty=>(st.below ((Below.refl _ w).alloc (Nat.le_refl _) _)).below ((Below.refl _ _).alloc (Nat.le_refl _) _)
  have hck:=zmu hr
  have hps:=zlT 76 (.inl rfl)
  have hmk: ∀(t:TypeId) (w:World),(Instr.makeMap t none).run prog w= .ok (.map (some w.heap.size)) (w.alloc (.map #[] 0)):=fun _ _=>rfl
  unfold Rg.pval at*
  go_enter func32,ntmps32
  go_wp2_with (first
    | (go_at_call 17;refine (zpl P L Bs B N 0 g _ (hst2 _ _ _ _)).mono ?_;rintro e w' ⟨rfl,hw⟩;have hw:=hw.symm;subst hw)
    | (go_at_call 75;refine (hck _).mono ?_;rintro e w' ⟨rfl,hb⟩
       have ka:=((Cl.new w _ _).alloc _).below hb (by simp<;>omega)
       have kb:=(Cl.new (w.alloc _) _ _).below hb (by simp<;>omega)
       rw [za8] at kb
       have x0:=ka.cell 0 _ rfl;have x1:=ka.cell 1 _ rfl;have x2:=ka.cell 2 _ rfl;have x3:=ka.cell 3 _ rfl;have x4:=ka.cell 4 _ rfl
       have y0:=kb.cell 0 _ rfl;have y1:=kb.cell 1 _ rfl;have y2:=kb.cell 2 _ rfl)
    | go_in)
  go_region_held3 (fun w'=>w'.cell? ⟨w.heap.size,0,none⟩=some (.bool true)∧w'.cell? ⟨w.heap.size,1,none⟩=some (.int .i64 r.n)∧w'.cell? ⟨w.heap.size,2,none⟩=some (.int .u64 r.d)∧w'.cell? ⟨w.heap.size,3,none⟩=some (.int .u64 r.v)∧w'.cell? ⟨w.heap.size,4,none⟩=some (.int .u64 r.c)∧w'.cell? ⟨w.heap.size+1,0,none⟩=some (.bool ev)∧w'.cell? ⟨w.heap.size+1,1,none⟩=some (.bool tb)∧w'.cell? ⟨w.heap.size+1,2,none⟩=some (.bool true)) (go_keep)
    (first
      | (go_at_call 76;have hz:=hb5;refine (hps _).mono ?_;rintro e w6 ⟨rfl,hb6⟩;have t0:w6.cell? ⟨w.heap.size,0,none⟩=some (.bool true):=zbd hb6 (by go_keep);have t1:w6.cell? ⟨w.heap.size,1,none⟩=some (.int .i64 r.n):=zbd hb6 (by go_keep);have t2:w6.cell? ⟨w.heap.size,2,none⟩=some (.int .u64 r.d):=zbd hb6 (by go_keep);have t3:w6.cell? ⟨w.heap.size,3,none⟩=some (.int .u64 r.v):=zbd hb6 (by go_keep);have t4:w6.cell? ⟨w.heap.size,4,none⟩=some (.int .u64 r.c):=zbd hb6 (by go_keep);have t5:w6.cell? ⟨w.heap.size+1,0,none⟩=some (.bool ev):=zbd hb6 (by go_keep);have t6:w6.cell? ⟨w.heap.size+1,1,none⟩=some (.bool tb):=zbd hb6 (by go_keep);have t7:w6.cell? ⟨w.heap.size+1,2,none⟩=some (.bool true):=zbd hb6 (by go_keep))
      | (go_at_call 76;refine (hps _).mono ?_;rintro e w5 ⟨rfl,hb5⟩;have z0:w5.cell? ⟨w.heap.size,0,none⟩=some (.bool true):=zbd hb5 (by go_keep);have z1:w5.cell? ⟨w.heap.size,1,none⟩=some (.int .i64 r.n):=zbd hb5 (by go_keep);have z2:w5.cell? ⟨w.heap.size,2,none⟩=some (.int .u64 r.d):=zbd hb5 (by go_keep);have z3:w5.cell? ⟨w.heap.size,3,none⟩=some (.int .u64 r.v):=zbd hb5 (by go_keep);have z4:w5.cell? ⟨w.heap.size,4,none⟩=some (.int .u64 r.c):=zbd hb5 (by go_keep);have z5:w5.cell? ⟨w.heap.size+1,0,none⟩=some (.bool ev):=zbd hb5 (by go_keep);have z6:w5.cell? ⟨w.heap.size+1,1,none⟩=some (.bool tb):=zbd hb5 (by go_keep);have z7:w5.cell? ⟨w.heap.size+1,2,none⟩=some (.bool true):=zbd hb5 (by go_keep)))
  all_goals (go_wp2_with fail;go_ret2)
  all_goals
    have hW:Below w.heap.size w w':=(((Below.refl _ w).alloc (Nat.le_refl _) _).alloc (by simp) _).trans (hb.mono (by simp<;>omega))
    have hD:Below w.heap.size w w'.drew:=hW.drew
    have hs1:=hW.size
    have hd1:w'.drew.heap.size=w'.heap.size:=rfl
    have hs5:=hb5.size
    have hs6:=hb6.size
    try simp only [za8] at hs5 hs6
  · have h6:Below w.heap.size w w6:=(hD.trans (hb5.mono (by omega))).trans (hb6.mono (by omega))
    have hm:=heap_alloc_last w6 (.map #[] 0)
    obtain ⟨f1,f2,f3⟩:=znm (r:=r) (ev:=ev) (tb:=tb) (P:=P) (T:=119) (h6.alloc h6.size (.map #[] 0)) hm
    rw [za8] at f1
    exact ⟨w6.heap.size+1,w6.heap.size,rfl,by omega,by omega,by omega,f1,f2,f3⟩
  · have h5:Below w.heap.size w w5:=hD.trans (hb5.mono (by omega))
    have h6:Below w.heap.size w w6:=(h5.alloc h5.size (.map #[] 0)).trans (hb6.mono (by simp only [za8];omega))
    have hm:w6.heap[w5.heap.size]? =some (.map #[] 0):=(hb6.block w5.heap.size (by simp)).trans (heap_alloc_last w5 _)
    obtain ⟨f1,f2,f3⟩:=znm (r:=r) (ev:=ev) (tb:=tb) (P:=P) (T:=119) h6 hm
    exact ⟨w6.heap.size,w5.heap.size,rfl,by omega,by omega,by omega,f1,f2,f3⟩
  · have hX:Below w.heap.size w (w'.alloc (.map #[] 0)).drew:=(hW.alloc hW.size (.map #[] 0)).drew
    have hsx:(w'.alloc (.map #[] 0)).drew.heap.size=w'.heap.size+1:=by show (w'.alloc (.map #[] 0)).heap.size=_;simp
    have h5:Below w.heap.size w w5:=hX.trans (hb5.mono (by omega))
    have h6:Below w.heap.size w w6:=h5.trans (hb6.mono (by omega))
    have hm5:w5.heap[w'.heap.size]? =some (.map #[] 0):=(hb5.block w'.heap.size (by omega)).trans (heap_alloc_last w' _)
    have hm:w6.heap[w'.heap.size]? =some (.map #[] 0):=(hb6.block w'.heap.size (by have:=hb5.size;omega)).trans hm5
    obtain ⟨f1,f2,f3⟩:=znm (r:=r) (ev:=ev) (tb:=tb) (P:=P) (T:=119) h6 hm
    have hb5s:=hb5.size
    exact ⟨w6.heap.size,w'.heap.size,rfl,by omega,by omega,by omega,f1,f2,f3⟩
open Go.Maps
set_option maxRecDepth 100000 in
theorem Tryz.zpA {n:Nat} (hn:1≤n∧n≤16) (ev tb pk:Bool) (w:World):
    Calls prog 8 #[.int .i64 n,.agg #[.bool ev,.bool tb,.bool pk]] w fun e w'=> ∃S P L Bs B M,e= .returned (.tuple #[.pointer (some ⟨P,0,none⟩),.pointer (some ⟨S,0,none⟩),(zbl n).pval,.bool true])∧
      PW (sK S M B) w' S P L Bs B M 20000 (zbl n) (PS.fresh ev tb) (fun _=>0)∧Below w.heap.size w w'∧w.heap.size≤S∧w.heap.size≤M∧w.heap.size≤B∧w.heap.size≤P∧w.heap.size≤L∧w.heap.size≤Bs:=by
  have hpl:=zxe n hn
  have hnew:=fun R w (c:Cl w R [.int .u64 0,.int .u64 20000])=>zHY R 20000 1 w (c.cell 0 _ rfl) (c.cell 1 _ rfl) (by decide) (by decide)
  have hrk:=zxa hn
  obtain ⟨r,hr⟩: ∃r,r=zbl n:=⟨_,rfl⟩
  rw [←hr] at hpl hrk ⊢
  clear hr
  unfold Rg.pval at hpl ⊢
  go_enter func8,ntmps8
  go_wp2_with (first
    | (go_at_call 29;refine (hpl _).mono ?_;rintro e w1 ⟨rfl,hb1⟩
       have ka:=((Cl.new w _ _).alloc _).below hb1 (by simp<;>omega)
       have kb:=(Cl.new (w.alloc _) _ _).below hb1 (by simp<;>omega)
       rw [za8] at kb)
    | (go_at_call 30;refine (hnew (w1.heap.size+1) _ (Cl.new2 (za8 _ _))).mono ?_;rintro e w2 ⟨P,L,Bs,B,rfl,hg,hb2,hP,hL,hBs,hB⟩
       have kc:=((Cl.new w1 _ _).alloc _).below hb2 (by simp<;>omega)
       replace ka:=((ka.alloc _).alloc _).below hb2 (by have:=ka.lt;simp<;>omega)
       replace kb:=((kb.alloc _).alloc _).below hb2 (by have:=kb.lt;simp<;>omega)
       have x0:=ka.cell 0 _ rfl;have x1:=ka.cell 1 _ rfl;have x2:=ka.cell 2 _ rfl
       have y0:=kc.cell 0 _ rfl;have y1:=kc.cell 1 _ rfl;have y2:=kc.cell 2 _ rfl;have y3:=kc.cell 3 _ rfl;have y4:=kc.cell 4 _ rfl)
    | (go_at_call 32;refine (zEc (r:=r) hg hrk).mono ?_;rintro e w3 ⟨S,M,rfl,hS,hM,hSM,hso,hsm,hb3⟩
       clear x0 x1 x2 y0 y1 y2 y3 y4
       replace kb:=kb.below hb3 kb.lt
       replace kc:=kc.below hb3 kc.lt
       have y0:=kc.cell 0 _ rfl;have y1:=kc.cell 1 _ rfl;have y2:=kc.cell 2 _ rfl;have y3:=kc.cell 3 _ rfl;have y4:=kc.cell 4 _ rfl
       have z0:=kb.cell 0 _ rfl;have z1:=kb.cell 1 _ rfl;have z2:=kb.cell 2 _ rfl;have z3:=kb.cell 3 _ rfl;have z4:=kb.cell 4 _ rfl
       have f0:=kb.free 0;have f1:=kb.free 1;have f2:=kb.free 2;have f3:=kb.free 3;have f4:=kb.free 4)
    | go_in)
  have l1:=kb.lt
  have hkb:=kb
  clear ka kb kc
  go_region
  go_wp2_with fail
  have k0:=((((hkb.set 0 (.bool true) (show 0<5 by decide)).set 1 (.int .i64 r.n) (show 1<5 by decide)).set 2 (.int .u64 r.d) (show 2<5 by decide)).set 3 (.int .u64 r.v) (show 3<5 by decide)).set 4 (.int .u64 r.c) (show 4<5 by decide)
  have hmv:=(((((Mv.refl (· =w.heap.size+1) w3).setCell (w.heap.size+1) 0 (.bool true) (.inl rfl)).setCell (w.heap.size+1) 1 (.int .i64 r.n) (.inl rfl)).setCell (w.heap.size+1) 2 (.int .u64 r.d) (.inl rfl)).setCell (w.heap.size+1) 3 (.int .u64 r.v) (.inl rfl)).setCell (w.heap.size+1) 4 (.int .u64 r.c) (.inl rfl)
  generalize (((((w3.setCell ⟨w.heap.size+1,0,none⟩ (.bool true)).setCell ⟨w.heap.size+1,1,none⟩ (.int .i64 r.n)).setCell ⟨w.heap.size+1,2,none⟩ (.int .u64 r.d)).setCell ⟨w.heap.size+1,3,none⟩ (.int .u64 r.v)).setCell ⟨w.heap.size+1,4,none⟩ (.int .u64 r.c))=w4 at k0 hmv ⊢
  have hsz1:=hb1.size
  have hsz2:=hb2.size
  have hsz3:=hb3.size
  simp only [za8] at hsz1 hsz2 hsz3 hP hL hBs hB
  have hbw:Below w.heap.size w w3:=(((((Below.refl _ w).alloc (Nat.le_refl _) _).alloc (by simp only [za8];omega) _).trans (hb1.mono (by simp only [za8];omega))).alloc (by omega) _).alloc (by simp only [za8];omega) _|>.trans (hb2.mono (by simp only [za8];omega))|>.trans (hb3.mono (by omega))
  have hbl:=hbw.trans (hmv.below (base:=w.heap.size) (fun k hk=>by omega) hbw.size)
  refine bodyPost_ret (zDf rfl _ _ (w.heap.size+1) [.bool true,.int .i64 r.n,.int .u64 r.d,.int .u64 r.v,.int .u64 r.c] _ rfl (fun j v hv=>by rw [Nat.zero_add];exact k0.cell j v hv) underlying31 rfl (by kernel_rfl)) rfl ?_
  obtain ⟨sarr,sty,hs0,hs1⟩:=hso
  have hlS:S<w3.heap.size:=(Array.getElem?_eq_some_iff.1 hs0).1
  have hlM:M<w3.heap.size:=(Array.getElem?_eq_some_iff.1 hsm).1
  have hg3:=hg.below hb3
  have hgp:=hg.pl
  have hgl:=hg.ll
  have hgs:=hg.sl
  have hgb:=hg.bl
  have hgm:=hg3.kept (fun k hk hk'=>hmv.block k hk (by omega)) hmv.size
  have hn2:r.n≤16:=hrk.bnd.2
  have hn1:1≤r.n:=hrk.bnd.1
  refine ⟨S,P,L,Bs,B,M,rfl,⟨⟨_,⟨sarr,sty,(hmv.block S hlS (by omega)).trans hs0,hs1⟩,SegV.none⟩,⟨⟨#[],0,(hmv.block M hlM (by omega)).trans hsm,⟨⟨fun e he=>by simp at he,by simp⟩,⟨fun e he=>by simp at he,by simp⟩⟩,fun k=>⟨fun _=>rfl,fun l hl=>by cases hl⟩⟩,by simp [PS.fresh],fun e he=>by cases he⟩,hSM,.inl rfl,.inr (.inl rfl),hrk,
    ⟨⟨Int.le_refl 0,by show (0:Int)<r.n;omega⟩,⟨Int.le_refl 0,by show (0:Int)<r.n;omega⟩,⟨rfl,by show (0:Int)≤r.n;omega⟩,z16,z32,by show 0≤11;decide,fun h7=>absurd h7 (by show¬7≤0;decide)⟩,hgm.drewN 1,by decide,⟨by omega,by omega,by omega,by omega⟩,⟨by omega,by omega,by omega,by omega⟩,.inr (.inr rfl),fun b hb=> ?_,?_⟩,hbl.drew,by omega,by omega,by omega,by omega,by omega,by omega⟩
  · have:=hmv.size
    show b<w4.heap.size
    rcases hb with rfl|rfl|rfl<;>omega
  · show 4104+16*r.n≤((20000:Nat):Int);omega
end Go.Proofs
namespace Go.Proofs
open Go.Dw Go.RowKit
def Tryz.zg3:List (Nat×AV):= [(1,.int .i64 (lnv 2)),(2,.int .i64 (u16v 5)),(3,sl1 [(lnv 1,2)]),(4,.ptr 1 0),(11,.cst 2 none),(12,.int .i64 (lnv 1))]
def Tryz.zDK:List Sh:= [.own [.int .i64 (lnv 6),.bool (.var 1)],ckEl 3 4 0]
def Tryz.ppMk (f:Int):Ent:=⟨37,[.int .u16 (.lit f),.bool (.var 1),.bool (.lit false)],1,0,0,.int .u16 (u16v 8),1⟩
def Tryz.ppGo:Ent:=⟨20,[.agg [.int .i64 (lnv 6),.bool (.var 1)],.int .i64 (.lit 1),.int .i64 (lnv 2)],2,0,0,.tup [.agg [.int .i64 (lnv 9),.bool (.var 2)],.int .i64 (.lit 0)],2⟩
def Tryz.ppA (base:Nat):AEnt:=⟨103,.cst 2 none,1,[.int .i64 (lnv 6),.int .u64 (u64v 3),.int .u32 (u32v 4),.int .u16 (u16v 5),.int .u16 (u16v 8)],1,base,1,.opq base none,2⟩
end Go.Proofs
namespace Go.Proofs
open Go.Dw
def Tryz.zlZ:List Ent:= [ppMk 3,ppGo]
def Tryz.zpK:List Sh:=zDK
def Tryz.zfH:List (Nat×AV):=zg3
def Tryz.zjr:List LEnt:= []
def Tryz.zjs:List AEnt:= [ppA 4]
def Tryz.zpL:Option AV:=none
def Tryz.zz2:List (SB×Bool):= [(.cmp .lss (lnv 1) (lnv 0),true),(.var 0,true),(.cmp .lss (.bin .add .i64 (lnv 1) (.lit 1)) (lnv 0),true)]
def Tryz.zuT:List zbo:= [
 ⟨.normal,[1,2,3,4,11,12],none,⟨.tup [.int .i64 (lnv 2),.int .i64 (u16v 5),.sx 1 ((lnv 0)) 3 [((lnv 1),2)],.ptr 1 0,.opq 4 none,.int .i64 (.bin .add .i64 (lnv 1) (.lit 1))],[(1,[.int .i64 (lnv 9),.bool (.var 2)])],[],2,[1]⟩⟩]
def Tryz.zuS:List (List (SB×Bool)×Nat):= [
 ([], 0)]
theorem Tryz.zz1:(evL prog (zau zlZ) (zaF zjr) (zaE zjs) 100000 (.code (zaK prog [0,0,1,0,1,1,1,1,1,42]) [0,0,1,0,1,1,1,1,1,42] 86 (envS 86 zfH zpL) (zas 1 zpK) (zaJ zuT 0))).ways zz2=some zuS:=by kernel_rfl
theorem Tryz.zDE:(zai zpK&&zaf zlZ&&zam zjr&&zan zjs&&zaq zfH&&zak zuT&&zaH 86 zfH&&Nat.ble 86 zaP&&zaC zpL)=true:=by kernel_rfl
def Tryz.zl0:List Ent:= [ppMk 1,ppGo]
def Tryz.zpM:List Sh:=zDK
def Tryz.zfI:List (Nat×AV):=zg3
def Tryz.zjt:List LEnt:= []
def Tryz.zju:List AEnt:= [ppA 4]
def Tryz.zpN:Option AV:=none
def Tryz.zz4:List (SB×Bool):= [(.cmp .lss (lnv 1) (lnv 0),true),(.var 0,false),(.cmp .lss (.bin .add .i64 (lnv 1) (.lit 1)) (lnv 0),true)]
def Tryz.zuV:List zbo:= [
 ⟨.normal,[1,2,3,4,11,12],none,⟨.tup [.int .i64 (lnv 2),.int .i64 (u16v 5),.sx 1 ((lnv 0)) 3 [((lnv 1),2)],.ptr 1 0,.opq 4 none,.int .i64 (.bin .add .i64 (lnv 1) (.lit 1))],[(1,[.int .i64 (lnv 9),.bool (.var 2)])],[],2,[1]⟩⟩]
def Tryz.zuU:List (List (SB×Bool)×Nat):= [
 ([], 0)]
theorem Tryz.zz3:(evL prog (zau zl0) (zaF zjt) (zaE zju) 100000 (.code (zaK prog [0,0,1,0,1,1,1,1,1,42]) [0,0,1,0,1,1,1,1,1,42] 86 (envS 86 zfI zpN) (zas 1 zpM) (zaJ zuV 0))).ways zz4=some zuU:=by kernel_rfl
theorem Tryz.zDF:(zai zpM&&zaf zl0&&zam zjt&&zan zju&&zaq zfI&&zak zuV&&zaH 86 zfI&&Nat.ble 86 zaP&&zaC zpN)=true:=by kernel_rfl
def Tryz.zl1:List Ent:= [ppMk 2,ppGo]
def Tryz.zpO:List Sh:=zDK
def Tryz.zfJ:List (Nat×AV):=zg3
def Tryz.zjv:List LEnt:= []
def Tryz.zjw:List AEnt:= [ppA 4]
def Tryz.zpP:Option AV:=none
def Tryz.zz6:List (SB×Bool):= [(.cmp .lss (lnv 1) (lnv 0),true),(.var 0,true),(.cmp .lss (.bin .add .i64 (lnv 1) (.lit 1)) (lnv 0),false)]
def Tryz.zuX:List zbo:= [
 ⟨.normal,[1,2,3,4,11,12],none,⟨.tup [.int .i64 (lnv 2),.int .i64 (u16v 5),.sx 1 ((lnv 0)) 3 [((lnv 1),2)],.ptr 1 0,.opq 4 none,.int .i64 (.bin .add .i64 (lnv 1) (.lit 1))],[(1,[.int .i64 (lnv 9),.bool (.var 2)])],[],2,[1]⟩⟩]
def Tryz.zuW:List (List (SB×Bool)×Nat):= [
 ([], 0)]
theorem Tryz.zz5:(evL prog (zau zl1) (zaF zjv) (zaE zjw) 100000 (.code (zaK prog [0,0,1,0,1,1,1,1,1,42]) [0,0,1,0,1,1,1,1,1,42] 86 (envS 86 zfJ zpP) (zas 1 zpO) (zaJ zuX 0))).ways zz6=some zuW:=by kernel_rfl
theorem Tryz.zDG:(zai zpO&&zaf zl1&&zam zjv&&zan zjw&&zaq zfJ&&zak zuX&&zaH 86 zfJ&&Nat.ble 86 zaP&&zaC zpP)=true:=by kernel_rfl
def Tryz.zl2:List Ent:= [ppMk 0,ppGo]
def Tryz.zpQ:List Sh:=zDK
def Tryz.zfK:List (Nat×AV):=zg3
def Tryz.zjx:List LEnt:= []
def Tryz.zjy:List AEnt:= [ppA 4]
def Tryz.zpR:Option AV:=none
def Tryz.zz8:List (SB×Bool):= [(.cmp .lss (lnv 1) (lnv 0),true),(.var 0,false),(.cmp .lss (.bin .add .i64 (lnv 1) (.lit 1)) (lnv 0),false)]
def Tryz.zuZ:List zbo:= [
 ⟨.normal,[1,2,3,4,11,12],none,⟨.tup [.int .i64 (lnv 2),.int .i64 (u16v 5),.sx 1 ((lnv 0)) 3 [((lnv 1),2)],.ptr 1 0,.opq 4 none,.int .i64 (.bin .add .i64 (lnv 1) (.lit 1))],[(1,[.int .i64 (lnv 9),.bool (.var 2)])],[],2,[1]⟩⟩]
def Tryz.zuY:List (List (SB×Bool)×Nat):= [
 ([], 0)]
theorem Tryz.zz7:(evL prog (zau zl2) (zaF zjx) (zaE zjy) 100000 (.code (zaK prog [0,0,1,0,1,1,1,1,1,42]) [0,0,1,0,1,1,1,1,1,42] 86 (envS 86 zfK zpR) (zas 1 zpQ) (zaJ zuZ 0))).ways zz8=some zuY:=by kernel_rfl
theorem Tryz.zDH:(zai zpQ&&zaf zl2&&zam zjx&&zan zjy&&zaq zfK&&zak zuZ&&zaH 86 zfK&&Nat.ble 86 zaP&&zaC zpR)=true:=by kernel_rfl
def Tryz.zpS:List Ent:= []
def Tryz.zu0:List Sh:= [.own [.int .i64 (lnv 6),.bool (.var 1)]]
def Tryz.zfa:List (Nat×AV):= [(1,.int .i64 (lnv 2)),(2,.int .i64 (u16v 5)),(3,sl1 []),(4,.ptr 1 0),(11,.cst 2 none),(12,.int .i64 (lnv 1))]
def Tryz.zl3:List LEnt:= []
def Tryz.zl4:List AEnt:= []
def Tryz.zu1:Option AV:=none
def Tryz.zDJ:List (SB×Bool):= [(.cmp .lss (lnv 1) (lnv 0),false)]
def Tryz.zAa:List zbo:= [
 ⟨(.exit 0),[11],none,⟨.tup [.cst 2 none],[],[],0,[]⟩⟩]
def Tryz.zz9:List (List (SB×Bool)×Nat):= [
 ([], 0)]
theorem Tryz.zDI:(evL prog (zau zpS) (zaF zl3) (zaE zl4) 100000 (.code (zaK prog [0,0,1,0,1,1,1,1,1,42]) [0,0,1,0,1,1,1,1,1,42] 86 (envS 86 zfa zu1) (zas 0 zu0) (zaJ zAa 0))).ways zDJ=some zz9:=by kernel_rfl
theorem Tryz.zHn:(zai zu0&&zaf zpS&&zam zl3&&zan zl4&&zaq zfa&&zak zAa&&zaH 86 zfa&&Nat.ble 86 zaP&&zaC zu1)=true:=by kernel_rfl
open Go.RowKit Go.Maps Go.Sort
def Tryz.zh9 (f:Int) (wr:Bool):Int:=f+if wr then 128 else 32768
noncomputable def Tryz.zHT (f:Nat) (wr:Bool):Bool:=(Dw.ev prog Dw.zxE 100000 (.call 37 [.int .u16 (.lit f),.bool (.lit wr),.bool (.lit false)] Dw.heap0 (Dw.isAV (.int .u16 (.lit (zh9 f wr)))))).good
theorem Tryz.zxK:([0,1,2,3].all fun f=> [true,false].all fun wr=>zHT f wr)=true:=by kernel_rfl
theorem Tryz.zgy (f:Nat) (hf:f=0∨f=1∨f=2∨f=3) (wr:Bool) (w:World):
  Calls prog 37 #[.int .u16 f,.bool wr,.bool false] w fun e w'=>e= .returned (.int .u16 (zh9 f wr))∧Below w.heap.size w w':=by
 have h1:=List.all_eq_true.1 (List.all_eq_true.1 zxK f (by simp;omega)) wr (by cases wr<;>simp)
 exact Dw.zsj (by kernel_rfl) rfl (Dw.zCx (Dw.ztI (Dw.ztI Dw.RL.nil))) h1 w
def Tryz.posN (n a:Int) (x:Bool):Nat→Int×Bool
 | 0=>(a,x)
 | k+1=>zaL n (posN n a x k).1 (posN n a x k).2 1
theorem Tryz.zjz {n a:Int} {x:Bool} (ha:0≤a∧a<n): ∀k,0≤(posN n a x k).1∧(posN n a x k).1<n
 | 0=>ha
 | k+1=>zgm (zjz ha k) ⟨by decide,by have:=zjz ha k (x:=x);omega⟩
def Tryz.ppAt (n id a:Int) (x:Bool) (l:List Sg) (k:Nat):Pt:=
 ⟨(posN n a x k).1,(l.getD k ⟨0,0,false⟩).at1,(l.getD k ⟨0,0,false⟩).len,id,zh9 ((if (l.getD k ⟨0,0,false⟩).wr then 2 else 0)+(if k+1<l.length then 1 else 0)) (posN n a x k).2⟩
def Tryz.ppTo (n id a:Int) (x:Bool) (l:List Sg) (k:Nat):List Pt:=(List.range k).map (ppAt n id a x l)
theorem Tryz.zAb (n id a:Int) (x:Bool) (l:List Sg) (k:Nat):ppTo n id a x l (k+1)=ppTo n id a x l k++ [ppAt n id a x l k]:=by simp [ppTo,List.range_succ]
theorem Tryz.zfb (n id a:Int) (x:Bool) (l:List Sg) (k:Nat):(ppTo n id a x l k).length=k:=by simp [ppTo]
def Tryz.zoc (w:World) (b2:Nat) (v:Value) (ps:List Pt):Prop:=OwnR 107 5 w b2 v ps.length (zc6 ps)
def Tryz.zJx (b2:Nat) (v:Value) (ps:List Pt) (F:Nat→Prop) (w:World):Prop:=zoc w b2 v ps∧ ∀b,v.ownBlock=some b→F b
def Tryz.ppG (b2 base:Nat) (v:Value) (p1 p2:List Pt):Gho where
 fact k q F w:=match k with|0=>True|1=>zJx b2 v p1 F w|_=> ∃u,q base=some u∧zJx b2 u p2 F w
 loc:=fun k q q' F w w' h hq hb hs=>by
  match k,h with
  | 0,_=>trivial
  | 1,⟨h7,h8⟩=>exact ⟨OwnR.kept h7 fun b e=>hb b (h8 b e),h8⟩
  | k+2,⟨u,h7,h8,h9⟩=>exact ⟨u,hq _ _ h7,OwnR.kept h8 fun b e=>hb b (h9 b e),h9⟩
theorem Tryz.zJV:(prog.info? 107).map (fun i=>(i.zero.isSome,i.size,i.bytes))=some (true,5,24):=by kernel_rfl
theorem Tryz.zH9:((prog.info? 107).bind (·.zero)).map (·.cells.size)=some 5:=by kernel_rfl
set_option maxRecDepth 10000 in
theorem Tryz.zu2 {ρ:Val} {w0:World} {K:Nat→Prop} {b2 base:Nat} {v:Value} {p1:List Pt} {p:Pt} (hv2:ρ.v 2=v) (h9:(lnv 6).den ρ=p.at0) (h3:(u64v 3).den ρ=p.a) (h4:(u32v 4).den ρ=p.ln) (hf:(u16v 5).den ρ=p.f) (hnx:(u16v 8).den ρ=p.nx)
  (hb2:b2≤w0.heap.size) (hK: ∀b,v.ownBlock=some b→K b) (hl:p1.length≤100000):zES prog ρ w0 K (ppG b2 base v p1 (p1++ [p])) (ppA base):=by
 intro j w F n us bb o cap vals ty hus hcells hxs hnone hbase hF hsz hfa
 have hb:n=base:=hbase (by show (1:Nat)≠0;decide)
 subst hb
 obtain ⟨f5,f6⟩:=hfa
 have hus:=R_val rfl hus
 have hus:us=v:=by rw [hus];exact hv2
 subst hus
 obtain ⟨x0,_,rfl,e0,hxs⟩:=hxs
 obtain ⟨x1,_,rfl,e1,hxs⟩:=hxs
 obtain ⟨x2,_,rfl,e2,hxs⟩:=hxs
 obtain ⟨x3,_,rfl,e3,hxs⟩:=hxs
 obtain ⟨x4,_,rfl,e4,hxs⟩:=hxs
 have hxs:_= []:=hxs
 subst hxs
 have e0:x0= .int .i64 p.at0:=by rw [show x0= .int .i64 (SE.den ρ (lnv 6)) from e0,h9]
 have e1:x1= .int .u64 p.a:=by rw [show x1= .int .u64 (SE.den ρ (u64v 3)) from e1,h3]
 have e2:x2= .int .u32 p.ln:=by rw [show x2= .int .u32 (SE.den ρ (u32v 4)) from e2,h4]
 have e3:x3= .int .u16 p.f:=by rw [show x3= .int .u16 (SE.den ρ (u16v 5)) from e3,hf]
 have e4:x4= .int .u16 p.nx:=by rw [show x4= .int .u16 (SE.den ρ (u16v 8)) from e4,hnx]
 subst e0 e1 e2 e3 e4
 have hinfo:=zJV
 have hinfoZ:=zH9
 cases hi:prog.info? 107 with
 | none=>rw [hi] at hinfo;cases hinfo
 | some i=>
 rw [hi] at hinfo hinfoZ
 simp only [Option.map_some,Option.some.injEq,Prod.mk.injEq] at hinfo
 obtain ⟨i1,i2,i3⟩:=hinfo
 obtain ⟨z,hz⟩:=Option.isSome_iff_exists.1 i1
 simp only [Option.bind_some,hz,Option.map_some,Option.some.injEq] at hinfoZ
 obtain ⟨u,w',h1,h2,h3,h4,h5⟩:=run_append_own_at (P:=prog) w b2 103 ty 107 i z 5 24 (by kernel_rfl) hi hz i2 i3 hinfoZ (by decide) us p1.length (zc6 p1) f5 ⟨bb,o,none⟩ 1 cap p.cells rfl
  (fun q y hy=>by rw [Dw.addr_add];exact hcells q y hy) (fun y hy=>by simp only [Pt.cells,List.mem_cons,List.not_mem_nil,or_false] at hy;rcases hy with rfl|rfl|rfl|rfl|rfl<;>rfl) (by unfold maxLen;omega) (by omega) (by omega)
 have hseg:zc6 p1++p.cells=zc6 (p1++ [p]):=by simp [zc6]
 have hown:zoc w' b2 u (p1++ [p]):=by
  unfold zoc OwnR
  rw [←hseg,List.length_append]
  exact h2
 have hub:=OwnR.lt hown
 have hub1: ∀b,u.ownBlock=some b→us.ownBlock=some b∨w.heap.size≤b:=fun b hb=>by
  rcases h5 with h5|h5
  ·exact .inl (h5▸hb)
  ·rw [hb] at h5;cases h5;exact .inr (Nat.le_refl _)
 have hmv:Dw.Mv (fun b=>us.ownBlock=some b) w w':=⟨h3.os,h3.tape,h3.output,h3.size,fun b hb hn=>h3.block b hb (fun e=>hn e.symm)⟩
 refine ⟨u,w',[u],fun b=>F b∨u.ownBlock=some b,h1,rfl,⟨⟨⟨0,0,0,some u⟩,?_,rfl⟩,OwnR.one hown,fun _ h=>(by cases h)⟩,⟨u,zbY,hown,fun b hb=> .inr hb⟩,?_,hmv.mono fun b hb=>⟨f6 b hb,.inr (hK b hb)⟩⟩
 ·show jq j n _ n=_
  unfold jq
  rw [if_pos ⟨Nat.le_refl _,by simp⟩]
  simp
 ·rintro b (hb|hb)
  ·exact ⟨Nat.lt_of_lt_of_le (hF b hb) hmv.size,.inl hb⟩
  ·refine ⟨(hub b hb).2,?_⟩
   rcases hub1 b hb with h|h
   ·exact .inl (f6 b h)
   ·exact .inr h
structure Tryz.PpD (ρ:Val) (m k n id a fl na:Int) (s:Sg) (x nx:Bool) (sv ov:Value):Prop where
 d0:(lnv 0).den ρ=m
 d1:(lnv 1).den ρ=k
 d2:(lnv 2).den ρ=n
 d3:(u64v 3).den ρ=s.at1
 d4:(u32v 4).den ρ=s.len
 d5:(u16v 5).den ρ=id
 d6:(lnv 6).den ρ=a
 d8:(u16v 8).den ρ=fl
 d9:(lnv 9).den ρ=na
 b0:ρ.b 0=s.wr
 b1:ρ.b 1=x
 b2:ρ.b 2=nx
 v1:ρ.v 1=sv
 v2:ρ.v 2=ov
theorem Tryz.ppD {m k n id a fl na:Int} {s:Sg} {x nx:Bool} {sv ov:Value} (hm:0≤m∧m<64000) (hk:0≤k∧k<64000) (hn:0≤n∧n<64000) (hid:0≤id∧id<65536) (ha:0≤a∧a<64000) (hf:0≤fl∧fl<65536) (hna:0≤na∧na<64000) (hs:s.ok):
  ∃ ρ,PpD ρ m k n id a fl na s x nx sv ov:=
 ⟨vof [m,k,n,s.at1,s.len,id,a,0,fl,na] [s.wr,x,nx] [undef,sv,ov],zat hm.1 (by show m<_;omega),zat hk.1 (by show k<_;omega),zat hn.1 (by show n<_;omega),zaG hs.1 hs.2.1,zbx hs.2.2.1 hs.2.2.2,zbD hid.1 hid.2,zat ha.1 (by show a<_;omega),zbD hf.1 hf.2,zat hna.1 (by show na<_;omega),rfl,rfl,rfl,rfl,rfl⟩
set_option maxRecDepth 100000 in
theorem Tryz.zsk {A:Nat→Prop} {w:World} {v:Value} {l:List Sg} {n id a:Int} {x:Bool} (h:SegV A w v l) (hm:zbv l=0) (hln:(l.length:Int)≤n) (hn:1≤n∧n≤32768) (ha:0≤a∧a<n) (hid:0≤id∧id<n):
    Calls prog 42 #[posV a x,.int .i64 n,.int .i64 id,v] w fun e w'=>(∃u,e= .returned (.tuple #[u,.int .i64 0])∧zoc w' w.heap.size u (ppTo n id a x l l.length))∧Below w.heap.size w w':=by
  have hmay:=fun w1 (hb:Below w.heap.size w w1)=>zBa (h.below hb) (by omega)
  rw [hm] at hmay
  obtain ⟨sa,cs,rfl,hok,hr⟩:=h
  have hA:=(Below.refl w.heap.size w).alloc (Nat.le_refl _)
  have i1: ¬id<0:=by omega
  have i2: ¬n≤id:=by omega
  have i3: ¬n<(l.length:Int):=by omega
  have i4: ¬a<0:=by omega
  have i5: ¬n≤a:=by omega
  have i6:1≤n:=hn.1
  have i7:n≤32768:=hn.2
  unfold posV
  go_enter func42,ntmps42
  go_wp2_with (first
    | (go_at_call 54;refine (hmay _ (hA _)).mono ?_;rintro e w1 ⟨rfl,hb1⟩
       have kp:=(Cl.new w _ _).below hb1 (by simp)
       have c0:=kp.cell 0 _ rfl;have c1:=kp.cell 1 _ rfl)
    | go_in)
  rename_i K hK
  obtain ⟨R0,hR0⟩: ∃R0,R0=w.heap.size:=⟨_,rfl⟩
  obtain ⟨W,hW⟩: ∃W,W=w1.alloc (Obj.cells #[.int .i64 a,.bool x] 35):=⟨_,rfl⟩
  have hbW:Below R0 w W:=by rw [hW,hR0];exact ((hA _).trans (hb1.mono (by simp))).alloc (Nat.le_trans (by simp) hb1.size) _
  have oW:Own W R0 [.int .i64 a,.bool x]:=by
    rw [hW,hR0]
    have e1:=hb1.size
    simp only [za8] at e1
    exact ((zg9 w _ _).kept (hb1.block w.heap.size (by simp))).kept (heap_alloc_old w1 _ (h:=by omega))
  have hWs:R0+1≤W.heap.size:=by
    have e1:=hb1.size
    simp only [za8] at e1
    rw [hW,za8];omega
  rw [←hW]
  clear hW hmay hA c0 c1 kp hb1
  have hrs:l= []∨ ∃R o,sa=some ⟨R,o,none⟩∧w.rangeAt R o (zaS l):=hr.imp_right fun ⟨R,o,e,_,h⟩=>⟨R,o,e,h⟩
  rw [←hR0]
  have tail: ∀ {a2:Act} {w2:World} {u:Value},a2.tmps.size=86→a2.defers= []→a2.tmps.getD 11 undef=u→zoc w2 (R0+1) u (ppTo n id a x l l.length)→Below R0 w w2→K a2 w2:=fun {a2 w2 u} z1 z2 z3 z4 z5=>by
    refine hK _ _ ?_
    clear hK
    obtain ⟨tmps,dfr⟩:=a2
    have z2:dfr= []:=z2
    have z1:tmps.size=86:=z1
    have z3:tmps.getD 11 undef=u:=z3
    subst z2
    go_wp2_with fail
    refine bodyPost_ret (v:= .tuple #[u,.int .i64 0]) ?_ rfl ⟨⟨u,rfl,OwnR.mono z4 (by omega)⟩,hR0▸z5⟩
    rw [Array.getD_eq_getD_getElem?,Array.getElem?_eq_getElem (by omega)] at z3
    simp [results,results42,z1]
    try exact z3
  refine zby (c':= .loop (zaK prog [0,0,1,0,1,1,1,1,1,42])) (by kernel_rfl) ?_
  refine zbJ (fun (y:Nat×Value) a' w'=>y.1≤l.length∧a'.tmps.size=86∧a'.defers= []∧([1,2,3,4,11,12].map fun t=>a'.tmps.getD t undef)= [.int .i64 n,.int .i64 id,.slice sa l.length cs,.pointer (some ⟨R0,0,none⟩),y.2,.int .i64 y.1]∧
      Own w' R0 [.int .i64 (posN n a x y.1).1,.bool (posN n a x y.1).2]∧zoc w' (R0+1) y.2 (ppTo n id a x l y.1)∧Below R0 w w'∧R0+1≤w'.heap.size)
    (fun y=>l.length-y.1) (fun y a1 w1 hI=> ?_) (0,.slice none 0 0) _ _ ⟨Nat.zero_le _,rfl,rfl,rfl,oW,OwnR.nil _ _ _ _,hbW,hWs⟩
  obtain ⟨k,vk⟩:=y
  obtain ⟨hk,q0,qd,hsl,oP,hov,hbl,hsz⟩:=hI
  simp only at hk hsl oP hov
  simp only [List.map_cons,List.map_nil,List.cons.injEq,and_true] at hsl
  obtain ⟨s1,s2,s3,s4,s11,s12⟩:=hsl
  have hvo:=OwnR.one hov
  have hvlt:=OwnR.lt hov
  have hpk:=zjz (x:=x) ha k
  have hpk1:=zjz (x:=x) ha (k+1)
  have hwk:=zeu k (by omega)
  have hKw: ∀b,(b=R0∨vk.ownBlock=some b)→b<w1.heap.size:=fun b hb=>by
    rcases hb with rfl|hb
    · omega
    · exact (hvlt b hb).2
  by_cases hkl:k<l.length
  · rcases hrs with h0|⟨R,p,rfl,hrs⟩
    · rw [h0] at hkl;simp at hkl
    have hRl:=zcF hrs (by intro h0;rw [h0] at hkl;simp at hkl)
    have hrs1:=zaV hrs (hbl.block R (by omega))
    have hxs:=zb0 hrs1 k hkl
    have hxo:=hok l[k] (List.getElem_mem hkl)
    have hnR: ¬(R=R0∨vk.ownBlock=some R):=by
      rintro (e|e)
      · omega
      · have:=(hvlt R e).1;omega
    have hsx:l.getD k ⟨0,0,false⟩=l[k]:=by simp [List.getD_eq_getElem?_getD,hkl]
    have ha0:(ppAt n id a x l k).a=l[k].at1:=by simp only [ppAt,hsx]
    have hl0:(ppAt n id a x l k).ln=l[k].len:=by simp only [ppAt,hsx]
    have hff:(ppAt n id a x l k).nx=zh9 ((if l[k].wr then 2 else 0)+(if k+1<l.length then 1 else 0)) (posN n a x k).2:=by simp only [ppAt,hsx]
    have hfb:0≤(ppAt n id a x l k).nx∧(ppAt n id a x l k).nx<65536:=by
      rw [hff];unfold zh9
      repeat' split
      all_goals decide
    have hj1:jOf [(R0,0),(R,p+3*k)] 1=some ⟨R0,0,0,none⟩:=rfl
    have hj2:jOf [(R0,0),(R,p+3*k)] 2=some ⟨R,p+3*k,0,none⟩:=rfl
    have hG:(ppG (R0+1) 4 vk (ppTo n id a x l k) (ppTo n id a x l k++ [ppAt n id a x l k])).G 1 (jOf [(R0,0),(R,p+3*k)]) w1:=
      ⟨fun b=>vk.ownBlock=some b,fun b hb'=>⟨(hvlt b hb').2,fun hmn=>by
        have:=zdp hmn
        simp only [List.map_cons,List.map_nil,List.mem_cons,List.not_mem_nil,or_false] at this
        have h1:=(hvlt b hb').1
        rcases this with e|e<;>omega⟩,hov,fun b hb'=>hb'⟩
    obtain ⟨ρ,D⟩:=ppD (m:=l.length) (k:=k) (n:=n) (id:=id) (a:=(posN n a x k).1) (fl:=(ppAt n id a x l k).nx) (na:=(posN n a x (k+1)).1) (s:=l[k]) (x:=(posN n a x k).2) (nx:=(posN n a x (k+1)).2) (sv:= .slice (some ⟨R,p,none⟩) l.length cs) (ov:=vk) (by omega) (by omega) (by omega) (by omega) (by omega) hfb (by omega) hxo
    have dk1: ∀ {ρ:Val},PpD ρ l.length k n id (posN n a x k).1 (ppAt n id a x l k).nx (posN n a x (k+1)).1 l[k] (posN n a x k).2 (posN n a x (k+1)).2 (.slice (some ⟨R,p,none⟩) l.length cs) vk→(SE.bin .add .i64 (lnv 1) (.lit 1)).den ρ=((k+1:Nat):Int):=fun D=>by rw [den_add,D.d1,zad,hwk]
    have hGo: ∀ {ρ:Val} {w0:World} {K:Nat→Prop} {g:Gho},PpD ρ l.length k n id (posN n a x k).1 (ppAt n id a x l k).nx (posN n a x (k+1)).1 l[k] (posN n a x k).2 (posN n a x (k+1)).2 (.slice (some ⟨R,p,none⟩) l.length cs) vk→zaQ prog ρ w0 K g ppGo:=fun D=>
      zaw (Dw.enters_of (by kernel_rfl)) (by rfl) [posV (posN n a x k).1 (posN n a x k).2,.int .i64 1,.int .i64 n] (.tuple #[posV (posN n a x (k+1)).1 (posN n a x (k+1)).2,.int .i64 0]) (fun j=>zab (zbg (zab (zac D.d6) (zab (zap D.b1) RL.nil))) (zab (zac rfl) (zab (zac D.d2) RL.nil))) (fun j=>zcC (zab (zbg (zab (zac D.d9) (zab (zap D.b2) RL.nil))) (zab (zac rfl) RL.nil))) (fun w F q hf=>zsn hn hpk ⟨by decide,hn.1⟩ w)
    have slots: ∀ {ρ:Val},PpD ρ l.length k n id (posN n a x k).1 (ppAt n id a x l k).nx (posN n a x (k+1)).1 l[k] (posN n a x k).2 (posN n a x (k+1)).2 (.slice (some ⟨R,p,none⟩) l.length cs) vk→ ∀t∈zg3,Dw.R ρ (jOf [(R0,0),(R,p+3*k)]) t.2 (a1.tmps.getD t.1 undef):=fun {ρ} D t ht=>by
      simp only [zg3,List.mem_cons,List.not_mem_nil,or_false] at ht
      rcases ht with rfl|rfl|rfl|rfl|rfl|rfl
      · rw [s1];exact zac D.d2
      · rw [s2];exact zac D.d5
      · rw [s3];exact ⟨D.v1.symm,_,_,_,rfl,D.d0.symm,⟨R,p,_,k,rfl,hj2,rfl,D.d1,hkl,rfl⟩,trivial⟩
      · rw [s4];exact ⟨_,hj1,rfl⟩
      · rw [s11];exact za5 D.v2 hvo
      · rw [s12];exact zac D.d1
    have fin: ∀ {ρ:Val} {j2:J} {a2:Act} {w2:World},PpD ρ l.length k n id (posN n a x k).1 (ppAt n id a x l k).nx (posN n a x (k+1)).1 l[k] (posN n a x k).2 (posN n a x (k+1)).2 (.slice (some ⟨R,p,none⟩) l.length cs) vk→a2.tmps.size=86→a2.defers= []→Dw.Mv (fun b=>b=R0∨vk.ownBlock=some b) w1 w2→
        (ppG (R0+1) 4 vk (ppTo n id a x l k) (ppTo n id a x l k++ [ppAt n id a x l k])).G 2 j2 w2→Own w2 R0 (AV.valL ρ (lcOf j2) [.int .i64 (lnv 9),.bool (.var 2)])→([1,2,3,4,11,12].map fun t=>a2.tmps.getD t undef)= [.int .i64 n,.int .i64 id,.slice (some ⟨R,p,none⟩) l.length cs,.pointer (some ⟨R0,0,none⟩),(AV.opq 4 none).val ρ (lcOf j2),.int .i64 (k+1:Nat)]→
        ∃ y':Nat×Value,l.length-y'.1<l.length-k∧y'.1≤l.length∧a2.tmps.size=86∧a2.defers= []∧([1,2,3,4,11,12].map fun t=>a2.tmps.getD t undef)= [.int .i64 n,.int .i64 id,.slice (some ⟨R,p,none⟩) l.length cs,.pointer (some ⟨R0,0,none⟩),y'.2,.int .i64 y'.1]∧
          Own w2 R0 [.int .i64 (posN n a x y'.1).1,.bool (posN n a x y'.1).2]∧zoc w2 (R0+1) y'.2 (ppTo n id a x l y'.1)∧Below R0 w w2∧R0+1≤w2.heap.size:=fun {ρ j2 a2 w2} D r1 r2 r3 r4 r5 r6=>by
      obtain ⟨F2,_,u,hu,hou,_⟩:=r4
      rw [zcN hu] at r6
      simp only [AV.valL,AV.val,D.d9,zaA,D.b2] at r5
      refine ⟨(k+1,u),by simp only;omega,hkl,r1,r2,r6,r5,?_,⟨r3.os.trans hbl.os,r3.tape.trans hbl.tape,r3.output.trans hbl.output,Nat.le_trans hbl.size r3.size,fun b hb'=>(r3.block b (by have:=hbl.size;omega) fun e=>by
        rcases e with e|e
        · omega
        · have:=(hvlt b e).1;omega).trans (hbl.block b hb')⟩,Nat.le_trans hsz r3.size⟩
      rw [zAb];exact hou
    cases hwr:l[k].wr
    · by_cases hk1:k+1<l.length
      · refine wp_mono (zaz (ρ:=ρ) (K:=fun b=>b=R0∨vk.ownBlock=some b) (g:=ppG (R0+1) 4 vk (ppTo n id a x l k) (ppTo n id a x l k++ [ppAt n id a x l k])) (bl:= [(R0,0),(R,p+3*k)]) mixed zz3 zDF hKw
          ⟨za6 oP (zab (zac D.d6) (zab (zap D.b1) RL.nil)) (.inl rfl),zba hxs (by unfold Sg.cells;simp) (zab (zac D.d3) (zab (zac D.d4) (zab (zap D.b0) RL.nil))) hnR,trivial⟩
          (zb4 (by simp;omega)) hG ⟨zaw (Dw.enters_of (by kernel_rfl)) (by rfl) [.int .u16 1,.bool (posN n a x k).2,.bool false] (.int .u16 (zh9 1 (posN n a x k).2)) (fun j=>zab (zac rfl) (zab (zap D.b1) (zab (zap rfl) RL.nil))) (fun j=>zac (D.d8.trans (by rw [hff,hwr];rw [if_pos hk1];rfl))) (fun w F q hf=>zgy 1 (by decide) _ w),hGo D,trivial⟩ trivial ⟨zu2 D.v2 D.d6 (D.d3.trans ha0.symm) (D.d4.trans hl0.symm) D.d5 (D.d8.trans rfl) (by omega) (fun b hb=> .inr hb) (by rw [zfb];omega),trivial⟩ q0 qd (slots D)
          (zaa.2 ⟨by rw [zaY,D.d0,D.d1];exact decide_eq_true (by omega),zaa.2 ⟨by rw [zaA,D.b0];exact hwr,zaa.2 ⟨by rw [zaY,D.d0,dk1 D];exact decide_eq_true (by omega),zae.2 trivial⟩⟩⟩)) fun ex a2 w2 hh=> ?_
        obtain ⟨q,hq,hto,lf,hlf,rfl,hsz2,j2,hdf2,he⟩:=hh
        unfold zuU at hq
        simp only [List.mem_cons,List.not_mem_nil,or_false] at hq
        subst hq
        cases hlf
        have hs2:=zaB he.ret
        refine fin D hsz2 hdf2 he.mv he.gho ((he.rows.1 _ (he.sub _ _ hj1)).2 (.inr (.inl rfl)) rfl) ?_
        rw [hs2]
        simp only [AV.valL,AV.val,D.v1,D.d2,D.d5,dk1 D,zag (he.sub _ _ hj1)]
      · refine wp_mono (zaz (ρ:=ρ) (K:=fun b=>b=R0∨vk.ownBlock=some b) (g:=ppG (R0+1) 4 vk (ppTo n id a x l k) (ppTo n id a x l k++ [ppAt n id a x l k])) (bl:= [(R0,0),(R,p+3*k)]) mixed zz7 zDH hKw
          ⟨za6 oP (zab (zac D.d6) (zab (zap D.b1) RL.nil)) (.inl rfl),zba hxs (by unfold Sg.cells;simp) (zab (zac D.d3) (zab (zac D.d4) (zab (zap D.b0) RL.nil))) hnR,trivial⟩
          (zb4 (by simp;omega)) hG ⟨zaw (Dw.enters_of (by kernel_rfl)) (by rfl) [.int .u16 0,.bool (posN n a x k).2,.bool false] (.int .u16 (zh9 0 (posN n a x k).2)) (fun j=>zab (zac rfl) (zab (zap D.b1) (zab (zap rfl) RL.nil))) (fun j=>zac (D.d8.trans (by rw [hff,hwr];rw [if_neg hk1];rfl))) (fun w F q hf=>zgy 0 (by decide) _ w),hGo D,trivial⟩ trivial ⟨zu2 D.v2 D.d6 (D.d3.trans ha0.symm) (D.d4.trans hl0.symm) D.d5 (D.d8.trans rfl) (by omega) (fun b hb=> .inr hb) (by rw [zfb];omega),trivial⟩ q0 qd (slots D)
          (zaa.2 ⟨by rw [zaY,D.d0,D.d1];exact decide_eq_true (by omega),zaa.2 ⟨by rw [zaA,D.b0];exact hwr,zaa.2 ⟨by rw [zaY,D.d0,dk1 D];exact decide_eq_false (by omega),zae.2 trivial⟩⟩⟩)) fun ex a2 w2 hh=> ?_
        obtain ⟨q,hq,hto,lf,hlf,rfl,hsz2,j2,hdf2,he⟩:=hh
        unfold zuY at hq
        simp only [List.mem_cons,List.not_mem_nil,or_false] at hq
        subst hq
        cases hlf
        have hs2:=zaB he.ret
        refine fin D hsz2 hdf2 he.mv he.gho ((he.rows.1 _ (he.sub _ _ hj1)).2 (.inr (.inl rfl)) rfl) ?_
        rw [hs2]
        simp only [AV.valL,AV.val,D.v1,D.d2,D.d5,dk1 D,zag (he.sub _ _ hj1)]
    · by_cases hk1:k+1<l.length
      · refine wp_mono (zaz (ρ:=ρ) (K:=fun b=>b=R0∨vk.ownBlock=some b) (g:=ppG (R0+1) 4 vk (ppTo n id a x l k) (ppTo n id a x l k++ [ppAt n id a x l k])) (bl:= [(R0,0),(R,p+3*k)]) mixed zz1 zDE hKw
          ⟨za6 oP (zab (zac D.d6) (zab (zap D.b1) RL.nil)) (.inl rfl),zba hxs (by unfold Sg.cells;simp) (zab (zac D.d3) (zab (zac D.d4) (zab (zap D.b0) RL.nil))) hnR,trivial⟩
          (zb4 (by simp;omega)) hG ⟨zaw (Dw.enters_of (by kernel_rfl)) (by rfl) [.int .u16 3,.bool (posN n a x k).2,.bool false] (.int .u16 (zh9 3 (posN n a x k).2)) (fun j=>zab (zac rfl) (zab (zap D.b1) (zab (zap rfl) RL.nil))) (fun j=>zac (D.d8.trans (by rw [hff,hwr];rw [if_pos hk1];rfl))) (fun w F q hf=>zgy 3 (by decide) _ w),hGo D,trivial⟩ trivial ⟨zu2 D.v2 D.d6 (D.d3.trans ha0.symm) (D.d4.trans hl0.symm) D.d5 (D.d8.trans rfl) (by omega) (fun b hb=> .inr hb) (by rw [zfb];omega),trivial⟩ q0 qd (slots D)
          (zaa.2 ⟨by rw [zaY,D.d0,D.d1];exact decide_eq_true (by omega),zaa.2 ⟨by rw [zaA,D.b0];exact hwr,zaa.2 ⟨by rw [zaY,D.d0,dk1 D];exact decide_eq_true (by omega),zae.2 trivial⟩⟩⟩)) fun ex a2 w2 hh=> ?_
        obtain ⟨q,hq,hto,lf,hlf,rfl,hsz2,j2,hdf2,he⟩:=hh
        unfold zuS at hq
        simp only [List.mem_cons,List.not_mem_nil,or_false] at hq
        subst hq
        cases hlf
        have hs2:=zaB he.ret
        refine fin D hsz2 hdf2 he.mv he.gho ((he.rows.1 _ (he.sub _ _ hj1)).2 (.inr (.inl rfl)) rfl) ?_
        rw [hs2]
        simp only [AV.valL,AV.val,D.v1,D.d2,D.d5,dk1 D,zag (he.sub _ _ hj1)]
      · refine wp_mono (zaz (ρ:=ρ) (K:=fun b=>b=R0∨vk.ownBlock=some b) (g:=ppG (R0+1) 4 vk (ppTo n id a x l k) (ppTo n id a x l k++ [ppAt n id a x l k])) (bl:= [(R0,0),(R,p+3*k)]) mixed zz5 zDG hKw
          ⟨za6 oP (zab (zac D.d6) (zab (zap D.b1) RL.nil)) (.inl rfl),zba hxs (by unfold Sg.cells;simp) (zab (zac D.d3) (zab (zac D.d4) (zab (zap D.b0) RL.nil))) hnR,trivial⟩
          (zb4 (by simp;omega)) hG ⟨zaw (Dw.enters_of (by kernel_rfl)) (by rfl) [.int .u16 2,.bool (posN n a x k).2,.bool false] (.int .u16 (zh9 2 (posN n a x k).2)) (fun j=>zab (zac rfl) (zab (zap D.b1) (zab (zap rfl) RL.nil))) (fun j=>zac (D.d8.trans (by rw [hff,hwr];rw [if_neg hk1];rfl))) (fun w F q hf=>zgy 2 (by decide) _ w),hGo D,trivial⟩ trivial ⟨zu2 D.v2 D.d6 (D.d3.trans ha0.symm) (D.d4.trans hl0.symm) D.d5 (D.d8.trans rfl) (by omega) (fun b hb=> .inr hb) (by rw [zfb];omega),trivial⟩ q0 qd (slots D)
          (zaa.2 ⟨by rw [zaY,D.d0,D.d1];exact decide_eq_true (by omega),zaa.2 ⟨by rw [zaA,D.b0];exact hwr,zaa.2 ⟨by rw [zaY,D.d0,dk1 D];exact decide_eq_false (by omega),zae.2 trivial⟩⟩⟩)) fun ex a2 w2 hh=> ?_
        obtain ⟨q,hq,hto,lf,hlf,rfl,hsz2,j2,hdf2,he⟩:=hh
        unfold zuW at hq
        simp only [List.mem_cons,List.not_mem_nil,or_false] at hq
        subst hq
        cases hlf
        have hs2:=zaB he.ret
        refine fin D hsz2 hdf2 he.mv he.gho ((he.rows.1 _ (he.sub _ _ hj1)).2 (.inr (.inl rfl)) rfl) ?_
        rw [hs2]
        simp only [AV.valL,AV.val,D.v1,D.d2,D.d5,dk1 D,zag (he.sub _ _ hj1)]
  · have hkk:k=l.length:=by omega
    obtain ⟨ρ,D⟩:=ppD (m:=l.length) (k:=k) (n:=n) (id:=id) (a:=(posN n a x k).1) (fl:=0) (na:=0) (s:=⟨0,1,false⟩) (x:=(posN n a x k).2) (nx:=false) (sv:= .slice sa l.length cs) (ov:=vk) (by omega) (by omega) (by omega) (by omega) (by omega) (by omega) (by omega) zJN
    have hj1:jOf [(R0,0)] 1=some ⟨R0,0,0,none⟩:=rfl
    refine wp_mono (zaz (ρ:=ρ) (K:=fun b=>b=R0) (g:=Gho.none) (bl:= [(R0,0)]) mixed zDI zHn (fun b hb=>hKw b (.inl hb)) ⟨za6 oP (zab (zac D.d6) (zab (zap D.b1) RL.nil)) rfl,trivial⟩ (zb4 (by simp)) zaO trivial trivial trivial q0 qd ?_ (zaa.2 ⟨by rw [zaY,D.d0,D.d1];exact decide_eq_false (by omega),zae.2 trivial⟩)) fun ex a2 w2 hh=> ?_
    · intro t ht
      simp only [zfa,List.mem_cons,List.not_mem_nil,or_false] at ht
      rcases ht with rfl|rfl|rfl|rfl|rfl|rfl
      · rw [s1];exact zac D.d2
      · rw [s2];exact zac D.d5
      · rw [s3];exact ⟨D.v1.symm,_,_,_,rfl,D.d0.symm,trivial⟩
      · rw [s4];exact ⟨_,hj1,rfl⟩
      · rw [s11];exact za5 D.v2 hvo
      · rw [s12];exact zac D.d1
    · obtain ⟨q,hq,hto,lf,hlf,rfl,hsz2,j2,hdf2,he⟩:=hh
      unfold zz9 at hq
      simp only [List.mem_cons,List.not_mem_nil,or_false] at hq
      subst hq
      cases hlf
      have hs2:=zaB he.ret
      have hmv:=he.mv
      simp only [AV.valL,AV.val,D.v2,List.map_cons,List.map_nil,List.cons.injEq,and_true] at hs2
      have hb2:Below R0 w w2:=⟨hmv.os.trans hbl.os,hmv.tape.trans hbl.tape,hmv.output.trans hbl.output,Nat.le_trans hbl.size hmv.size,fun b hb'=>(hmv.block b (by have:=hbl.size;omega) fun e=>by omega).trans (hbl.block b hb')⟩
      show K a2 w2
      exact tail hsz2 hdf2 hs2 (hkk▸OwnR.kept hov fun b e=>hmv.block b (hvlt b e).2 fun e'=>by have:=(hvlt b e).1;omega) hb2
set_option maxRecDepth 100000 in
theorem Tryz.zwR {A:Nat→Prop} {w:World} {v:Value} {l:List Sg} {n id a:Int} {x:Bool} (h:SegV A w v l) (hl:l.length≤60000) (hm:zbv l≠0∨n<l.length) (hn:1≤n∧n≤32768) (ha:0≤a∧a<n) (hid:0≤id∧id<n):
    Calls prog 42 #[posV a x,.int .i64 n,.int .i64 id,v] w fun e w'=>e= .returned (.tuple #[.slice none 0 0,.int .i64 (if zbv l=0 then 2 else zbv l)])∧Below w.heap.size w w':=by
  have hmay:=fun w1 (hb:Below w.heap.size w w1)=>zBa (h.below hb) hl
  obtain ⟨sa,cs,rfl,hok,hr⟩:=h
  have hA:=(Below.refl w.heap.size w).alloc (Nat.le_refl _)
  obtain ⟨er,her⟩: ∃er,er=zbv l:=⟨_,rfl⟩
  rw [←her] at hm hmay ⊢
  clear her
  unfold posV
  by_cases h0:er=0
  · subst h0
    rw [if_pos rfl]
    have i3:n<(l.length:Int):=hm.resolve_left (fun h=>h rfl)
    clear hm
    have i1: ¬id<0:=by omega
    have i2: ¬n≤id:=by omega
    have i4: ¬a<0:=by omega
    have i5: ¬n≤a:=by omega
    have i6:1≤n:=hn.1
    have i7:n≤32768:=hn.2
    go_enter func42,ntmps42
    go_wp2_with (first
      | (go_at_call 54;refine (hmay _ (hA _)).mono ?_;rintro e w1 ⟨rfl,hb1⟩
         have kp:=(Cl.new w _ _).below hb1 (by simp)
         have c0:=kp.cell 0 _ rfl;have c1:=kp.cell 1 _ rfl)
      | go_in)
    go_ret2
    exact ⟨rfl,((hA _).trans (hb1.mono (by simp))).alloc (Nat.le_trans (by simp) hb1.size) _⟩
  · clear hm
    rw [if_neg h0]
    go_enter func42,ntmps42
    go_wp2_with (first
      | (go_at_call 54;refine (hmay _ (hA _)).mono ?_;rintro e w1 ⟨rfl,hb1⟩)
      | go_in)
    go_ret2
    exact ⟨rfl,(hA _).trans (hb1.mono (by simp))⟩
end Go.Proofs
namespace Go.Proofs
open Go.Dw
def Tryz.zpG:List Ent:=zJs
def Tryz.zuQ:List Sh:= []
def Tryz.zpH:List AV:= [.agg [.int .u64 (u64v 3),.int .u32 (u32v 4),.int .u16 (u16v 5),.int .u16 (u16v 6)]]
def Tryz.zDC:List (SB×Bool):= []
def Tryz.zzY:List Leaf:= [
 ⟨.opq 5 none,[],[],4,[]⟩]
def Tryz.zHk:List (List (SB×Bool)×Nat):= [
 ([], 0)]
theorem Tryz.zDB:(ev prog (zau zpG) 100000 (.call 38 zpH (zas 0 zuQ) (zaR zzY 0))).ways zDC=some zHk:=by kernel_rfl
theorem Tryz.zHl:(zai zuQ&&zaf zpG&&AV.smallL zpH&&zal zzY)=true:=by kernel_rfl
open Go.RowKit Go.Maps Go.Sort
theorem Tryz.zsC (p:Pt) (hp:p.ok) (w:World):
  Calls prog 38 #[.agg #[.int .u64 p.a,.int .u32 p.ln,.int .u16 p.f,.int .u16 p.nx]] w fun e w'=> ∃u,e= .returned u∧OwnR 5 1 w' w.heap.size u p.bytes.length (zbK p.bytes)∧Below w.heap.size w w':=by
 obtain ⟨ρ,d3,d4,d5,d6⟩: ∃ρ:Val,(u64v 3).den ρ=p.a∧(u32v 4).den ρ=p.ln∧(u16v 5).den ρ=p.f∧(u16v 6).den ρ=p.nx:=
  ⟨vof [0,0,0,p.a,p.ln,p.f,p.nx] [] [],zaG hp.a.1 hp.a.2,zbx hp.ln.1 hp.ln.2,zbD hp.f.1 hp.f.2,zbD hp.nx.1 hp.nx.2⟩
 let L:Nat→List Int:=fun k=>match k with
  | 0=> []|1=>bytesOf p.a 8|2=>bytesOf p.a 8++bytesOf p.ln 4|3=>bytesOf p.a 8++bytesOf p.ln 4++bytesOf p.f 2|_=>p.bytes
 have l1:(L 1).length=8:=by simp [L,zbQ]
 have l2:(L 2).length=12:=by simp [L,zbQ]
 have l3:(L 3).length=14:=by simp [L,zbQ]
 refine Calls.mono (zaD (ρ:=ρ) (K:=fun _=>False) (g:=rbG w.heap.size L) (bl:= []) (vals:= [.agg #[.int .u64 p.a,.int .u32 p.ln,.int .u16 p.f,.int .u16 p.nx]]) mixed zDB zHl (fun b h=>h.elim) trivial trivial ⟨fun _=>False,fun _ h=>h.elim,trivial⟩
  ⟨zuH (n:=8) (.inl ⟨rfl,rfl⟩) rfl (by rw [d3];rfl) (by decide) (Nat.zero_le _),zuH (n:=4) (.inr ⟨by decide,rfl⟩) rfl (by rw [d4];rfl) (by decide) (by omega),zuH (n:=2) (.inr ⟨by decide,rfl⟩) rfl (by rw [d5];rfl) (by decide) (by omega),zuH (n:=2) (.inr ⟨by decide,rfl⟩) rfl (by rw [d6];rfl) (by decide) (by omega),trivial⟩
  (zab (zbg (zab (zac d3) (zab (zac d4) (zab (zac d5) (zab (zac d6) RL.nil))))) RL.nil) (zae.2 trivial)) fun e w' hh=> ?_
 obtain ⟨_,j,he⟩:=zcr hh
 have hb:=zar he (fun _ h=>h)
 obtain ⟨F2,_,u,hu,hou,_⟩:=he.gho
 exact ⟨u,he.ret.trans (by rw [zcN hu]),hou,hb⟩
end Go.Proofs
namespace Go.Proofs
open Go.Dw Go.RowKit
def Tryz.zcu:AV:= .sx 1 (lnv 4) 3 []
def Tryz.zfL:List AV:= [.bool (.lit true),.int .i64 (szv 0),.int .u64 (u64v 1),.int .u64 (u64v 2),.int .u64 (u64v 3)]
def Tryz.zDR:AV:= .agg [.int .i64 (lnv 14),.bool (.var 0)]
def Tryz.zJz (q:Nat):Ent:=⟨42,[zDR,.int .i64 (szv 0),.int .i64 (.var 5),zcu],0,q,1,.tup [.opq q (some (lnv 17)),.int .i64 (.var 7)],1⟩
def Tryz.zKp:Ent:=⟨20,[zDR,.int .i64 (lnv 17),.int .i64 (szv 0)],2,0,0,.tup [.agg [.int .i64 (lnv 15),.bool (.var 1)],.int .i64 (.lit 0)],2⟩
def Tryz.zeF (b q:Nat):LEnt:=⟨[0,1,0,1,1,11],66,1,[(0,.cst 0 none),(6,.ptr b 0),(7,.ptr (b+1) 0),(10,.ptr (b+2) 0),(12,.opq q (some (lnv 17))),(13,.int .i64 (.var 7)),(14,.int .i64 (.lit 0))],[],[(b,zfL)],0,0,[⟨.lit true,.exit 0,[(6,.ptr b 0),(7,.ptr (b+1) 0),(10,.ptr (b+2) 0),(12,.opq q (some (lnv 17))),(13,.int .i64 (.var 7))],2⟩]⟩
def Tryz.poBytesE:Ent:=⟨38,[.agg [.int .u64 (u64v 10),.int .u32 (u32v 11),.int .u16 (u16v 12),.int .u16 (u16v 13)]],0,3,1,.opq 3 none,1⟩
def Tryz.zDQ:Ent:=⟨39,[.cst 0 none,.int .u64 (.bin .add .u64 (u64v 1) (.bin .mul .u64 (.lit 16) (.wrap .u64 (.var 8)))),.opq 3 none],1,0,0,.int .i64 (.lit 0),2⟩
end Go.Proofs
namespace Go.Proofs
open Go.Dw
def Tryz.zpX:List Ent:= [poBytesE,zDQ]
def Tryz.zu5:List Sh:= [.ro zfL,.ro [.int .i64 (.var 8),.int .u64 (u64v 10),.int .u32 (u32v 11),.int .u16 (u16v 12),.int .u16 (u16v 13)]]
def Tryz.zfc:List (Nat×AV):= [(0,.cst 0 none),(6,.ptr 1 0),(7,.cst 3 none),(10,.cst 4 none),(12,.sx 2 (lnv 17) 5 [(lnv 6,2)]),(13,.int .i64 (.var 7)),(14,.int .i64 (lnv 6))]
def Tryz.zl6:List LEnt:= []
def Tryz.zl7:List AEnt:= []
def Tryz.zu6:Option AV:=none
def Tryz.zDP:List (SB×Bool):= [(.cmp .lss (lnv 6) (lnv 17),true)]
def Tryz.zAh:List zbo:= [
 ⟨.normal,[0,6,7,10,12,13,14],none,⟨.tup [.cst 0 none,.ptr 1 0,.cst 3 none,.cst 4 none,.sx 2 ((lnv 17)) 5 [((lnv 6),2)],.int .i64 (.var 7),.int .i64 (.bin .add .i64 (lnv 6) (.lit 1))],[(1,[.bool (.lit true),.int .i64 (szv 0),.int .u64 (u64v 1),.int .u64 (u64v 2),.int .u64 (u64v 3)])],[],2,[]⟩⟩]
def Tryz.zAg:List (List (SB×Bool)×Nat):= [
 ([], 0)]
theorem Tryz.zDO:(evL prog (zau zpX) (zaF zl6) (zaE zl7) 100000 (.code (zaK prog [0,0,1,0,1,1,11]) [0,0,1,0,1,1,11] 66 (envS 66 zfc zu6) (zas 0 zu5) (zaJ zAh 0))).ways zDP=some zAg:=by kernel_rfl
theorem Tryz.zHq:(zai zu5&&zaf zpX&&zam zl6&&zan zl7&&zaq zfc&&zak zAh&&zaH 66 zfc&&Nat.ble 66 zaP&&zaC zu6)=true:=by kernel_rfl
def Tryz.zl5:List Ent:= []
def Tryz.zpV:List Sh:= [.ro zfL]
def Tryz.zd3:List (Nat×AV):= [(0,.cst 0 none),(6,.ptr 1 0),(7,.cst 3 none),(10,.cst 4 none),(12,.sx 2 (lnv 17) 5 []),(13,.int .i64 (.var 7)),(14,.int .i64 (lnv 6))]
def Tryz.zjA:List LEnt:= []
def Tryz.zjB:List AEnt:= []
def Tryz.zpW:Option AV:=none
def Tryz.zAf:List (SB×Bool):= [(.cmp .lss (lnv 6) (lnv 17),false)]
def Tryz.zu4:List zbo:= [
 ⟨(.exit 0),[6,7,10,12,13],none,⟨.tup [.ptr 1 0,.cst 3 none,.cst 4 none,.sx 2 ((lnv 17)) 5 [],.int .i64 (.var 7)],[(1,[.bool (.lit true),.int .i64 (szv 0),.int .u64 (u64v 1),.int .u64 (u64v 2),.int .u64 (u64v 3)])],[],0,[]⟩⟩]
def Tryz.zu3:List (List (SB×Bool)×Nat):= [
 ([], 0)]
theorem Tryz.zAe:(evL prog (zau zl5) (zaF zjA) (zaE zjB) 100000 (.code (zaK prog [0,0,1,0,1,1,11]) [0,0,1,0,1,1,11] 66 (envS 66 zd3 zpW) (zas 0 zpV) (zaJ zu4 0))).ways zAf=some zu3:=by kernel_rfl
theorem Tryz.zDN:(zai zpV&&zaf zl5&&zam zjA&&zan zjB&&zaq zd3&&zak zu4&&zaH 66 zd3&&Nat.ble 66 zaP&&zaC zpW)=true:=by kernel_rfl
def Tryz.zu7:List Ent:= [zJz 4,zKp]
def Tryz.zAi:List Sh:= []
def Tryz.zu8:List AV:= [.cst 0 none,prg,zDR,.int .i64 (.var 5),zcu]
def Tryz.zpY:List LEnt:= [zeF 1 4]
def Tryz.zpZ:List AEnt:= []
def Tryz.zHs:List (SB×Bool):= []
def Tryz.zFD:List Leaf:= [
 ⟨.tup [.agg [.int .i64 (lnv 15),.bool (.var 1)],.bool (.lit true)],[],[],2,[]⟩,
 ⟨.tup [.agg [.int .i64 (lnv 15),.bool (.var 1)],.bool (.lit false)],[],[],2,[]⟩]
def Tryz.zFC:List (List (SB×Bool)×Nat):= [
 ([((.cmp .eql (.var 7) (.lit 0)),true)],0),
 ([((.cmp .eql (.var 7) (.lit 0)),false)],1)]
theorem Tryz.zHr:(evL prog (zau zu7) (zaF zpY) (zaE zpZ) 100000 (.call 11 zu8 (zas 0 zAi) (zaR zFD 0))).ways zHs=some zFC:=by kernel_rfl
theorem Tryz.zJy:(zai zAi&&zaf zu7&&zam zpY&&zan zpZ&&AV.smallL zu8&&zal zFD)=true:=by kernel_rfl
open Go.RowKit Go.Maps Go.Sort
structure Tryz.PoD (ρ:Val) (r:Rg) (len n5 k e x8:Int) (p:Pt) (x14 x15 l17:Int) (b0 b1:Bool) (mv sv pv c3 c4:Value):Prop where
 n:(szv 0).den ρ=r.n
 d:(u64v 1).den ρ=r.d
 v:(u64v 2).den ρ=r.v
 c:(u64v 3).den ρ=r.c
 d4:(lnv 4).den ρ=len
 i5:ρ.i 5=n5
 d6:(lnv 6).den ρ=k
 i7:ρ.i 7=e
 i8:ρ.i 8=x8
 d10:(u64v 10).den ρ=p.a
 d11:(u32v 11).den ρ=p.ln
 d12:(u16v 12).den ρ=p.f
 d13:(u16v 13).den ρ=p.nx
 d14:(lnv 14).den ρ=x14
 d15:(lnv 15).den ρ=x15
 d17:(lnv 17).den ρ=l17
 b0:ρ.b 0=b0
 b1:ρ.b 1=b1
 v0:ρ.v 0=mv
 v1:ρ.v 1=sv
 v2:ρ.v 2=pv
 v3:ρ.v 3=c3
 v4:ρ.v 4=c4
theorem Tryz.poD {r:Rg} {len n5 k e x8:Int} {p:Pt} {x14 x15 l17:Int} {b0 b1:Bool} {mv sv pv c3 c4:Value} (hr:PgOk r) (h4:0≤len∧len<64000) (h6:0≤k∧k<64000) (hp:p.ok) (h14:0≤x14∧x14<64000) (h15:0≤x15∧x15<64000) (h17:0≤l17∧l17<64000):
  ∃ ρ,PoD ρ r len n5 k e x8 p x14 x15 l17 b0 b1 mv sv pv c3 c4:=by
 obtain ⟨⟨n1,n2⟩,hd,hv,hc⟩:=hr.nums
 exact ⟨vof [r.n,r.d,r.v,r.c,len,n5,k,e,x8,0,p.a,p.ln,p.f,p.nx,x14,x15,0,l17] [b0,b1] [mv,sv,pv,c3,c4],zdz n1 n2,zaG hd.1 hd.2,zaG hv.1 hv.2,zaG hc.1 hc.2,
  zat h4.1 (by show len<_;omega),rfl,zat h6.1 (by show k<_;omega),rfl,rfl,zaG hp.a.1 hp.a.2,zbx hp.ln.1 hp.ln.2,zbD hp.f.1 hp.f.2,zbD hp.nx.1 hp.nx.2,zat h14.1 (by show x14<_;omega),zat h15.1 (by show x15<_;omega),zat h17.1 (by show l17<_;omega),rfl,rfl,rfl,rfl,rfl,rfl,rfl⟩
theorem Tryz.PoD.rgL {ρ:Val} {j:J} {r:Rg} {len n5 k e x8:Int} {p:Pt} {x14 x15 l17:Int} {b0 b1:Bool} {mv sv pv c3 c4:Value} (D:PoD ρ r len n5 k e x8 p x14 x15 l17 b0 b1 mv sv pv c3 c4):RL ρ j zfL [.bool true,.int .i64 r.n,.int .u64 r.d,.int .u64 r.v,.int .u64 r.c]:=
 zab (zap rfl) (zab (zac D.n) (zab (zac D.d) (zab (zac D.v) (zab (zac D.c) RL.nil))))
def Tryz.ppC (sa:Option Addr) (ls:List Sg) (b2 qn:Nat) (ps:List Pt):Gho where
 fact k q F w:=match k with|0=>SegF F w sa ls|1=> ∃u,q qn=some u∧zoc w b2 u ps∧ ∀b,u.ownBlock=some b→F b|_=>True
 loc:=fun k q q' F w w' h hq hb hs=>by
  match k,h with
  | 0,h=>exact SegF.kept h hb
  | 1,⟨u,h7,h8,h9⟩=>exact ⟨u,hq _ _ h7,OwnR.kept h8 fun b e=>hb b (h9 b e),h9⟩
  | k+2,_=>trivial
set_option maxRecDepth 10000 in
theorem Tryz.zHt {ρ:Val} {w0:World} {P L Bs B N:Nat} {gk:Nat→Nat→Int} {sa:Option Addr} {ls:List Sg} {b qn nl:Nat} {ps:List Pt} {r:Rg} {n5 e x8 x14 x15 l17:Int} {b0 b1:Bool} {sv pv c3 c4:Value} {p0:Pt}
  (D:PoD ρ r nl n5 0 e x8 p0 x14 x15 l17 b0 b1 (.pointer (some ⟨P,0,none⟩)) sv pv c3 c4) (hr:PgOk r) (hN:N≤1048576) (hfit:r.d+16*r.n≤N) (hnl:nl<60000) (hpl:ps.length<60000) (hps: ∀p∈ps,p.ok∧0≤p.at0∧p.at0<r.n)
  (hlo:P<w0.heap.size∧L<w0.heap.size∧Bs<w0.heap.size∧B<w0.heap.size) (hg2:gk 2=zcx r.d ps (gk 1)):
  zkT prog ρ w0 (fun y=>y=B) (memC P L Bs B N gk (ppC sa ls w0.heap.size qn ps)) (zeF b qn):=by
 refine zmD ?_
 intro cc hc j a w F n hsz hdf hsl hrw hnone hbase hF hs0 hf hold
 obtain ⟨⟨fP,fL,fS,fB,hm⟩,u,hq,hou,hFu⟩:=hf
 have hsl0:=(hsl (0,.cst 0 none) (by simp [zeF])).2
 have hsl6:=(hsl (6,.ptr b 0) (by simp [zeF])).2
 have hsl7:=(hsl (7,.ptr (b+1) 0) (by simp [zeF])).2
 have hsl10:=(hsl (10,.ptr (b+2) 0) (by simp [zeF])).2
 have hsl11:=(hsl (12,.opq qn (some (lnv 17))) (by simp [zeF])).2
 have hsl12:=(hsl (13,.int .i64 (.var 7)) (by simp [zeF])).2
 have hsl13:=(hsl (14,.int .i64 (.lit 0)) (by simp [zeF])).2
 have g0:=R_val rfl hsl0
 have g12:=R_val rfl hsl12
 have g13:=R_val rfl hsl13
 simp only [AV.val,D.v0,zad,zaM,D.i7] at g0 g12 g13
 obtain ⟨L7,hj7,g7⟩:=hsl7
 obtain ⟨L10,hj10,g10⟩:=hsl10
 obtain ⟨Lb,hjb,g6⟩:=hsl6
 obtain ⟨hLF,vals,hvals,hrow⟩:=hrw (b,zfL) (by simp [zeF]) Lb hjb
 have hvals:=zcR (show AV.exactL zfL=true by decide) hvals D.rgL
 subst hvals
 have g11:a.tmps.getD 12 undef=u:=by
  obtain ⟨⟨Lq,hj,hu⟩,_⟩:=hsl11
  unfold opqs at hq
  rw [hj] at hq
  simp only [Option.bind_some] at hq
  rw [hu] at hq
  injection hq
 have hcc:cc=zaK prog [0,0,1,0,1,1,11]:=by
  have:=zhk (P:=prog) (p:= [0,1,0,1,1,11]) (by kernel_rfl)
  have hc:zaK prog [0,1,0,1,1,11]= .loop cc:=hc
  rw [hc] at this
  injection this
 subst hcc
 have hsz:a.tmps.size=66:=hsz
 have hult:=OwnR.lt hou
 obtain ⟨su,cu,rfl,hur⟩:=OwnR.row hou
 have hLlt:Lb.blk<w.heap.size:=zi9 hrow
 have hLB:Lb.blk≠B:=fun e=>hLF (e▸fB)
 refine zbJ (fun (k:Nat) a' w'=>k≤ps.length∧a'.tmps.size=66∧a'.defers= []∧a'.tmps.getD 0 undef= .pointer (some ⟨P,0,none⟩)∧a'.tmps.getD 6 undef= .pointer (some ⟨Lb.blk,Lb.off+0,none⟩)∧a'.tmps.getD 7 undef= .pointer (some ⟨L7.blk,L7.off+0,none⟩)∧a'.tmps.getD 10 undef= .pointer (some ⟨L10.blk,L10.off+0,none⟩)∧a'.tmps.getD 12 undef= .slice su ps.length cu∧
   a'.tmps.getD 13 undef= .int .i64 e∧a'.tmps.getD 14 undef= .int .i64 k∧GM w' P L Bs B N (zcx r.d (ps.take k) (gk 1))∧Dw.Mv (fun y=>y=B) w w')
  (fun k=>ps.length-k) (fun k a1 w1 hI=> ?_) 0 a w ⟨Nat.zero_le _,hsz,hdf,g0,g6,g7,g10,g11,g12,by rw [g13];rfl,hm,Dw.Mv.refl _ _⟩
 obtain ⟨hkl,q0,qd,q00,q6,q7,q10,q11,q12,q13,hm1,hmv⟩:=hI
 have hrow1:Row w1 Lb [.bool true,.int .i64 r.n,.int .u64 r.d,.int .u64 r.v,.int .u64 r.c]:=hrow.kept (hmv.block _ hLlt hLB)
 have hwk:=zeu k (by omega)
 have hj1: ∀x,jOf ((Lb.blk,Lb.off)::x) 1=some ⟨Lb.blk,Lb.off,0,none⟩:=fun _=>rfl
 by_cases hk:k<ps.length
 ·rcases hur with h0|⟨G,rfl,hGo,hur⟩
  ·have:=congrArg List.length h0
   rw [zk3] at this
   simp at this
   omega
  have hGlt:=hult G hGo
  have hur1:=zaV hur (hmv.block G hGlt.2 (by omega))
  have hx:=zDt hur1 k hk
  obtain ⟨hpo,ha0,ha1⟩:=hps ps[k] (List.getElem_mem hk)
  have htk:ps.take (k+1)=ps.take k++ [ps[k]]:=by rw [List.take_add_one,List.getElem?_eq_getElem hk];rfl
  generalize hX:ps[k]=X at hx hpo ha0 ha1 htk
  obtain ⟨ρ',D'⟩:=poD (r:=r) (len:=nl) (n5:=n5) (k:=k) (e:=e) (x8:=X.at0) (p:=X) (x14:=0) (x15:=0) (l17:=ps.length) (b0:=false) (b1:=false) (mv:= .pointer (some ⟨P,0,none⟩)) (sv:=undef) (pv:= .slice (some ⟨G,0,none⟩) ps.length cu) (c3:= .pointer (some ⟨L7.blk,L7.off+0,none⟩)) (c4:= .pointer (some ⟨L10.blk,L10.off+0,none⟩)) hr (by omega) (by omega) hpo (by omega) (by omega) (by omega)
  have hj2:jOf [(Lb.blk,Lb.off),(G,0+5*k)] 2=some ⟨G,0+5*k,0,none⟩:=rfl
  have hd0:=hr.d
  have hbn:=hr.bnd
  have hda:(SE.bin .add .u64 (u64v 1) (.bin .mul .u64 (.lit 16) (.wrap .u64 (.var 8)))).den ρ'=((r.d+16*X.at0).toNat:Nat):=by
   have e8:(SE.wrap .u64 (.var 8)).den ρ'=X.at0:=by
    show IntKind.wrap .u64 (ρ'.i 8)=_
    rw [D'.i8];exact zbE (by omega) (by omega)
   rw [den_add,den_mul,e8,zad,D'.d,zbE (k:=16*X.at0) (by omega) (by omega),zbE (by omega) (by omega)]
   omega
  refine wp_mono (zaz (ρ:=ρ') (K:=fun y=>y=B) (g:=memC P L Bs B N (fun k'=>match k' with|2=>zcx r.d (ps.take (k+1)) (gk 1)|_=>zcx r.d (ps.take k) (gk 1)) (byC w1.heap.size X.bytes)) (bl:= [(Lb.blk,Lb.off),(G,0+5*k)]) mixed zDO zHq (fun y h=>by rw [h];exact hm1.bl)
   ⟨zf7 hrow1 (by simp) D'.rgL hLB,zba hx (by simp [Pt.cells]) (zab (zac D'.i8) (zab (zac D'.d10) (zab (zac D'.d11) (zab (zac D'.d12) (zab (zac D'.d13) RL.nil))))) (by omega),trivial⟩
   ⟨fun h=>(by cases h),fun h=>(by cases h),trivial⟩ ?_ ⟨?_,?_,trivial⟩ trivial trivial q0 qd ?_ (zaa.2 ⟨by rw [zaY,D'.d6,D'.d17];simp only [decide_eq_true_eq];omega,zae.2 trivial⟩)) fun ex a2 w2 hh=> ?_
  ·refine ⟨fun y=>y=P∨y=L∨y=Bs∨y=B,fun y hy=>⟨?_,fun hmn=> ?_⟩,⟨.inl rfl,.inr (.inl rfl),.inr (.inr (.inl rfl)),.inr (.inr (.inr rfl)),hm1⟩,trivial⟩
   ·rcases hy with rfl|rfl|rfl|rfl
    ·exact hm1.pl
    ·exact hm1.ll
    ·exact hm1.sl
    ·exact hm1.bl
   ·have:=zdp hmn
    simp only [List.map_cons,List.map_nil,List.mem_cons,List.not_mem_nil,or_false] at this
    rcases this with e1|e1
    ·rcases hy with h|h|h|h<;>(rw [h] at e1;rw [←e1] at hLF;contradiction)
    ·rcases hy with h|h|h|h<;>omega
  ·refine ⟨Dw.enters_of (by kernel_rfl),fun j' w3 vals' F' m hv hnone' hb' hF' hsz' hf' _=> ?_⟩
   have hb':m=3:=hb' (by show (1:Nat)≠0;decide)
   subst hb'
   have hv:=zcR (show AV.exactL poBytesE.args=true by decide) hv (zab (zbg (zab (zac D'.d10) (zab (zac D'.d11) (zab (zac D'.d12) (zab (zac D'.d13) RL.nil))))) RL.nil)
   subst hv
   obtain ⟨⟨f1,f2,f3,f4,hm3⟩,_⟩:=hf'
   refine Calls.mono (zsC X hpo w3) fun en w' hh=> ?_
   obtain ⟨v,rfl,hv,hbl⟩:=hh
   refine ⟨_,[v],fun y=>F' y∨v.ownBlock=some y,rfl,rfl,⟨⟨⟨0,0,0,some v⟩,?_,rfl⟩,OwnR.one hv,fun _ h=>(by cases h)⟩,⟨⟨.inl f1,.inl f2,.inl f3,.inl f4,GM.below (g:=zcx r.d (ps.take k) (gk 1)) hm3 hbl⟩,v,zbY,OwnR.mono hv hsz',fun y h=> .inr h⟩,?_,Dw.Mv.of_below hbl⟩
   ·show jq j' 3 _ 3=_
    unfold jq
    rw [if_pos ⟨Nat.le_refl _,by simp⟩]
    simp
   ·rintro y (h|h)
    ·exact ⟨Nat.lt_of_lt_of_le (hF' y h) hbl.size,.inl h⟩
    ·exact ⟨(OwnR.lt hv y h).2,.inr (OwnR.lt hv y h).1⟩
  ·refine ⟨Dw.enters_of (by kernel_rfl),fun j' w3 vals' F' m hv hnone' hb' hF' hsz' hf' _=> ?_⟩
   obtain ⟨x0,_,rfl,e0,hv⟩:=hv
   obtain ⟨x1,_,rfl,e1,hv⟩:=hv
   obtain ⟨x2,_,rfl,e2,hv⟩:=hv
   have hv:_= []:=hv
   subst hv
   obtain ⟨⟨f1,f2,f3,f4,hm3⟩,v,hq3,hv3,hFv⟩:=hf'
   have hm3:GM w3 P L Bs B N (zcx r.d (ps.take k) (gk 1)):=hm3
   have e0:x0= .pointer (some ⟨P,0,none⟩):=by rw [R_val rfl e0];exact D'.v0
   have e1:x1= .int .u64 ((r.d+16*X.at0).toNat:Nat):=by rw [show x1= .int .u64 (SE.den ρ' (.bin .add .u64 (u64v 1) (.bin .mul .u64 (.lit 16) (.wrap .u64 (.var 8))))) from e1,hda]
   have e2:x2=v:=by
    obtain ⟨⟨Lq,hj,hu⟩,_⟩:=e2
    unfold opqs at hq3
    rw [hj] at hq3
    simp only [Option.bind_some] at hq3
    rw [hu] at hq3
    injection hq3
   subst e0 e1 e2
   have hvl:=OwnR.lt hv3
   obtain ⟨sv',cv,rfl,hvr⟩:=OwnR.row hv3
   rcases hvr with h0|⟨G',rfl,hGo',hvr⟩
   ·have:=congrArg List.length h0
    rw [zbK,List.length_map,Pt.bytes_len] at this
    cases this
   refine Calls.mono (ztL P L Bs B N _ G' 0 cv X.bytes _ w3 hm3 hN (by rw [Pt.bytes_len];decide) (by rw [Pt.bytes_len];omega) X.bytes_bnd hvr (hvl G' hGo').2) fun en w' hh=> ?_
   obtain ⟨rfl,hm4,hmv4⟩:=hh
   refine ⟨_,[],F',rfl,rfl,?_,⟨⟨f1,f2,f3,f4,?_⟩,trivial⟩,fun y h=>⟨Nat.lt_of_lt_of_le (hF' y h) hmv4.size,.inl h⟩,(zJT hmv4).mono fun y h=>by subst h;exact ⟨f4,.inr rfl⟩⟩
   ·exact zac rfl
   ·show GM w' P L Bs B N (zcx r.d (ps.take (k+1)) (gk 1))
    rw [htk,zwU];exact hm4
  ·intro t ht
   simp only [zfc,List.mem_cons,List.not_mem_nil,or_false] at ht
   rcases ht with rfl|rfl|rfl|rfl|rfl|rfl|rfl
   ·rw [q00];exact za5 D'.v0 rfl
   ·rw [q6];exact ⟨_,hj1 _,rfl⟩
   ·rw [q7];exact za5 D'.v3 rfl
   ·rw [q10];exact za5 D'.v4 rfl
   ·rw [q11];exact ⟨D'.v2.symm,_,_,_,rfl,D'.d17.symm,⟨G,0,_,k,rfl,hj2,rfl,D'.d6,hk,rfl⟩,trivial⟩
   ·rw [q12];exact zac D'.i7
   ·rw [q13];exact zac D'.d6
  ·obtain ⟨q,hq',hto,lf,hlf,rfl,hsz2,j2,hdf2,he⟩:=hh
   unfold zAg at hq'
   simp only [List.mem_cons,List.not_mem_nil,or_false] at hq'
   subst hq'
   cases hlf
   obtain ⟨F2,_,⟨_,_,_,_,hm5⟩,_⟩:=he.gho
   have hs2:=zaB he.ret
   have lc1:=zag (he.sub _ _ (hj1 [(G,0+5*k)]))
   simp only [AV.valL,AV.val,D'.v0,D'.v2,D'.v3,D'.v4,D'.d6,D'.i7,zaM,den_add,zad,hwk,lc1,List.map_cons,List.map_nil,List.cons.injEq,and_true] at hs2
   obtain ⟨p0',p6',p7',p10',p11',p12',p13'⟩:=hs2
   exact ⟨k+1,by omega,hk,hsz2,hdf2,p0',p6',p7',p10',p11',p12',p13',hm5,hmv.trans he.mv⟩
 ·have hkk:k=ps.length:=by omega
  subst hkk
  obtain ⟨ρ',D'⟩:=poD (r:=r) (len:=nl) (n5:=n5) (k:=ps.length) (e:=e) (x8:=0) (p:=okPt0) (x14:=0) (x15:=0) (l17:=ps.length) (b0:=false) (b1:=false) (mv:= .pointer (some ⟨P,0,none⟩)) (sv:=undef) (pv:= .slice su ps.length cu) (c3:= .pointer (some ⟨L7.blk,L7.off+0,none⟩)) (c4:= .pointer (some ⟨L10.blk,L10.off+0,none⟩)) hr (by omega) (by omega) zvy (by omega) (by omega) (by omega)
  refine wp_mono (zaz (ρ:=ρ') (K:=fun _=>False) (g:=Gho.none) (bl:= [(Lb.blk,Lb.off)]) mixed zAe zDN (fun y h=>h.elim) ⟨zf7 hrow1 (by simp) D'.rgL (fun h=>h),trivial⟩ ⟨fun h=>(by cases h),trivial⟩ zaO trivial trivial trivial q0 qd ?_ (zaa.2 ⟨by rw [zaY,D'.d6,D'.d17];simp,zae.2 trivial⟩)) fun ex a2 w2 hh=> ?_
  ·intro t ht
   simp only [zd3,List.mem_cons,List.not_mem_nil,or_false] at ht
   rcases ht with rfl|rfl|rfl|rfl|rfl|rfl|rfl
   ·rw [q00];exact za5 D'.v0 rfl
   ·rw [q6];exact ⟨_,hj1 _,rfl⟩
   ·rw [q7];exact za5 D'.v3 rfl
   ·rw [q10];exact za5 D'.v4 rfl
   ·rw [q11];exact ⟨D'.v2.symm,_,_,_,rfl,D'.d17.symm,trivial⟩
   ·rw [q12];exact zac D'.i7
   ·rw [q13];exact zac D'.d6
  ·obtain ⟨q,hq',hto,lf,hlf,rfl,hsz2,j2,hdf2,he⟩:=hh
   have hb3:=zar he (fun _ h=>h)
   unfold zu3 at hq'
   simp only [List.mem_cons,List.not_mem_nil,or_false] at hq'
   subst hq'
   cases hlf
   have hs2:=zaB he.ret
   have lc1:=zag (he.sub _ _ (hj1 []))
   simp only [AV.valL,AV.val,D'.v2,D'.v3,D'.v4,D'.i7,zaM,lc1,List.map_cons,List.map_nil,List.cons.injEq,and_true] at hs2
   obtain ⟨p6',p7',p10',p11',p12'⟩:=hs2
   rw [List.take_length] at hm1
   refine ⟨⟨.lit true,.exit 0,[(6,.ptr b 0),(7,.ptr (b+1) 0),(10,.ptr (b+2) 0),(12,.opq qn (some (lnv 17))),(13,.int .i64 (.var 7))],2⟩,[],F,by unfold zeF;rw [zb7,if_pos (show SB.den ρ (.lit true)=true from rfl)],rfl,hsz2,hdf2,(fun t ht=>by cases ht),rfl,fun s hs=> ?_,⟨⟨fP,fL,fS,fB,?_⟩,trivial⟩,fun y h=>⟨Nat.lt_of_lt_of_le (hF y h) (Nat.le_trans hmv.size hb3.size),.inl h⟩,(hmv.trans (Dw.Mv.of_below hb3)).mono fun y h=>by subst h;exact ⟨fB,.inr rfl⟩⟩
   ·rw [zgI]
    simp only [List.mem_cons,List.not_mem_nil,or_false] at hs
    rcases hs with rfl|rfl|rfl|rfl|rfl
    ·rw [p6'];exact ⟨Lb,hjb,rfl⟩
    ·rw [p7'];exact ⟨L7,hj7,rfl⟩
    ·rw [p10'];exact ⟨L10,hj10,rfl⟩
    ·rw [p11',←g11];exact hsl11
    ·rw [p12',←g12];exact hsl12
   ·rw [hg2];exact hm1.below hb3
def Tryz.ppOk (n:Int) (l:List Sg):Prop:=zbv l=0∧(l.length:Int)≤n
instance (n:Int) (l:List Tryz.Sg):Decidable (Tryz.ppOk n l):=by unfold Tryz.ppOk;infer_instance
def Tryz.za2 (n id a:Int) (x:Bool) (l:List Sg):List Pt:=if ppOk n l then ppTo n id a x l l.length else []
def Tryz.zxf (n:Int) (l:List Sg):Int:=if ppOk n l then 0 else if zbv l=0 then 2 else zbv l
theorem Tryz.zsl {A:Nat→Prop} {w:World} {v:Value} {l:List Sg} {n id a:Int} {x:Bool} (h:SegV A w v l) (hl:l.length≤60000) (hn:1≤n∧n≤32768) (ha:0≤a∧a<n) (hid:0≤id∧id<n):
  Calls prog 42 #[posV a x,.int .i64 n,.int .i64 id,v] w fun e w'=>(∃u,e= .returned (.tuple #[u,.int .i64 (zxf n l)])∧zoc w' w.heap.size u (za2 n id a x l))∧Below w.heap.size w w':=by
 unfold zxf za2
 by_cases hk:ppOk n l
 ·rw [if_pos hk,if_pos hk]
  exact zsk h hk.1 hk.2 hn ha hid
 ·rw [if_neg hk,if_neg hk]
  refine Calls.mono (zwR h hl (by unfold ppOk at hk;omega) hn ha hid) fun e w' hh=> ?_
  obtain ⟨rfl,hb⟩:=hh
  exact ⟨⟨_,rfl,OwnR.nil _ _ _ _⟩,hb⟩
theorem Tryz.zDL {n:Int} {l:List Sg}:zxf n l=0↔ppOk n l:=by
 unfold zxf
 by_cases hk:ppOk n l
 ·rw [if_pos hk];exact ⟨fun _=>hk,fun _=>rfl⟩
 ·rw [if_neg hk]
  refine ⟨fun h=> ?_,fun h=>absurd h hk⟩
  split at h
  ·cases h
  ·contradiction
theorem Tryz.zHo {n id a:Int} {x:Bool} {l:List Sg} (hok: ∀y∈l,y.ok) (hn:n≤32768) (ha:0≤a∧a<n) (hid:0≤id∧id<n): ∀p∈ppTo n id a x l l.length,p.ok∧0≤p.at0∧p.at0<n:=fun p hp=>by
 obtain ⟨k,hk,rfl⟩:=List.mem_map.1 hp
 have hk:k<l.length:=List.mem_range.1 hk
 have h1:=hok l[k] (List.getElem_mem hk)
 have e1:l.getD k ⟨0,0,false⟩=l[k]:=by simp [List.getD_eq_getElem?_getD,hk]
 refine ⟨⟨?_,?_,?_,?_⟩,zjz ha k⟩
 ·simp only [ppAt,e1];exact ⟨h1.1,h1.2.1⟩
 ·simp only [ppAt,e1];exact ⟨h1.2.2.1,h1.2.2.2⟩
 ·show 0≤id∧id<65536;omega
 ·simp only [ppAt,zh9]
  repeat' split
  all_goals decide
theorem Tryz.zAc {n id a:Int} {x:Bool} {l:List Sg} (hok: ∀y∈l,y.ok) (hn:n≤32768) (ha:0≤a∧a<n) (hid:0≤id∧id<n): ∀p∈za2 n id a x l,p.ok∧0≤p.at0∧p.at0<n:=fun p hp=>by
 unfold za2 at hp
 split at hp
 ·exact zHo hok hn ha hid p hp
 ·cases hp
theorem Tryz.zpT {n id a:Int} {x:Bool} {l:List Sg} (hn:0≤n):((za2 n id a x l).length:Int)≤n:=by
 unfold za2
 split
 ·rename_i h
  rw [zfb];exact h.2
 ·exact hn
theorem Tryz.zHu {ρ:Val} {w0:World} {K:Nat→Prop} {P L Bs B N:Nat} {gk:Nat→Nat→Int} {sa:Option Addr} {cs qn:Nat} {l:List Sg} {r:Rg} {id a e x8 x15:Int} {x b1:Bool} {p0:Pt} {mv pv c3 c4:Value}
  (D:PoD ρ r l.length id 0 e x8 p0 a x15 (za2 r.n id a x l).length x b1 mv (.slice sa l.length cs) pv c3 c4) (he:e=zxf r.n l) (hr:PgOk r) (hok: ∀y∈l,y.ok) (hl:l.length≤60000) (ha:0≤a∧a<r.n) (hid:0≤id∧id<r.n) (hgk:gk 1=gk 0):
  zaQ prog ρ w0 K (memC P L Bs B N gk (ppC sa l w0.heap.size qn (za2 r.n id a x l))) (zJz qn):=by
 refine ⟨Dw.enters_of (by kernel_rfl),fun j w1 vals F m hv hnone hb hF hsz hf hold=> ?_⟩
 have hb:m=qn:=hb (by show (1:Nat)≠0;decide)
 subst hb
 have hbn:=hr.bnd
 obtain ⟨x0,_,rfl,e0,hv⟩:=hv
 obtain ⟨x1,_,rfl,e1,hv⟩:=hv
 obtain ⟨x2,_,rfl,e2,hv⟩:=hv
 obtain ⟨x3,_,rfl,e3,hv⟩:=hv
 have hv:_= []:=hv
 subst hv
 have e0:x0=posV a x:=by rw [R_val rfl e0];simp only [zDR,AV.val,AV.valL,D.d14,zaA,D.b0];rfl
 have e1:x1= .int .i64 r.n:=by rw [R_val rfl e1];simp only [AV.val,D.n]
 have e2:x2= .int .i64 id:=by rw [R_val rfl e2];simp only [AV.val,zaM,D.i5]
 have e3:x3= .slice sa l.length cs:=by rw [R_val rfl e3];exact D.v1
 subst e0 e1 e2 e3
 obtain ⟨⟨f1,f2,f3,f4,hm⟩,hsg⟩:=hf
 refine Calls.mono (zsl (SegF.v hsg hok cs) hl ⟨hbn.1,by omega⟩ ha hid) fun en w' hh=> ?_
 obtain ⟨⟨u,rfl,hu⟩,hbl⟩:=hh
 obtain ⟨su,cu,hue,_⟩:=OwnR.row hu
 refine ⟨_,[u],fun b=>F b∨u.ownBlock=some b,rfl,rfl,zcC (zab ⟨⟨⟨0,0,0,some u⟩,?_,rfl⟩,OwnR.one hu,fun n h=> ?_⟩ (zab (zac (D.i7.trans he)) RL.nil)),⟨⟨.inl f1,.inl f2,.inl f3,.inl f4,?_⟩,u,zbY,OwnR.mono hu hsz,fun b h=> .inr h⟩,?_,Dw.Mv.of_below hbl⟩
 ·show jq j m _ m=_
  unfold jq
  rw [if_pos ⟨Nat.le_refl _,by simp⟩]
  simp
 ·cases h
  exact ⟨su,_,cu,hue,D.d17.symm⟩
 ·show GM w' P L Bs B N (gk 1)
  rw [hgk];exact hm.below hbl
 ·rintro b (h|h)
  ·exact ⟨Nat.lt_of_lt_of_le (hF b h) hbl.size,.inl h⟩
  ·exact ⟨(OwnR.lt hu b h).2,.inr (OwnR.lt hu b h).1⟩
set_option maxRecDepth 10000 in
theorem Tryz.zxg {A:Nat→Prop} {w:World} {P L Bs B N:Nat} {g:Nat→Int} {r:Rg} {sv:Value} {l:List Sg} {id a:Int} {x:Bool} (hm:GM w P L Bs B N g) (hN:N≤1048576) (hr:PgOk r) (hfit:4104+16*r.n≤N)
    (hsv:SegV A w sv l) (hl:l.length<60000) (ha:0≤a∧a<r.n) (hid:0≤id∧id<r.n):
    Calls prog 11 #[.pointer (some ⟨P,0,none⟩),r.pval,posV a x,.int .i64 id,sv] w fun e w'=>
      e= .returned (.tuple #[posV (zaL r.n a x (za2 r.n id a x l).length).1 (zaL r.n a x (za2 r.n id a x l).length).2,.bool (decide (ppOk r.n l))])∧GM w' P L Bs B N (zcx r.d (za2 r.n id a x l) g)∧Dw.Mv (fun b=>b=B) w w':=by
  have h0:=hsv
  obtain ⟨sa,cs,rfl,hok,hrs⟩:=hsv
  have hb:=hr.bnd
  have q1:=hr.d
  have hps:=zAc (x:=x) hok (by omega) ha hid
  have hpl:=zpT (id:=id) (a:=a) (x:=x) (l:=l) (n:=r.n) (by omega)
  have hgo:=zgm (n:=r.n) (a:=a) (c:=(za2 r.n id a x l).length) (x:=x) ha ⟨by omega,hpl⟩
  obtain ⟨ρ,D⟩:=poD (r:=r) (len:=l.length) (n5:=id) (k:=0) (e:=zxf r.n l) (x8:=0) (p:=okPt0) (x14:=a) (x15:=(zaL r.n a x (za2 r.n id a x l).length).1) (l17:=(za2 r.n id a x l).length) (b0:=x) (b1:=(zaL r.n a x (za2 r.n id a x l).length).2) (mv:= .pointer (some ⟨P,0,none⟩)) (sv:= .slice sa l.length cs) (pv:=undef) (c3:=undef) (c4:=undef) hr (by omega) (by omega) zvy (by omega) (by omega) (by omega)
  have hF: ∀b,(b=P∨b=L∨b=Bs∨b=B∨(l≠ []∧ ∃o',sa=some ⟨b,o',none⟩))→b<w.heap.size:=fun b h=>by
    rcases h with rfl|rfl|rfl|rfl|⟨h,o',e⟩
    · exact hm.pl
    · exact hm.ll
    · exact hm.sl
    · exact hm.bl
    · rcases hrs with h1|⟨R,o,e1,_,h2⟩
      · exact absurd h1 h
      · rw [e] at e1;cases e1
        exact zcF h2 h
  have hSF:SegF (fun b=>b=P∨b=L∨b=Bs∨b=B∨(l≠ []∧ ∃o',sa=some ⟨b,o',none⟩)) w sa l:=by
    by_cases h:l= []
    · exact .inl h
    · rcases hrs with h1|⟨R,o,e1,_,h2⟩
      · exact .inl h1
      · exact .inr ⟨R,o,e1,.inr (.inr (.inr (.inr ⟨h,o,e1⟩))),h2⟩
  refine Calls.mono (zha (ρ:=ρ) (K:=fun y=>y=B) (g:=memC P L Bs B N (fun k=>match k with|0=>g|1=>g|_=>zcx r.d (za2 r.n id a x l) g) (ppC sa l w.heap.size 4 (za2 r.n id a x l))) (bl:= [])
      (vals:= [.pointer (some ⟨P,0,none⟩),r.pval,posV a x,.int .i64 id,.slice sa l.length cs]) mixed zHr zJy (fun b h=>by rw [h];exact hm.bl) trivial trivial
      ⟨fun b=>b=P∨b=L∨b=Bs∨b=B∨(l≠ []∧ ∃o',sa=some ⟨b,o',none⟩),fun b h=>⟨hF b h,fun hmn=>by
        have:=zdp hmn
        simp at this⟩,⟨.inl rfl,.inr (.inl rfl),.inr (.inr (.inl rfl)),.inr (.inr (.inr (.inl rfl))),hm⟩,hSF⟩
      ⟨zHu D rfl hr hok (by omega) ha hid rfl,
       zaw (Dw.enters_of (by kernel_rfl)) (by decide) [posV a x,.int .i64 (za2 r.n id a x l).length,.int .i64 r.n] (.tuple #[posV (zaL r.n a x (za2 r.n id a x l).length).1 (zaL r.n a x (za2 r.n id a x l).length).2,.int .i64 0]) (fun j=>zab (zbg (zab (zac D.d14) (zab (zap D.b0) RL.nil))) (zab (zac D.d17) (zab (zac D.n) RL.nil))) (fun j=>zcC (zab (zbg (zab (zac D.d15) (zab (zap D.b1) RL.nil))) (zab (zac rfl) RL.nil))) (fun w F q hf=>zsn ⟨hb.1,by omega⟩ ha ⟨by omega,hpl⟩ w),trivial⟩
      ⟨zHt D hr hN (by omega) hl (by omega) hps ⟨hm.pl,hm.ll,hm.sl,hm.bl⟩ rfl,trivial⟩ trivial
      (zab (za5 D.v0 rfl) (zab (zbg D.rgL) (zab (zbg (zab (zac D.d14) (zab (zap D.b0) RL.nil))) (zab (zac D.i5) (zab ⟨D.v1.symm,_,_,_,rfl,D.d4.symm,trivial⟩ RL.nil)))))
      (zae.2 trivial)) fun e w' hh=> ?_
  obtain ⟨p,hpm,hto,lf,hlf,j,he⟩:=hh
  unfold zFC at hpm
  simp only [List.mem_cons,List.not_mem_nil,or_false] at hpm
  rcases hpm with rfl|rfl
  all_goals
    simp only [zaa,zae,zbj,zaM,zad,D.i7,beq_iff_eq,beq_eq_false_iff_ne,ne_eq,and_true] at hto
    rw [zDL] at hto
    cases hlf
    obtain ⟨F2,_,⟨_,_,_,_,hm2⟩,_⟩:=he.gho
    have hR:=he.ret
    simp only [AV.val,AV.valL,D.d15,zaA,D.b1,zbN] at hR
  · rw [decide_eq_true hto];exact ⟨hR,hm2,he.mv⟩
  · rw [decide_eq_false hto];exact ⟨hR,hm2,he.mv⟩
end Go.Proofs
namespace Go.Proofs
open Go.Dw Go.RowKit
theorem Tryz.zjj {h:Int} {tk:List (Int×PTk)} {e:Int×PTk} (he:e∈zb5 h tk):e∈tk:=(ze8 h tk).subset he
theorem Tryz.PtW.set {A A':Nat→Prop} {w:World} {M:Nat} {n:Int} {tk:List (Int×PTk)} (h:PtW A w M n tk) (hA: ∀b,b<w.heap.size→A' b→A b):PtW A' w M n tk:=by
 obtain ⟨arr,clock,h1,h2,h3⟩:=h.map
 refine ⟨⟨arr,clock,h1,h2,fun k=>⟨(h3 k).1,fun t ht=> ?_⟩⟩,h.keys,h.rng⟩
 obtain ⟨v,h4,h5⟩:=(h3 k).2 t ht
 exact ⟨v,h4,h5.set hA⟩
theorem Tryz.PW.set {A A':Nat→Prop} {w:World} {S P L Bs B M N:Nat} {r:Rg} {s:PS} {g:Nat→Int} (h:PW A w S P L Bs B M N r s g) (hA: ∀b,b<w.heap.size→A' b→A b) (aS:A' S) (aM:A' M) (aB:A' B) (hl: ∀b,A' b→b<w.heap.size):PW A' w S P L Bs B M N r s g:=by
 obtain ⟨sv,h1,h2⟩:=h.obj
 exact ⟨⟨sv,h1,h2.set hA⟩,h.tk.set hA,h.ne,aS,aM,h.rg,h.pb,h.mem,h.hN,h.sd,h.md,aB,hl,h.fit⟩
open Go.Maps Go.Sort
structure Tryz.Ob (σ:Type) where
 L:σ→(Nat→Prop)→World→Prop
 T:Nat→Prop
 kept: ∀ {s F w w'},L s F w→(∀b,F b→w'.heap[b]? =w.heap[b]?)→w.heap.size≤w'.heap.size→L s F w'
 leans: ∀ {s F w},L s F w→ ∀b,T b→F b
def Tryz.obG {σ:Type} (O:Ob σ) (X:Nat→Prop) (bX b2:Nat) (sk:Nat→σ) (rows:Nat→List LwR):Gho where
 fact k q F w:=(∀b,F b→X b∨bX≤b)∧ ∃F0:Nat→Prop,(∀b,F0 b→F b)∧O.L (sk k) F0 w∧ ∀e∈rows k,∃(u:Value) (t:TypeId),e.is q u∧OwnR t e.sz w b2 u e.n e.cs∧ ∀b,u.ownBlock=some b→F b∧ ¬F0 b
 loc:=fun k q q' F w w' h hq hb hs=>⟨h.1,by
  obtain ⟨_,F0,h0,h1,h2⟩:=h
  refine ⟨F0,h0,O.kept h1 (fun b h=>hb b (h0 b h)) hs,fun e he=> ?_⟩
  obtain ⟨u,t,q1,q2,q3⟩:=h2 e he
  refine ⟨u,t,?_,OwnR.kept q2 fun b e=>hb b (q3 b e).1,q3⟩
  unfold LwR.is at q1 ⊢
  split at q1
  ·exact hq _ _ q1
  ·exact q1⟩
section
variable {σ:Type} {O:Tryz.Ob σ} {X:Nat→Prop} {bX:Nat} {ρ:Val} {w0:World} {K:Nat→Prop} {b2:Nat} {sk:Nat→σ} {rows:Nat→List Tryz.LwR} {f:FuncId} {args:List AV} {res:AV} {k k':Nat}
theorem Tryz.zAY (he:Dw.Enters prog f) (hx:AV.exactL args=true) (hbX:bX≤w0.heap.size) (V:List Value) (U:Value) (ha: ∀j,RL ρ j args V) (hr: ∀j,Dw.R ρ j res U) (hlt: ∀b,O.T b→b<b2) (hK: ∀b,O.T b→K b) (hrows: ∀e∈rows k',e∈rows k)
  (h: ∀(F0:Nat→Prop) (w:World),(∀b,b<w0.heap.size→ ¬K b→w.heap[b]? =w0.heap[b]?)→O.L (sk k) F0 w→Calls prog f V.toArray w fun e w'=>e= .returned U∧O.L (sk k') (fun b=>F0 b∨(w.heap.size≤b∧b<w'.heap.size)) w'∧Dw.Mv O.T w w'):
  zaQ prog ρ w0 K (obG O X bX b2 sk rows) ⟨f,args,k,0,0,res,k'⟩:=by
 refine ⟨he,fun j w vals F n hv hnone _ hF hsz hf hold=> ?_⟩
 have hv:=zcR hx hv (ha j)
 subst hv
 obtain ⟨hXF,F0,hF0,h1,h2⟩:=hf
 refine Calls.mono (h _ w hold h1) fun en w' hh=> ?_
 obtain ⟨rfl,hsw,hmv⟩:=hh
 refine ⟨U,[],fun b=>F b∨(w.heap.size≤b∧b<w'.heap.size),rfl,rfl,hr _,⟨fun b hb=> ?_,fun b=>F0 b∨(w.heap.size≤b∧b<w'.heap.size),fun b hb=>hb.imp_left (hF0 b),hsw,fun e he=> ?_⟩,?_,hmv.mono fun b hb=>⟨hF0 b (O.leans h1 b hb),.inr (hK b hb)⟩⟩
 ·rcases hb with hb|⟨hb,_⟩
  ·exact hXF b hb
  ·exact .inr (by omega)
 ·obtain ⟨u,t,q1,q2,q3⟩:=h2 e (hrows e he)
  refine ⟨u,t,by rw [zgI];exact q1,OwnR.kept q2 fun b hb=>hmv.block b (OwnR.lt q2 b hb).2 fun hh=> ?_,fun b hb=>⟨.inl (q3 b hb).1,fun hn=> ?_⟩⟩
  ·have:=(OwnR.lt q2 b hb).1
   have:=hlt b hh
   omega
  ·have:=(OwnR.lt q2 b hb).2
   rcases hn with hn|hn
   ·exact (q3 b hb).2 hn
   ·omega
 ·rintro b (hb|⟨q1,q2⟩)
  ·exact ⟨Nat.lt_of_lt_of_le (hF b hb) hmv.size,.inl hb⟩
  ·exact ⟨q2,.inr q1⟩
theorem Tryz.zJP (he:Dw.Enters prog f) (hx:AV.exactL args=true) (V:List Value) (U:Value) (ha: ∀j,RL ρ j args V) (hr: ∀j,Dw.R ρ j res U)
  (h: ∀(F0:Nat→Prop) (w:World),O.L (sk k) F0 w→Calls prog f V.toArray w fun e w'=>e= .returned U∧Below w.heap.size w w'):
  zaQ prog ρ w0 K (obG O X bX b2 sk rows) ⟨f,args,k,0,0,res,k⟩:=
 zaw he hx V U ha hr fun w F q hf=>by
  obtain ⟨_,F0,_,h1,_⟩:=hf
  exact h F0 w h1
end
structure Tryz.PwF (S P L Bs B M N:Nat) (r:Rg) (s:PS×(Nat→Int)) (F:Nat→Prop) (w:World):Prop where
 fS:F S
 fM:F M
 fP:F P
 fL:F L
 fs:F Bs
 fB:F B
 sw:PW (AF S M B F w) w S P L Bs B M N r s.1 s.2
section
variable {S P L Bs B M N:Nat} {r:Tryz.Rg} {s s':Tryz.PS×(Nat→Int)} {F F':Nat→Prop} {w w':World}
theorem Tryz.PwF.kept (h:PwF S P L Bs B M N r s F w) (hb: ∀b,F b→w'.heap[b]? =w.heap[b]?) (hs:w.heap.size≤w'.heap.size):PwF S P L Bs B M N r s F w':=by
 obtain ⟨h1,h2,h3,h4,h5,h6,h7⟩:=h
 have l1:=h7.ltS
 have l2:=h7.ltM
 have l3:=h7.mem.bl
 have hk: ∀k,k<w.heap.size→ ¬(¬F k∨k=S∨k=M∨k=B)→w'.heap[k]? =w.heap[k]? :=fun k _ hn=>hb k (Classical.byContradiction fun hF=>hn (.inl hF))
 obtain ⟨sv,o1,o2⟩:=h7.obj
 have s1:=(o2.set (A':=fun b=> ¬F b∨b=S∨b=M∨b=B) (fun b hb hh=>⟨hb,hh⟩)).kept hk
 have t1:=(h7.tk.set (A':=fun b=> ¬F b∨b=S∨b=M∨b=B) (fun b hb hh=>⟨hb,hh⟩)).kept (hb M h2) hk
 exact ⟨h1,h2,h3,h4,h5,h6,⟨⟨sv,o1.kept (hb S h1),s1.set fun b _ hh=>hh.2⟩,t1.set (fun b _ hh=>hh.2),h7.ne,⟨by omega,.inr (.inl rfl)⟩,⟨by omega,.inr (.inr (.inl rfl))⟩,h7.rg,h7.pb,h7.mem.kept (fun k _ hk=>by rcases hk with rfl|rfl|rfl|rfl<;>exact hb _ (by assumption)) hs,h7.hN,h7.sd,h7.md,⟨by omega,.inr (.inr (.inr rfl))⟩,fun b hb=>hb.1,h7.fit⟩⟩
theorem Tryz.PwF.next (h:PwF S P L Bs B M N r s F w) (hsw:PW (AF S M B F w) w' S P L Bs B M N r s'.1 s'.2) (hs:w.heap.size≤w'.heap.size) (hF: ∀b,F b→F' b) (hn: ∀b,w.heap.size≤b→b<w'.heap.size→F' b):PwF S P L Bs B M N r s' F' w':=by
 obtain ⟨h1,h2,h3,h4,h5,h6,h7⟩:=h
 have l1:=h7.ltS
 have l2:=h7.ltM
 have l3:=h7.mem.bl
 refine ⟨hF S h1,hF M h2,hF P h3,hF L h4,hF Bs h5,hF B h6,hsw.set (fun b hb hh=> ?_) ⟨by omega,.inr (.inl rfl)⟩ ⟨by omega,.inr (.inr (.inl rfl))⟩ ⟨by omega,.inr (.inr (.inr rfl))⟩ fun b hb=>hb.1⟩
 obtain ⟨_,hh⟩:=hh
 by_cases hlt:b<w.heap.size
 ·rcases hh with hh|hh
  ·exact ⟨hlt,.inl fun hf=>hh (hF b hf)⟩
  ·exact ⟨hlt,.inr hh⟩
 ·rcases hh with hh|hh
  ·exact absurd (hn b (by omega) hb) hh
  ·rcases hh with rfl|rfl|rfl<;>exact absurd (by assumption) hlt
theorem Tryz.PwF.stored {g':Nat→Int} (h:PwF S P L Bs B M N r s F w) (hm:Dw.Mv (fun b=>b=B) w w') (hg:GM w' P L Bs B N g'):PwF S P L Bs B M N r (s.1,g') F w':=by
 obtain ⟨h1,h2,h3,h4,h5,h6,h7⟩:=h
 have hs:=hm.size
 have l1:=h7.ltS
 have l2:=h7.ltM
 have l3:=h7.mem.bl
 have hB: ∀b,b≠B→b<w.heap.size→w'.heap[b]? =w.heap[b]? :=fun b hb hlt=>hm.block b hlt hb
 have hk: ∀k,k<w.heap.size→ ¬(¬F k∨k=S∨k=M∨k=B)→w'.heap[k]? =w.heap[k]? :=fun k hk hn=>hB k (fun e=>hn (.inr (.inr (.inr e)))) hk
 obtain ⟨sv,o1,o2⟩:=h7.obj
 have s1:=(o2.set (A':=fun b=> ¬F b∨b=S∨b=M∨b=B) (fun b hb hh=>⟨hb,hh⟩)).kept hk
 have t1:=(h7.tk.set (A':=fun b=> ¬F b∨b=S∨b=M∨b=B) (fun b hb hh=>⟨hb,hh⟩)).kept (hB M (fun e=>h7.md.2.2.2 e) l2) hk
 exact ⟨h1,h2,h3,h4,h5,h6,⟨⟨sv,o1.kept (hB S (fun e=>h7.sd.2.2.2 e) l1),s1.set fun b _ hh=>hh.2⟩,t1.set (fun b _ hh=>hh.2),h7.ne,⟨by omega,.inr (.inl rfl)⟩,⟨by omega,.inr (.inr (.inl rfl))⟩,h7.rg,h7.pb,hg,h7.hN,h7.sd,h7.md,⟨by omega,.inr (.inr (.inr rfl))⟩,fun b hb=>hb.1,h7.fit⟩⟩
end
def Tryz.pwO (S P L Bs B M N:Nat) (r:Rg):Ob (PS×(Nat→Int)) where
 L:=PwF S P L Bs B M N r
 T b:=b=S∨b=M∨b=B
 kept h hb hs:=h.kept hb hs
 leans h b hb:=by
  rcases hb with rfl|rfl|rfl
  ·exact h.fS
  ·exact h.fM
  ·exact h.fB
section
variable {X:Nat→Prop} {bX:Nat} {ρ:Val} {w0:World} {K:Nat→Prop} {S P L Bs B M N:Nat} {r:Tryz.Rg} {b2:Nat} {sk:Nat→Tryz.PS×(Nat→Int)} {rows:Nat→List Tryz.LwR} {f:FuncId} {args:List AV} {res:AV} {k k':Nat}
theorem Tryz.zss (he:Dw.Enters prog f) (hx:AV.exactL args=true) (hbX:bX≤w0.heap.size) (V:List Value) (U:Value) (ha: ∀j,RL ρ j args V) (hr: ∀j,Dw.R ρ j res U) (hlt:S<b2∧M<b2∧B<b2) (hK:K S∧K M∧K B) (hrows: ∀e∈rows k',e∈rows k)
  (h: ∀(A:Nat→Prop) (w:World),PW A w S P L Bs B M N r (sk k).1 (sk k).2→Calls prog f V.toArray w fun e w'=>e= .returned U∧PW A w' S P L Bs B M N r (sk k').1 (sk k').2∧Dw.Mv (sK S M B) w w'):
  zaQ prog ρ w0 K (obG (pwO S P L Bs B M N r) X bX b2 sk rows) ⟨f,args,k,0,0,res,k'⟩:=
 zAY he hx hbX V U ha hr (fun b hb=>by rcases hb with rfl|rfl|rfl;exact hlt.1;exact hlt.2.1;exact hlt.2.2) (fun b hb=>by rcases hb with rfl|rfl|rfl;exact hK.1;exact hK.2.1;exact hK.2.2) hrows fun F0 w hold h1=>Calls.mono (h _ w h1.sw) fun e w' hh=>⟨hh.1,h1.next hh.2.1 hh.2.2.size (fun b hb=> .inl hb) fun b q1 q2=> .inr ⟨q1,q2⟩,hh.2.2⟩
end
end Go.Proofs
namespace Go.Proofs
open Go.Dw Go.RowKit
theorem Tryz.zeE {n a:Int} {x:Bool}: ∀ {k:Nat},a+k<n→posN n a x k=(a+k,x)
 | 0,_=>by simp [posN]
 | k+1,h=>by
  unfold posN
  rw [zeE (k:=k) (by omega)]
  unfold zaL
  rw [if_pos (by simp only;omega)]
  simp only [Prod.mk.injEq,and_true]
  omega
theorem Tryz.zHp {n id a:Int} {x:Bool} {l:List Sg} (h:a+l.length≤n):(ppTo n id a x l l.length).map (·.at0)=(List.range l.length).map fun k:Nat=>a+(k:Int):=by
 refine List.ext_getElem (by simp [ppTo]) fun i h1 h2=> ?_
 have hi:i<l.length:=by simpa [ppTo] using h1
 simp only [ppTo,List.getElem_map,List.getElem_range,ppAt]
 rw [zeE (by omega)]
theorem Tryz.zqH {N:Nat} {g:Nat→Int} {n at0 id:Int} {l:List Sg} {tb:Bool} (h0:0≤at0) (hfit:at0+l.length≤n) (hn:n≤32768) (hid:0≤id∧id<n) (hok: ∀x∈l,x.ok)
    (hat: ∀k,k<l.length→PtAt g (4096+16*(at0+k)).toNat (ppAt n id at0 true l k)): ∀(m f k:Nat) (idx:Int),k+m=l.length→1≤m→m≤f→
      zbM N g n tb f (at0+k) k (l.take k) idx=⟨id,l.length,l,0⟩
  | m,0,k,_,_,h1,h2=>by omega
  | m,f+1,k,idx,hkm,h1,h2=>by
    have hk:k<l.length:=by omega
    have lk:l.getD k ⟨0,0,false⟩=l[k]:=by simp [List.getD_eq_getElem?_getD,hk]
    have hxk:=hok l[k] (List.getElem_mem hk)
    have hpos:posN n at0 true k=(at0+k,true):=zeE (by omega)
    have e3:(ppAt n id at0 true l k).nx=((if l[k].wr then 2 else 0)+(if k+1<l.length then 1 else 0))+128:=by
      simp only [ppAt,lk,hpos,zh9,if_true]
    have hp:(ppAt n id at0 true l k).ok:=by
      refine ⟨?_,?_,?_,?_⟩
      · simp only [ppAt,lk];exact ⟨hxk.1,hxk.2.1⟩
      · simp only [ppAt,lk];exact ⟨hxk.2.2.1,hxk.2.2.2⟩
      · show 0≤id∧id<65536;omega
      · rw [e3];repeat' split
        all_goals decide
    obtain ⟨w1,w2,w3,w4⟩:=(hat k hk).words hp
    rw [e3] at w4
    have w3:zah g ((4096+16*(at0+k)).toNat+12) 2=id:=w3
    have hsg:pSeg g (4096+16*(at0+k)).toNat=l[k]:=by
      unfold pSeg
      rw [w1,w2,w4]
      show (⟨(l.getD k ⟨0,0,false⟩).at1,(l.getD k ⟨0,0,false⟩).len,_⟩:Sg)=l[k]
      rw [lk]
      rcases l[k] with ⟨a,b,wr⟩
      cases wr<;>by_cases hh:k+1<l.length<;>simp [hh]
    unfold zbM
    simp only [w3,w4,hsg]
    have tk:l.take k++ [l[k]]=l.take (k+1):=(List.take_succ_eq_append_getElem hk).symm
    rw [if_neg (by repeat' split
                   all_goals decide),tk]
    by_cases hlast:k+1<l.length
    · rw [if_neg (by rw [if_pos hlast];split<;>decide)]
      have hgo:(zaL n (at0+k) true 1).1=at0+(k+1:Nat):=by
        unfold zaL;rw [if_pos (by omega)];simp only;omega
      rw [hgo]
      have:=zqH h0 hfit hn hid hok hat (m-1) f (k+1) id (by omega) (by omega) (by omega) (tb:=tb) (N:=N)
      rw [show ((k+1:Nat):Int)=(k:Int)+1 by omega] at this ⊢
      exact this
    · rw [if_pos (by rw [if_neg hlast];split<;>decide)]
      have hkl:k+1=l.length:=by omega
      rw [hkl,List.take_length]
      have:(k:Int)+1=l.length:=by omega
      rw [this]
theorem Tryz.zpU {N:Nat} {g:Nat→Int} {n at0 id:Int} {l:List Sg} {tb:Bool} (h0:0≤at0) (hfit:at0+l.length≤n) (hn:n≤32768) (hid:0≤id∧id<n) (hok: ∀x∈l,x.ok) (he:zbv l=0) (hsi:zcm N l=true):
  zbW N (zcx 4096 (za2 n id at0 true l) g) n at0 tb=⟨id,l.length,l,0⟩∧zcs (zah (zcx 4096 (za2 n id at0 true l) g) (4096+16*at0+14).toNat 2) true=true∧
   ∀ j:Nat,((j:Int)<4096+16*at0∨4096+16*(at0+l.length)≤(j:Int))→zcx 4096 (za2 n id at0 true l) g j=g j:=by
 have hne:l≠ []:=fun h=>by
  subst h
  unfold zbv at he
  split at he
  ·cases he
  ·rename_i hh
   exact hh ⟨he,rfl⟩
 have hse:zaU l=0:=by
  unfold zbv at he
  split at he
  ·cases he
  ·exact he
 have hlp:0<l.length:=List.length_pos_iff.2 hne
 have hlaid:za2 n id at0 true l=ppTo n id at0 true l l.length:=by unfold za2;rw [if_pos ⟨he,by omega⟩]
 rw [hlaid]
 have hmap:=zHp (id:=id) (x:=true) hfit
 have hnd:((ppTo n id at0 true l l.length).map (·.at0)).Nodup:=by
  rw [hmap]
  refine List.Pairwise.map _ (fun a b h=> ?_) List.nodup_range
  omega
 have hmem: ∀p∈ppTo n id at0 true l l.length,∃k:Nat,k<l.length∧p=ppAt n id at0 true l k∧p.at0=at0+k:=fun p hp=>by
  obtain ⟨k,hk,rfl⟩:=List.mem_map.1 hp
  have hk:=List.mem_range.1 hk
  refine ⟨k,hk,rfl,?_⟩
  simp only [ppAt]
  rw [zeE (by omega)]
 obtain ⟨q1,q2⟩:=zzH (d:=4096) (by decide) (ps:=ppTo n id at0 true l l.length) (g:=g) hnd fun p hp=>by
  obtain ⟨k,_,_,e⟩:=hmem p hp
  omega
 have hat: ∀k,k<l.length→PtAt (zcx 4096 (ppTo n id at0 true l l.length) g) (4096+16*(at0+k)).toNat (ppAt n id at0 true l k):=fun k hk=>by
  have hp:=q1 (ppAt n id at0 true l k) (List.mem_map.2 ⟨k,List.mem_range.2 hk,rfl⟩)
  have ea:(ppAt n id at0 true l k).at0=at0+k:=by
   simp only [ppAt]
   rw [zeE (by omega)]
  rwa [ea] at hp
 refine ⟨?_,?_,fun j hj=>q2 j fun p hp=> ?_⟩
 ·have hR:=zqH (N:=N) (tb:=tb) h0 hfit hn hid hok hat l.length n.toNat 0 0 (by omega) (by omega) (by omega)
  simp only [Int.natCast_zero,Int.add_zero,List.take_zero] at hR
  have hlook:zcU N l=0:=by
   unfold zcU
   rw [if_neg (by rw [not_or];exact ⟨hne,by rw [Classical.not_not];exact hse⟩)]
   unfold zf9
   rw [if_pos hse,if_pos hsi]
  unfold zbW
  simp only [hR,hlook]
  rw [if_neg (by simp),if_neg (by omega),if_neg (by simp)]
 ·have h1:=hat 0 hlp
  have hxk:=hok l[0] (List.getElem_mem hlp)
  have lk:l.getD 0 ⟨0,0,false⟩=l[0]:=by simp [List.getD_eq_getElem?_getD,hlp]
  have hpos:posN n at0 true 0=(at0,true):=rfl
  have e3:(ppAt n id at0 true l 0).nx=((if l[0].wr then 2 else 0)+(if 0+1<l.length then 1 else 0))+128:=by
   simp only [ppAt,lk,hpos,zh9,if_true]
  have hp:(ppAt n id at0 true l 0).ok:=by
   refine ⟨?_,?_,?_,?_⟩
   ·simp only [ppAt,lk];exact ⟨hxk.1,hxk.2.1⟩
   ·simp only [ppAt,lk];exact ⟨hxk.2.2.1,hxk.2.2.2⟩
   ·show 0≤id∧id<65536;omega
   ·rw [e3];repeat' split
    all_goals decide
  obtain ⟨_,_,_,w4⟩:=h1.words hp
  rw [e3] at w4
  have ea:(4096+16*at0+14).toNat=(4096+16*(at0+(0:Nat))).toNat+14:=by omega
  rw [ea,w4]
  unfold zcs
  repeat' split
  all_goals decide
 ·obtain ⟨k,hk,_,e⟩:=hmem p hp
  rw [e];omega
def Tryz.zb8 (N:Nat) (r:Rg):Nat→Int→PS→(Nat→Int)→Int×PS×(Nat→Int)
 | 0,n,s,g=>(n,s,g)
 | f+1,n,s,g=>if s.ph=0 then (n,s,g) else if (zaT N r s g).2.1=0 then zb8 N r f (n+1) (zaT N r s g).2.2.1 (zaT N r s g).2.2.2 else (-1,(zaT N r s g).2.2.1,(zaT N r s g).2.2.2)
theorem Tryz.zgp {N:Nat} {r:Rg} {f:Nat} {n:Int} {s:PS} {g:Nat→Int} (h:s.ph=0):zb8 N r f n s g=(n,s,g):=by
 cases f with
 | zero=>rfl
 | succ f=>unfold zb8;rw [if_pos h]
theorem Tryz.zbI {N:Nat} {r:Rg} {f:Nat} {n:Int} {s:PS} {g:Nat→Int} {x:Value} {s':PS} {g':Nat→Int} (h:s.ph≠0) (e:zaT N r s g=(x,0,s',g')):zb8 N r (f+1) n s g=zb8 N r f (n+1) s' g':=by
 conv=>lhs;unfold zb8
 rw [if_neg h,e];rfl
theorem Tryz.zb6 {N:Nat} {r:Rg} {s:PS} {g:Nat→Int} {p:Nat} (hb:s.br=false) (hp:s.ph=p) (h0:p≠0):zaT N r s g=zdJ N r s g p:=by
 unfold zaT
 rw [if_neg (by rw [hb];decide),hp,if_neg h0]
theorem Tryz.zuR {s:PS} (hph:s.ph=0) (hb:s.br=false):zck s=(0,({ s with op:=3,nn:=false,hd:=0,sg:= [],wr:=0,it:=false }:PS).goto 1):=by
 unfold zck
 rw [if_neg (by rw [hb];decide),if_neg (by rw [hph];decide)]
theorem Tryz.zsD {N:Nat} {r:Rg} {s:PS} {g:Nat→Int} {id ct:Int} {l:List Sg} (hph:s.ph=0) (hb:s.br=false) (hav:zcb g s=true) (hfree:zbk id s.tk=none) (hsp:zbW N g r.n s.nx s.tb=⟨id,ct,l,0⟩) (hou:ct+s.ou≤r.n):
  (zck s).1=0∧zb8 N r 20 0 (zck s).2 g=(3,{ s with op:=3,nn:=false,hd:=id,sg:=l,wr:=0,it:=false,tk:=s.tk++ [(id,⟨ct,l⟩)],ou:=s.ou+ct,nx:=(zaL r.n s.nx s.nw ct).1,nw:=(zaL r.n s.nx s.nw ct).2,ph:=0,dn:=true,br:=false },g):=by
 rw [zuR hph hb]
 refine ⟨rfl,?_⟩
 have e1:zaT N r (({ s with op:=3,nn:=false,hd:=0,sg:= [],wr:=0,it:=false }:PS).goto 1) g=(accV 2 1 s.nx,0,({ s with op:=3,nn:=false,hd:=0,sg:= [],wr:=0,it:=false }:PS).goto 5,g):=by
  rw [zb6 (p:=1) rfl rfl (by decide)]
  have ha:zcb g (({ s with op:=3,nn:=false,hd:=0,sg:= [],wr:=0,it:=false }:PS).goto 1)=true:=hav
  show (_,_,(if zcb g (({ s with op:=3,nn:=false,hd:=0,sg:= [],wr:=0,it:=false }:PS).goto 1)=true then _ else _),g)=_
  rw [if_pos ha];rfl
 rw [show (20:Nat)=19+1 from rfl,zbI (by show (1:Nat)≠0;decide) e1]
 rw [show (19:Nat)=18+1 from rfl,zbI (by show (5:Nat)≠0;decide) (zb6 (p:=5) rfl rfl (by decide))]
 have e3:zaT N r ((({ s with op:=3,nn:=false,hd:=0,sg:= [],wr:=0,it:=false }:PS).goto 5).goto 6) g=(accV 1 0 0,0,{ s with op:=3,nn:=false,hd:=id,sg:=l,wr:=0,it:=false,tk:=s.tk++ [(id,⟨ct,l⟩)],ou:=s.ou+ct,nx:=(zaL r.n s.nx s.nw ct).1,nw:=(zaL r.n s.nx s.nw ct).2,ph:=0,dn:=true,br:=false },g):=by
  rw [zb6 (p:=6) rfl rfl (by decide)]
  have q2:zbW N g r.n ((({ s with op:=3,nn:=false,hd:=0,sg:= [],wr:=0,it:=false }:PS).goto 5).goto 6).nx ((({ s with op:=3,nn:=false,hd:=0,sg:= [],wr:=0,it:=false }:PS).goto 5).goto 6).tb=⟨id,ct,l,0⟩:=hsp
  unfold zdJ
  simp only [q2]
  have q1:zbk id ((({ s with op:=3,nn:=false,hd:=0,sg:= [],wr:=0,it:=false }:PS).goto 5).goto 6).tk=none:=hfree
  rw [if_neg (by
   rw [q1]
   rintro (h|h|h)
   ·exact h rfl
   ·exact h rfl
   ·have h:r.n<ct+s.ou:=h
    omega)]
  rfl
 rw [show (18:Nat)=17+1 from rfl,zbI (by show (6:Nat)≠0;decide) e3,zgp rfl]
 rfl
theorem Tryz.zxb {N:Nat} {r:Rg} {s:PS} {g:Nat→Int} (hr:PgOk r) (hph:s.ph=0) (hb:s.br=false) (hnx:0≤s.nx∧s.nx<r.n) (hav:zcb g s=false):
  (zck s).1=0∧ ∃n g',(n=1∨n=4)∧zb8 N r 20 0 (zck s).2 g=(n,{ s with op:=3,nn:=true,hd:=0,sg:= [],wr:=0,it:=false,ph:=0,dn:=true,br:=false },g')∧ ∀j,g' j≠g j→r.c≤(j:Int)∧(j:Int)<r.c+4:=by
 have hbn:=hr.bnd
 have hc:=hr.c
 rw [zuR hph hb]
 refine ⟨rfl,?_⟩
 have ha: ∀p,zcb g (({ s with op:=3,nn:=false,hd:=0,sg:= [],wr:=0,it:=false }:PS).goto p)=false:=fun p=>hav
 by_cases hev:s.ev=true
 ·obtain ⟨g2,hg2⟩: ∃g2,g2=putW g r.c.toNat 4 (posW s.nx s.nw+131072):=⟨_,rfl⟩
  have e1:zaT N r (({ s with op:=3,nn:=false,hd:=0,sg:= [],wr:=0,it:=false }:PS).goto 1) g=(accV 2 1 s.nx,0,({ s with op:=3,nn:=false,hd:=0,sg:= [],wr:=0,it:=false }:PS).goto 2,g):=by
   rw [zb6 (p:=1) rfl rfl (by decide)]
   show (_,_,(if zcb g (({ s with op:=3,nn:=false,hd:=0,sg:= [],wr:=0,it:=false }:PS).goto 1)=true then _ else if s.ev=true then _ else _),g)=_
   rw [if_neg (by rw [ha];decide),if_pos hev];rfl
  have e2:zaT N r (({ s with op:=3,nn:=false,hd:=0,sg:= [],wr:=0,it:=false }:PS).goto 2) g=(accV 3 11 0,0,({ s with op:=3,nn:=false,hd:=0,sg:= [],wr:=0,it:=false }:PS).goto 3,g2):=by
   rw [zb6 (p:=2) rfl rfl (by decide),hg2];rfl
  have hw:zah g2 (4096+16*s.nx+14).toNat 2=zah g (4096+16*s.nx+14).toNat 2:=by rw [hg2,zcD (by omega)]
  have e4:zaT N r (({ s with op:=3,nn:=false,hd:=0,sg:= [],wr:=0,it:=false }:PS).goto 4) g2=(accV 2 1 s.nx,0,{ s with op:=3,nn:=true,hd:=0,sg:= [],wr:=0,it:=false,ph:=0,dn:=true,br:=false },g2):=by
   rw [zb6 (p:=4) rfl rfl (by decide)]
   have ha2:zcb g2 (({ s with op:=3,nn:=false,hd:=0,sg:= [],wr:=0,it:=false }:PS).goto 4)=false:=by
    unfold zcb at hav ⊢
    rw [←hw] at hav
    exact hav
   show (_,_,(if zcb g2 (({ s with op:=3,nn:=false,hd:=0,sg:= [],wr:=0,it:=false }:PS).goto 4)=true then _ else _),g2)=_
   rw [if_neg (by rw [ha2];decide)];rfl
  refine ⟨4,g2,.inr rfl,?_,fun j hj=> ?_⟩
  ·rw [show (20:Nat)=19+1 from rfl,zbI (by show (1:Nat)≠0;decide) e1]
   rw [show (19:Nat)=18+1 from rfl,zbI (by show (2:Nat)≠0;decide) e2]
   rw [show (18:Nat)=17+1 from rfl,zbI (by show (3:Nat)≠0;decide) (show zaT N r (({ s with op:=3,nn:=false,hd:=0,sg:= [],wr:=0,it:=false }:PS).goto 3) g2=(accV 4 0 0,0,({ s with op:=3,nn:=false,hd:=0,sg:= [],wr:=0,it:=false }:PS).goto 4,g2) by rw [zb6 (p:=3) rfl rfl (by decide)];rfl)]
   rw [show (17:Nat)=16+1 from rfl,zbI (by show (4:Nat)≠0;decide) e4,zgp rfl]
   rfl
  ·rw [hg2] at hj
   have:=zwV hj
   omega
 ·have e1:zaT N r (({ s with op:=3,nn:=false,hd:=0,sg:= [],wr:=0,it:=false }:PS).goto 1) g=(accV 2 1 s.nx,0,{ s with op:=3,nn:=true,hd:=0,sg:= [],wr:=0,it:=false,ph:=0,dn:=true,br:=false },g):=by
   rw [zb6 (p:=1) rfl rfl (by decide)]
   show (_,_,(if zcb g (({ s with op:=3,nn:=false,hd:=0,sg:= [],wr:=0,it:=false }:PS).goto 1)=true then _ else if s.ev=true then _ else _),g)=_
   rw [if_neg (by rw [ha];decide),if_neg hev];rfl
  refine ⟨1,g,.inl rfl,?_,fun j hj=>absurd rfl hj⟩
  rw [show (20:Nat)=19+1 from rfl,zbI (by show (1:Nat)≠0;decide) e1,zgp rfl]
  rfl
def Tryz.zlb (us h wr:Int) (uw:Bool) (g:Nat→Int):Nat→Int:=putW (putW (putW g (4096+16*us+8).toNat 4 wr) (4096+16*us+12).toNat 2 h) (4096+16*us+14).toNat 2 ((if 0<wr then 2 else 0)+if uw then 32896 else 0)
theorem Tryz.zzS {N:Nat} {r:Rg} {s:PS} {g:Nat→Int} {h wr ct:Int} {l:List Sg} (hph:s.ph=0) (hb:s.br=false) (ht:zbk h s.tk=some ⟨ct,l⟩) (hw:wr≤(zbp l).2):
  (zc7 s h wr).1=0∧ ∃it,zb8 N r 20 0 (zc7 s h wr).2 g=(5,{ s with op:=4,nn:=false,hd:=h,sg:= [],wr:=wr,it:=it,tk:=zb5 h s.tk,ou:=s.ou-ct,us:=(zaL r.n s.us s.uw ct).1,uw:=(zaL r.n s.us s.uw ct).2,ph:=0,dn:=true,br:=false },zlb s.us h wr s.uw g):=by
 have hret:zc7 s h wr=(0,({ s with op:=4,nn:=false,hd:=h,sg:= [],wr:=wr,it:=false }:PS).goto 7):=by
  unfold zc7
  rw [if_neg (by rw [hb];decide),if_neg (by rw [hph];decide),ht]
  simp only
  rw [if_neg (by omega)]
 rw [hret]
 refine ⟨rfl,?_⟩
 obtain ⟨g1,hg1⟩: ∃g1,g1=putW (putW g (4096+16*s.us+8).toNat 4 wr) (4096+16*s.us+12).toNat 2 h:=⟨_,rfl⟩
 obtain ⟨g2,hg2⟩: ∃g2,g2=putW g1 (4096+16*s.us+14).toNat 2 ((if 0<wr then 2 else 0)+if s.uw then 32896 else 0):=⟨_,rfl⟩
 have hge:zlb s.us h wr s.uw g=g2:=by rw [hg2,hg1];rfl
 rw [hge]
 have e1:zaT N r (({ s with op:=4,nn:=false,hd:=h,sg:= [],wr:=wr,it:=false }:PS).goto 7) g=(accV 3 1 s.us,0,({ s with op:=4,nn:=false,hd:=h,sg:= [],wr:=wr,it:=false }:PS).goto 8,g1):=by
  rw [zb6 (p:=7) rfl rfl (by decide),hg1];rfl
 have e2:zaT N r (({ s with op:=4,nn:=false,hd:=h,sg:= [],wr:=wr,it:=false }:PS).goto 8) g1=(accV 4 0 0,0,({ s with op:=4,nn:=false,hd:=h,sg:= [],wr:=wr,it:=false }:PS).goto 9,g1):=by
  rw [zb6 (p:=8) rfl rfl (by decide)];rfl
 have e3:zaT N r (({ s with op:=4,nn:=false,hd:=h,sg:= [],wr:=wr,it:=false }:PS).goto 9) g1=(accV 3 1 s.us,0,({ s with op:=4,nn:=false,hd:=h,sg:= [],wr:=wr,it:=false }:PS).goto 10,g2):=by
  rw [zb6 (p:=9) rfl rfl (by decide),hg2];rfl
 have e4:zaT N r (({ s with op:=4,nn:=false,hd:=h,sg:= [],wr:=wr,it:=false }:PS).goto 10) g2=(accV 4 0 0,0,({ s with op:=4,nn:=false,hd:=h,sg:= [],wr:=wr,it:=false }:PS).goto 11,g2):=by
  rw [zb6 (p:=10) rfl rfl (by decide)];rfl
 refine ⟨zc4 r.n (zaL r.n s.us s.uw ct).1 (zaL r.n s.us s.uw ct).2 ct (zah g2 r.v.toNat 4) false,?_⟩
 have e5:zaT N r (({ s with op:=4,nn:=false,hd:=h,sg:= [],wr:=wr,it:=false }:PS).goto 11) g2=(accV 2 10 0,0,{ s with op:=4,nn:=false,hd:=h,sg:= [],wr:=wr,it:=zc4 r.n (zaL r.n s.us s.uw ct).1 (zaL r.n s.us s.uw ct).2 ct (zah g2 r.v.toNat 4) false,tk:=zb5 h s.tk,ou:=s.ou-ct,us:=(zaL r.n s.us s.uw ct).1,uw:=(zaL r.n s.us s.uw ct).2,ph:=0,dn:=true,br:=false },g2):=by
  rw [zb6 (p:=11) rfl rfl (by decide)]
  have q:zbk (({ s with op:=4,nn:=false,hd:=h,sg:= [],wr:=wr,it:=false }:PS).goto 11).hd (({ s with op:=4,nn:=false,hd:=h,sg:= [],wr:=wr,it:=false }:PS).goto 11).tk=some ⟨ct,l⟩:=ht
  unfold zdJ
  simp only [q]
  rfl
 rw [show (20:Nat)=19+1 from rfl,zbI (by show (7:Nat)≠0;decide) e1]
 rw [show (19:Nat)=18+1 from rfl,zbI (by show (8:Nat)≠0;decide) e2]
 rw [show (18:Nat)=17+1 from rfl,zbI (by show (9:Nat)≠0;decide) e3]
 rw [show (17:Nat)=16+1 from rfl,zbI (by show (10:Nat)≠0;decide) e4]
 rw [show (16:Nat)=15+1 from rfl,zbI (by show (11:Nat)≠0;decide) e5,zgp rfl]
 rfl
theorem Tryz.zx4 {us h wr:Int} {uw:Bool} {g:Nat→Int} (hu:0≤us) (hh:0≤h∧h<65536) (hw:0≤wr∧wr<4294967296):
  zah (zlb us h wr uw g) ((4096+16*us).toNat+8) 4=wr∧zah (zlb us h wr uw g) ((4096+16*us).toNat+12) 2=h∧zah (zlb us h wr uw g) ((4096+16*us).toNat+14) 2=(if 0<wr then 2 else 0)+(if uw then 32896 else 0):=by
 have a1:(4096+16*us).toNat+8=(4096+16*us+8).toNat:=by omega
 have a2:(4096+16*us).toNat+12=(4096+16*us+12).toNat:=by omega
 have a3:(4096+16*us).toNat+14=(4096+16*us+14).toNat:=by omega
 rw [a1,a2,a3]
 unfold zlb
 refine ⟨?_,?_,?_⟩
 ·rw [zcD (by omega),zcD (by omega),zm9 hw.1]
  exact Int.emod_eq_of_lt hw.1 hw.2
 ·rw [zcD (by omega),zm9 hh.1]
  exact Int.emod_eq_of_lt hh.1 hh.2
 ·have hn:(0:Int)≤(if 0<wr then 2 else 0)+(if uw then 32896 else 0):=by
   repeat' split
   all_goals decide
  rw [zm9 hn]
  repeat' split
  all_goals decide
def Tryz.zmb (l:List Nat):List (Nat×AV):=l.map fun t=>(t,.cst (100+t) none)
def Tryz.zAq:Ent:=⟨27,[.cst 2 none],1,0,0,.tup [.agg [.int .i64 (.var 30),.int .i64 (.var 31),.int .i64 (.var 32)],.int .i64 (.var 21)],2⟩
def Tryz.zAs (k b:Nat):Ent:=⟨26,[.cst 2 none],k,0,0,.bool (.var b),k⟩
open Go.Maps Go.Sort
section
variable {ρ:Val} {w0:World} {K:Nat→Prop} {X:Nat→Prop} {bX:Nat} {S P L Bs B M N:Nat} {r:Tryz.Rg} {b2:Nat} {sk:Nat→Tryz.PS×(Nat→Int)} {rows:Nat→List Tryz.LwR} {k k' q:Nat}
theorem Tryz.zAp {x y z:Int} (hv2:ρ.v 2= .pointer (some ⟨S,0,none⟩)) (hacc:(zaT N r (sk 1).1 (sk 1).2).1=accV x y z) (h30:ρ.i 30=x) (h31:ρ.i 31=y) (h32:ρ.i 32=z) (h21:ρ.i 21=(zaT N r (sk 1).1 (sk 1).2).2.1) (hs:sk 2=((zaT N r (sk 1).1 (sk 1).2).2.2.1,(zaT N r (sk 1).1 (sk 1).2).2.2.2)) (hbX:bX≤w0.heap.size) (hlt:S<b2∧M<b2∧B<b2) (hK:K S∧K M∧K B) (hrows: ∀e∈rows 2,e∈rows 1):
  zaQ prog ρ w0 K (obG (pwO S P L Bs B M N r) X bX b2 sk rows) zAq:=
 zss (Dw.enters_of (by kernel_rfl)) (by decide) hbX [.pointer (some ⟨S,0,none⟩)] (.tuple #[accV x y z,.int .i64 (zaT N r (sk 1).1 (sk 1).2).2.1]) (fun j=>zab (za5 hv2 rfl) RL.nil) (fun j=>zcC (zab (zbg (zab (zac h30) (zab (zac h31) (zab (zac h32) RL.nil)))) (zab (zac h21) RL.nil))) hlt hK hrows fun A w hsw=>by
  rw [hs,←hacc];exact zzL hsw
theorem Tryz.zAr {b:Nat} (hv2:ρ.v 2= .pointer (some ⟨S,0,none⟩)) (hb:ρ.b b=decide ((sk k).1.ph≠0)):zaQ prog ρ w0 K (obG (pwO S P L Bs B M N r) X bX b2 sk rows) (zAs k b):=
 zJP (Dw.enters_of (by kernel_rfl)) (by decide) [.pointer (some ⟨S,0,none⟩)] (.bool (decide ((sk k).1.ph≠0))) (fun j=>zab (za5 hv2 rfl) RL.nil) (fun j=>zap hb) fun F w h1=>
  Calls.mono (zkJ h1.sw) fun e w' hh=>⟨hh.1,hh.2▸Below.refl _ _⟩
end
end Go.Proofs
namespace Go.Proofs
open Go.Dw
def Tryz.zvr:List Ent:= [zAs 1 0,zAq]
def Tryz.zAN:List Sh:= []
def Tryz.zjY:List (Nat×AV):= [(0,.cst 2 none),(3,.int .i64 (lnv 26))]
def Tryz.zqq:List LEnt:= []
def Tryz.zqr:List AEnt:= []
def Tryz.zAO:Option AV:=none
def Tryz.zHL:List (SB×Bool):= [(.cmp .lss (lnv 26) (.lit 20),true)]
def Tryz.zFP:List zbo:= [
 ⟨.ret,[2],none,⟨.tup [.int .i64 (.lit (-1))],[],[],2,[]⟩⟩,
 ⟨.normal,[0,3],none,⟨.tup [.cst 2 none,.int .i64 (.bin .add .i64 (lnv 26) (.lit 1))],[],[],2,[]⟩⟩,
 ⟨(.exit 0),[0,3],none,⟨.tup [.cst 2 none,.int .i64 (lnv 26)],[],[],1,[]⟩⟩]
def Tryz.zFO:List (List (SB×Bool)×Nat):= [
 ([(.var 0,true),((.cmp .neq (.var 21) (.lit 0)),true)],0),
 ([(.var 0,true),((.cmp .neq (.var 21) (.lit 0)),false)],1),
 ([(.var 0,false)],2)]
theorem Tryz.zHK:(evL prog (zau zvr) (zaF zqq) (zaE zqr) 100000 (.code (zaK prog [0,0,0,1,1,13]) [0,0,0,1,1,13] 22 (envS 22 zjY zAO) (zas 1 zAN) (zaJ zFP 0))).ways zHL=some zFO:=by kernel_rfl
theorem Tryz.zJI:(zai zAN&&zaf zvr&&zam zqq&&zan zqr&&zaq zjY&&zak zFP&&zaH 22 zjY&&Nat.ble 22 zaP&&zaC zAO)=true:=by kernel_rfl
def Tryz.zvq:List Ent:= []
def Tryz.zAL:List Sh:= []
def Tryz.zjX:List (Nat×AV):= [(0,.cst 2 none),(3,.int .i64 (lnv 26))]
def Tryz.zqo:List LEnt:= []
def Tryz.zqp:List AEnt:= []
def Tryz.zAM:Option AV:=none
def Tryz.zHJ:List (SB×Bool):= [(.cmp .lss (lnv 26) (.lit 20),false)]
def Tryz.zFN:List zbo:= [
 ⟨(.exit 0),[0,3],none,⟨.tup [.cst 2 none,.int .i64 (lnv 26)],[],[],1,[]⟩⟩]
def Tryz.zFM:List (List (SB×Bool)×Nat):= [
 ([], 0)]
theorem Tryz.zHI:(evL prog (zau zvq) (zaF zqo) (zaE zqp) 100000 (.code (zaK prog [0,0,0,1,1,13]) [0,0,0,1,1,13] 22 (envS 22 zjX zAM) (zas 1 zAL) (zaJ zFN 0))).ways zHJ=some zFM:=by kernel_rfl
theorem Tryz.zJH:(zai zAL&&zaf zvq&&zam zqo&&zan zqp&&zaq zjX&&zak zFN&&zaH 22 zjX&&Nat.ble 22 zaP&&zaC zAM)=true:=by kernel_rfl
open Go.RowKit Go.Maps Go.Sort
structure Tryz.Pc where
 k:Int
 n:Int
 v:Int
 a:Int
 l:Int
 f:Int
 x:Int
 gd:Bool
 sv:Value
 sl:List Sg
structure Tryz.PmV where
 r:Rg
 c:Pc
 nacts:Int
 i:Int
 steps:Int
 na:Int
 nw:Bool
 h1:Int
 h2:Int
 pick:Int
 code:Int
 err:Int
 x:Int
 y:Int
 z:Int
 cnt:Int
 na2:Int
 nw2:Bool
 busy0:Bool
 busy1:Bool
 off:Bool
 ret:Bool
 busy:Bool
 mem:Value
 srv:Value
 acts:Value
section
variable {ρ:Val} {m:Tryz.PmV}
end
theorem Tryz.own_lt {w:World} {b:Nat} {l:List Value} (h:Dw.Own w b l):b<w.heap.size:=by
 obtain ⟨arr,e,h1,_⟩:=h
 rcases Nat.lt_or_ge b w.heap.size with hh|hh
 ·exact hh
 ·rw [Array.getElem?_eq_none hh] at h1;cases h1
section
variable {W0:World} {X9 X15 S P L Bs B M:Nat} {r:Tryz.Rg} {av:Value} {acts:List Tryz.Pc} {s:Tryz.PS×(Nat→Int)} {i steps:Nat} {na:Int} {nw:Bool} {a:Act} {w:World}
end
theorem Tryz.zw5 (N:Nat) (r:Rg) (s:PS) (g:Nat→Int): ∃x y z,(zaT N r s g).1=accV x y z:=by
 unfold zaT zdJ
 split
 ·exact ⟨_,_,_,rfl⟩
 ·split
  ·exact ⟨_,_,_,rfl⟩
  ·split<;>first|exact ⟨_,_,_,rfl⟩|(simp only;split<;>exact ⟨_,_,_,rfl⟩)
end Go.Proofs
namespace Go.Proofs
open Go.Dw Go.RowKit Go.Maps Go.Sort
theorem Tryz.zCr {b1 b2 b3:Nat×Nat} {x y z:List AV}:apart [b1,b2,b3] [.ro x,.own y,.ro z]:=
 ⟨fun hh=>(by cases hh),fun _ i b' s' e1 e2 e3=>(by
  match i,e2 with
  | 0,e2=>cases e2;cases e3
  | i+1,e2=>cases e2),fun hh=>(by cases hh),trivial⟩
theorem Tryz.zG0 {A:Nat→Prop} {w:World} {v:Value} {l:List Sg} (h:SegV A w v l) (h0:l≠ []) {R o c:Nat} (e:v= .slice (some ⟨R,o,none⟩) l.length c):R<w.heap.size:=by
 obtain ⟨sa,c2,e2,_,h3⟩:=h
 rcases h3 with h3|⟨R2,o2,rfl,_,h4⟩
 ·exact absurd h3 h0
 ·rw [e] at e2
  injection e2 with e3
  injection e3 with e4
  injection e4 with e5
  rw [e5]
  exact zcF h4 h0
theorem Tryz.PW.anew {A A':Nat→Prop} {w:World} {S P L Bs B M N:Nat} {r:Rg} {s:PS} {g:Nat→Int} (h:PW A w S P L Bs B M N r s g) (ht:s.tk= []) (hs:s.sg= []) (aS:A' S) (aM:A' M) (aB:A' B) (hl: ∀b,A' b→b<w.heap.size):PW A' w S P L Bs B M N r s g:=by
 obtain ⟨sv,h1,sa,c,e,hok,hr⟩:=h.obj
 obtain ⟨arr,clock,m1,m2,m3⟩:=h.tk.map
 refine ⟨⟨sv,h1,sa,c,e,hok,.inl hs⟩,⟨⟨arr,clock,m1,m2,fun k=>⟨(m3 k).1,fun t hh=> ?_⟩⟩,h.tk.keys,h.tk.rng⟩,h.ne,aS,aM,h.rg,h.pb,h.mem,h.hN,h.sd,h.md,aB,hl,h.fit⟩
 rw [ht] at hh
 cases hh
def Tryz.pwX (A:Nat→Prop) (S P L Bs B M:Nat) (b:Nat):Prop:= ¬A b∨b=S∨b=M∨b=B
theorem Tryz.zuI {A:Nat→Prop} {w:World} {S P L Bs B M N:Nat} {r:Rg} {s:PS×(Nat→Int)} (h:PW A w S P L Bs B M N r s.1 s.2) (hA: ¬A P∧ ¬A L∧ ¬A Bs) {k b2:Nat} {sk:Nat→PS×(Nat→Int)} {rows:Nat→List LwR} (hs:sk k=s) (hr:rows k= []) {bl:List (Nat×Nat)} (hbl: ∀x∈bl,A x.1∧x.1≠S∧x.1≠M∧x.1≠B):
  (obG (pwO S P L Bs B M N r) (pwX A S P L Bs B M) w.heap.size b2 sk rows).G k (jOf bl) w:=by
 have k1:=h.ltS
 have k2:=h.ltM
 have k3:=h.mem.bl
 refine ⟨fun b=>b<w.heap.size∧pwX A S P L Bs B M b,fun b hb=>⟨hb.1,fun hm=> ?_⟩,fun b hb=> .inl hb.2,fun b=>b<w.heap.size∧pwX A S P L Bs B M b,fun b hb=>hb,?_,fun e he=> ?_⟩
 ·have:=zdp hm
  obtain ⟨x,hx,rfl⟩:=List.mem_map.1 this
  obtain ⟨q1,q2,q3,q4⟩:=hbl x hx
  rcases hb.2 with e|e|e|e
  ·exact e q1
  ·exact q2 e
  ·exact q3 e
  ·exact q4 e
 ·show PwF S P L Bs B M N r (sk k) _ w
  rw [hs]
  refine ⟨⟨k1,.inr (.inl rfl)⟩,⟨k2,.inr (.inr (.inl rfl))⟩,⟨h.mem.pl,.inl hA.1⟩,⟨h.mem.ll,.inl hA.2.1⟩,⟨h.mem.sl,.inl hA.2.2⟩,⟨k3,.inr (.inr (.inr rfl))⟩,h.set (fun b hb hh=> ?_) ⟨k1,.inr (.inl rfl)⟩ ⟨k2,.inr (.inr (.inl rfl))⟩ ⟨k3,.inr (.inr (.inr rfl))⟩ fun b hb=>hb.1⟩
  rcases hh.2 with hh|rfl|rfl|rfl
  ·exact Classical.byContradiction fun hn=>hh ⟨hb,.inl hn⟩
  ·exact h.aS
  ·exact h.aM
  ·exact h.aB
 ·rw [hr] at he
  cases he
theorem Tryz.zuJ {A:Nat→Prop} {w w2:World} {S P L Bs B M N:Nat} {r:Rg} {s s':PS×(Nat→Int)} (h:PW A w S P L Bs B M N r s.1 s.2) (hs:w.heap.size≤w2.heap.size) {F2 F0:Nat→Prop} (hX: ∀b,F2 b→pwX A S P L Bs B M b∨w.heap.size≤b) (hF: ∀b,F0 b→F2 b) (hl:PwF S P L Bs B M N r s' F0 w2):PW A w2 S P L Bs B M N r s'.1 s'.2:=
 hl.sw.set (fun b hb hh=>⟨hb,by
  by_cases e:b=S∨b=M∨b=B
  ·exact .inr e
  ·refine .inl fun hf=> ?_
   rcases hX b (hF b hf) with q|q
   ·rcases q with q|q
    ·exact q hh
    ·exact e q
   ·have:=h.lt b hh;omega⟩) h.aS h.aM h.aB fun b hb=>Nat.lt_of_lt_of_le (h.lt b hb) hs
def Tryz.zqs (k c x y z:Int) (b:Bool) (S:Nat):Val:=⟨fun n=>match n with|26=>k|21=>c|30=>x|31=>y|32=>z|_=>0,fun _=>b,fun n=>match n with|2=> .pointer (some ⟨S,0,none⟩)|_=>undef⟩
set_option maxRecDepth 10000 in
theorem Tryz.zvp {A:Nat→Prop} {w:World} {S P L Bs B M N:Nat} {r:Rg} {s:PS} {g:Nat→Int} (h:PW A w S P L Bs B M N r s g) (hA: ¬A P∧ ¬A L∧ ¬A Bs):
  Calls prog 13 #[.pointer (some ⟨S,0,none⟩)] w fun e w'=>e= .returned (.int .i64 (zb8 N r 20 0 s g).1)∧PW A w' S P L Bs B M N r (zb8 N r 20 0 s g).2.1 (zb8 N r 20 0 s g).2.2∧Dw.Mv (sK S M B) w w':=by
 go_enter func13,ntmps13
 go_wp2
 rename_i K hK
 refine zby (c':= .loop (zaK prog [0,0,0,1,1,13])) (by kernel_rfl) ?_
 have k1:=h.ltS
 have done: ∀ {a2:Act} {w2:World} {v:Int},a2.defers= []→a2.tmps.getD 2 undef= .int .i64 v→v=(zb8 N r 20 0 s g).1→PW A w2 S P L Bs B M N r (zb8 N r 20 0 s g).2.1 (zb8 N r 20 0 s g).2.2→Dw.Mv (sK S M B) w w2→
   bodyPost prog f13 (fun e w'=>e= .returned (.int .i64 (zb8 N r 20 0 s g).1)∧PW A w' S P L Bs B M N r (zb8 N r 20 0 s g).2.1 (zb8 N r 20 0 s g).2.2∧Dw.Mv (sK S M B) w w') .ret a2 w2:=fun {a2 w2 v} h1 h2 h3 h4 h5=>
  zdb (fn:=f13) (Post:=fun e w'=>e= .returned (.int .i64 (zb8 N r 20 0 s g).1)∧PW A w' S P L Bs B M N r (zb8 N r 20 0 s g).2.1 (zb8 N r 20 0 s g).2.2∧Dw.Mv (sK S M B) w w') h1 rfl h2 ⟨by rw [h3],h4,h5⟩
 have tail: ∀ {a2:Act} {w2:World},a2.tmps.size=22→a2.defers= []→a2.tmps.getD 0 undef= .pointer (some ⟨S,0,none⟩)→a2.tmps.getD 3 undef= .int .i64 (zb8 N r 20 0 s g).1→PW A w2 S P L Bs B M N r (zb8 N r 20 0 s g).2.1 (zb8 N r 20 0 s g).2.2→Dw.Mv (sK S M B) w w2→K a2 w2:=fun {a2 w2} z1 z2 z3 z4 z6 z7=>by
  refine hK _ _ ?_
  obtain ⟨tmps,dfr⟩:=a2
  have z2:dfr= []:=z2
  have z1:tmps.size=22:=z1
  have z4:tmps.getD 3 undef= .int .i64 (zb8 N r 20 0 s g).1:=z4
  subst z2
  go_wp2_with fail
 refine zbJ (fun (x:Nat×PS×(Nat→Int)) a' w'=>x.1≤20∧a'.tmps.size=22∧a'.defers= []∧a'.tmps.getD 0 undef= .pointer (some ⟨S,0,none⟩)∧a'.tmps.getD 3 undef= .int .i64 x.1∧PW A w' S P L Bs B M N r x.2.1 x.2.2∧Dw.Mv (sK S M B) w w'∧zb8 N r 20 0 s g=zb8 N r (20-x.1) x.1 x.2.1 x.2.2)
  (fun x=>20-x.1) (fun x a1 w1 hI=> ?_) (0,s,g) _ _ ⟨Nat.zero_le _,rfl,rfl,rfl,rfl,h,Dw.Mv.refl _ _,rfl⟩
 obtain ⟨k,s1,g1⟩:=x
 obtain ⟨hk,q0,qd,p0,p3,hw1,hmv,hfin⟩:=hI
 simp only at hk p3 hw1 hfin
 have hwk:=zeu k (by omega)
 obtain ⟨x,y,z,hacc⟩:=zw5 N r s1 g1
 have d26:(lnv 26).den (zqs k (zaT N r s1 g1).2.1 x y z (decide (s1.ph≠0)) S)=k:=zat (by show (0:Int)≤k;omega) (by show (k:Int)<_;omega)
 have v2:(zqs k (zaT N r s1 g1).2.1 x y z (decide (s1.ph≠0)) S).v 2= .pointer (some ⟨S,0,none⟩):=rfl
 have i21:(zqs k (zaT N r s1 g1).2.1 x y z (decide (s1.ph≠0)) S).i 21=(zaT N r s1 g1).2.1:=rfl
 have i30:(zqs k (zaT N r s1 g1).2.1 x y z (decide (s1.ph≠0)) S).i 30=x:=rfl
 have i31:(zqs k (zaT N r s1 g1).2.1 x y z (decide (s1.ph≠0)) S).i 31=y:=rfl
 have i32:(zqs k (zaT N r s1 g1).2.1 x y z (decide (s1.ph≠0)) S).i 32=z:=rfl
 have b0:(zqs k (zaT N r s1 g1).2.1 x y z (decide (s1.ph≠0)) S).b 0=decide (s1.ph≠0):=rfl
 generalize zqs k (zaT N r s1 g1).2.1 x y z (decide (s1.ph≠0)) S=ρ at d26 v2 i21 i30 i31 i32 b0
 have l1:=hw1.ltS
 have l2:=hw1.ltM
 have l3:=hw1.mem.bl
 have sl: ∀t∈ [(0,AV.cst 2 none),(3,.int .i64 (lnv 26))],Dw.R ρ (jOf []) t.2 (a1.tmps.getD t.1 undef):=fun t ht=>by
  simp only [List.mem_cons,List.not_mem_nil,or_false] at ht
  rcases ht with rfl|rfl
  ·rw [p0];exact za5 v2 rfl
  ·rw [p3];exact zac d26
 by_cases hk20:k<20
 ·have hf20:zb8 N r (20-k) k s1 g1=if s1.ph=0 then ((k:Int),s1,g1) else if (zaT N r s1 g1).2.1=0 then zb8 N r (20-(k+1)) (k+1:Nat) (zaT N r s1 g1).2.2.1 (zaT N r s1 g1).2.2.2 else (-1,(zaT N r s1 g1).2.2.1,(zaT N r s1 g1).2.2.2):=by
   rw [show 20-k=(20-(k+1))+1 by omega]
   conv=>lhs;unfold zb8
   rfl
  refine wp_mono (zaz (ρ:=ρ) (K:=sK S M B) (g:=obG (pwO S P L Bs B M N r) (pwX A S P L Bs B M) w1.heap.size w1.heap.size (fun k=>match k with|1=>(s1,g1)|_=>((zaT N r s1 g1).2.2.1,(zaT N r s1 g1).2.2.2)) (fun _=> [])) (bl:= []) mixed zHK zJI (fun b hb=>by rcases hb with rfl|rfl|rfl<;>assumption)
   trivial trivial (zuI (s:=(s1,g1)) hw1 hA rfl rfl (fun x hx=>(by cases hx)))
   ⟨zAr v2 b0,zAp v2 hacc i30 i31 i32 i21 rfl (Nat.le_refl _) ⟨l1,l2,l3⟩ ⟨.inl rfl,.inr (.inl rfl),.inr (.inr rfl)⟩ (fun e he=>he),trivial⟩ trivial trivial q0 qd sl (zaa.2 ⟨by rw [zaY,d26,zad];exact decide_eq_true (by omega),zae.2 trivial⟩)) fun ex a2 w2 hh=> ?_
  obtain ⟨q,hq,hto,lf,hlf,rfl,hsz2,j2,hdf2,he⟩:=hh
  have hmv2:Dw.Mv (sK S M B) w1 w2:=he.mv
  have hmv3:=hmv.trans hmv2
  obtain ⟨F2,z1,z2,F0,z3,z4,_⟩:=he.gho
  unfold zFO at hq
  simp only [List.mem_cons,List.not_mem_nil,or_false] at hq
  rcases hq with rfl|rfl|rfl
  all_goals
   simp only [zaa,zae,zcL,zaA,zaM,zad,i21,b0,bne_iff_ne,ne_eq,decide_eq_true_eq,decide_eq_false_iff_not,bne_eq_false_iff_eq,Classical.not_not,and_true] at hto
   cases hlf
  ·rw [if_neg hto.1,if_neg (by simpa using hto.2)] at hf20
   rw [hf20] at hfin
   have hs2:=zaB he.ret
   simp only [AV.valL,AV.val,zad,List.map_cons,List.map_nil,List.cons.injEq,and_true] at hs2
   exact done hdf2 hs2 (by rw [hfin]) (by rw [hfin];exact zuJ (s:=(s1,g1)) hw1 hmv2.size z2 z3 z4) hmv3
  ·rw [if_neg hto.1,if_pos (by simpa using hto.2)] at hf20
   have hs2:=zaB he.ret
   simp only [AV.valL,AV.val,den_add,zad,d26,v2,hwk,List.map_cons,List.map_nil,List.cons.injEq,and_true] at hs2
   exact ⟨(k+1,(zaT N r s1 g1).2.2.1,(zaT N r s1 g1).2.2.2),by simp only;omega,by simp only;omega,hsz2,hdf2,hs2.1,hs2.2,zuJ (s:=(s1,g1)) hw1 hmv2.size z2 z3 z4,hmv3,by rw [hfin,hf20]⟩
  ·rw [if_pos hto] at hf20
   rw [hf20] at hfin
   have hs2:=zaB he.ret
   simp only [AV.valL,AV.val,d26,v2,List.map_cons,List.map_nil,List.cons.injEq,and_true] at hs2
   show K a2 w2
   exact tail hsz2 hdf2 hs2.1 (by rw [hfin];exact hs2.2) (by rw [hfin];exact zuJ (s:=(s1,g1)) hw1 hmv2.size z2 z3 z4) hmv3
 ·have hkk:k=20:=by omega
  subst hkk
  have hf20:zb8 N r (20-20) ((20:Nat):Int) s1 g1=(((20:Nat):Int),s1,g1):=rfl
  rw [hf20] at hfin
  refine wp_mono (zaz (ρ:=ρ) (K:=fun _=>False) (g:=Gho.none) (bl:= []) mixed zHI zJH (fun b h=>h.elim) trivial trivial zaO trivial trivial trivial q0 qd sl (zaa.2 ⟨by rw [zaY,d26,zad];exact decide_eq_false (by omega),zae.2 trivial⟩)) fun ex a2 w2 hh=> ?_
  obtain ⟨q,hq,hto,lf,hlf,rfl,hsz2,j2,hdf2,he⟩:=hh
  have hb3:=zar he (fun _ h=>h)
  unfold zFM at hq
  simp only [List.mem_cons,List.not_mem_nil,or_false] at hq
  subst hq
  cases hlf
  have hs2:=zaB he.ret
  simp only [AV.valL,AV.val,d26,v2,List.map_cons,List.map_nil,List.cons.injEq,and_true] at hs2
  show K a2 w2
  refine tail hsz2 hdf2 hs2.1 (by rw [hfin];exact hs2.2) ?_ (hmv.trans (Dw.Mv.of_below hb3))
  rw [hfin]
  have hbs:=hb3.size
  exact hw1.kept (hb3.block S l1) (hb3.block M l2) (fun b hb _=>hb3.block b hb) (fun b hb=>hb3.block b (by rcases hb with rfl|rfl|rfl|rfl;exact hw1.mem.pl;exact hw1.mem.ll;exact hw1.mem.sl;exact l3)) hbs
open Go.Deep
set_option maxRecDepth 100000 in
theorem Tryz.zru {A:Nat→Prop} {w:World} {S P L Bs B M N:Nat} {r:Rg} {s:PS} {g:Nat→Int} (h:PW A w S P L Bs B M N r s g) (hph:s.ph=0) (hbr:s.br=false) (hdn:s.dn=true) (hln:s.sg.length≤1000000):
    Calls prog 14 #[.pointer (some ⟨S,0,none⟩)] w fun e w'=> ∃u,e= .returned (.tuple #[.agg #[.int .i64 s.op,.bool s.nn,.int .i64 s.hd,u,.int .u32 s.wr,.bool s.it],.bool true])∧OwnSeg w' w.heap.size u s.sg∧Below w.heap.size w w':=by
  have hm:=fun w1 (hb:Below w.heap.size w w1)=>zgA (h.below hb)
  have hbz:=fun w1 (hb:Below w.heap.size w w1)=>zkJ (h.below hb)
  rw [hph] at hbz
  obtain ⟨sv,ho,hsv⟩:=h.obj
  obtain ⟨sa,c,rfl,hok,hr⟩:=hsv
  have hcl:=fun w1 (hb:Below w.heap.size w w1)=>zmt (show SegV A w1 _ s.sg from SegV.below ⟨sa,c,rfl,hok,hr⟩ hb) hln
  have c16:=zbc ho (i:=16) rfl
  have c17:=zbc ho (i:=17) rfl
  have c18:=zbc ho (i:=18) rfl
  have c19:=zbc ho (i:=19) rfl
  have c20:=zbc ho (i:=20) rfl
  have c21:=zbc ho (i:=21) rfl
  have c22:=zbc ho (i:=22) rfl
  rw [hdn] at c22
  have hlS:=h.ltS
  have hA:=(Below.refl w.heap.size w).alloc (Nat.le_refl _)
  clear ho
  go_enter func14,ntmps14
  go_wp2_with (first
    | (go_at_call 56;refine (hm _ (hA _)).mono ?_;rintro e w' ⟨rfl,hw⟩;have hw:=hw.symm;subst hw)
    | (go_at_call 26;refine (hbz _ (hA _)).mono ?_;rintro e w' ⟨rfl,hw⟩;have hw:=hw.symm;subst hw)
    | (go_at_call 57;refine (hcl _ ((hA _).alloc (by simp) _)).mono ?_;rintro e w2 ⟨u,rfl,hu,hb2⟩
       have ka:=((Cl.new w _ _).alloc _).below hb2 (by simp<;>omega)
       have kb:=(Cl.new (w.alloc _) _ _).below hb2 (by simp<;>omega)
       rw [za8] at kb
       obtain ⟨sa2,c2,hue,_⟩:=hu.segV hok (A:=fun _=>False) fun _ _ h=>h
       subst hue
       have x0:=ka.cell 0 _ rfl;have x1:=ka.cell 1 _ rfl;have x2:=ka.cell 2 _ rfl;have x3:=ka.cell 3 _ rfl;have x4:=ka.cell 4 _ rfl;have x5:=ka.cell 5 _ rfl
       have y0:=kb.cell 0 _ rfl;have y1:=kb.cell 1 _ rfl;have y2:=kb.cell 2 _ rfl;have y3:=kb.cell 3 _ rfl;have y4:=kb.cell 4 _ rfl;have y5:=kb.cell 5 _ rfl
       have f0:=ka.free 0;have f1:=ka.free 1;have f2:=ka.free 2;have f3:=ka.free 3;have f4:=ka.free 4;have f5:=ka.free 5
       have g3:=kb.free 3)
    | go_in)
  have hs2:=hb2.size
  simp only [za8] at hs2
  have hb02:Below w.heap.size w w2:=(((Below.refl w.heap.size w).alloc (Nat.le_refl _) _).alloc (by simp) _).trans (hb2.mono (by simp only [za8];omega))
  have hlt:=hu.lt
  simp only [za8] at hlt
  have hq:=(Mv.refl (· =w.heap.size+1) w2).setCell (w.heap.size+1) 3 (.slice sa2 s.sg.length c2) (.inl rfl)
  have ka2:=ka.below (hq.below (base:=w.heap.size+1) (fun k hk=>by omega) (by omega)) (by omega)
  have k0:=(((((ka2.set 0 (.int .i64 s.op) (show 0<6 by decide)).set 1 (.bool s.nn) (show 1<6 by decide)).set 2 (.int .i64 s.hd) (show 2<6 by decide)).set 3 (.slice sa2 s.sg.length c2) (show 3<6 by decide)).set 4 (.int .u32 s.wr) (show 4<6 by decide)).set 5 (.bool s.it) (show 5<6 by decide)
  have hmv:=(((((((Mv.refl (fun b=>b=w.heap.size∨b=w.heap.size+1) w2).setCell (w.heap.size+1) 3 (.slice sa2 s.sg.length c2) (.inl (.inr rfl))).setCell (w.heap.size) 0 (.int .i64 s.op) (.inl (.inl rfl))).setCell (w.heap.size) 1 (.bool s.nn) (.inl (.inl rfl))).setCell (w.heap.size) 2 (.int .i64 s.hd) (.inl (.inl rfl))).setCell (w.heap.size) 3 (.slice sa2 s.sg.length c2) (.inl (.inl rfl))).setCell (w.heap.size) 4 (.int .u32 s.wr) (.inl (.inl rfl))).setCell (w.heap.size) 5 (.bool s.it) (.inl (.inl rfl))
  generalize (((((((w2.setCell ⟨w.heap.size+1,3,none⟩ (.slice sa2 s.sg.length c2)).setCell ⟨w.heap.size,0,none⟩ (.int .i64 s.op)).setCell ⟨w.heap.size,1,none⟩ (.bool s.nn)).setCell ⟨w.heap.size,2,none⟩ (.int .i64 s.hd)).setCell ⟨w.heap.size,3,none⟩ (.slice sa2 s.sg.length c2)).setCell ⟨w.heap.size,4,none⟩ (.int .u32 s.wr)).setCell ⟨w.heap.size,5,none⟩ (.bool s.it))=w3 at k0 hmv ⊢
  refine bodyPost_ret (zsp rfl _ _ w.heap.size [.int .i64 s.op,.bool s.nn,.int .i64 s.hd,.slice sa2 s.sg.length c2,.int .u32 s.wr,.bool s.it] _ rfl (fun j v hv=>by rw [Nat.zero_add];exact k0.cell j v hv) underlying50 rfl (by kernel_rfl)) rfl ?_
  refine ⟨_,rfl,(hu.kept fun b hb=>hmv.block b (hlt b hb).2.1 fun e=>by have:=(hlt b hb).1;omega).mono (by simp only [za8];omega),hb02.trans (hmv.below (base:=w.heap.size) (fun k hk=>by omega) hb02.size)⟩
theorem Tryz.ztM (g:Nat→Int) (a:Nat): ∀k,zah g a (k+1)=g a+256*zah g (a+1) k
 | 0=>by simp [zah]
 | k+1=>by
  have ih:=ztM g a k
  rw [show zah g a (k+1+1)=zah g a (k+1)+g (a+(k+1))*256^(k+1) from rfl,ih,
   show zah g (a+1) (k+1)=zah g (a+1) k+g (a+1+k)*256^k from rfl,show a+(k+1)=a+1+k by omega]
  rw [Int.pow_succ,Int.mul_add,Int.add_assoc]
  congr 2
  rw [←Int.mul_assoc,Int.mul_comm _ 256]
set_option maxRecDepth 100000 in
theorem Tryz.zij {g:Nat→Int} (hg: ∀j,0≤g j∧g j<256) (a X o c off n:Nat) (w:World) (h:w.rangeAt X o (row g a 16)) (hn:off+n≤16) (h8:1≤n∧n≤8):
  Calls prog 62 #[.slice (some ⟨X,o,none⟩) 16 c,.int .i64 off,.int .i64 n] w fun e w'=>e= .returned (.int .u64 (zah g (a+off) n))∧w'=w:=by
 obtain ⟨m0,rfl⟩: ∃m0,n=m0+1:=⟨n-1,by omega⟩
 have hn1:IntKind.wrap .i64 (((m0+1:Nat):Int)-1)=m0:=by rw [zbL (by omega) (by omega)];omega
 have hcell: ∀i,i<m0+1→w.cell? ⟨X,o+(off+i),none⟩=some (.int .u8 (g (a+off+i))):=fun i hi=>by
  have:=h (off+i) (.int .u8 (g (a+(off+i)))) (by unfold row;rw [List.getElem?_map,List.getElem?_range (by omega)];rfl)
  rw [this,Nat.add_assoc]
 go_enter func62,ntmps62
 go_wp2_with fail
 go_loopw [7,8] (fun v i wr=>wr=w∧((i= .int .i64 (-1)∧v= .int .u64 (zah g (a+off) (m0+1)))∨ ∃m:Nat,m≤m0∧i= .int .i64 m∧v= .int .u64 (zah g (a+off+(m+1)) (m0-m)))) (fun _ i _=>(RowKit.intOf i+1).toNat)
 case atStart=>exact ⟨rfl,.inr ⟨m0,Nat.le_refl _,rfl,by rw [Nat.sub_self];rfl⟩⟩
 case round=>
  obtain ⟨rfl,⟨rfl,rfl⟩|⟨m,hm,rfl,rfl⟩⟩:=hrel
  ·go_wp2_with fail
   go_ret
   exact ⟨rfl,rfl⟩
  ·have hc:=hcell m (by omega)
   have hgb:=hg (a+off+m)
   have hwb:=zbt g hg (a+off+(m+1)) (m0-m)
   have hpw:(256:Int)^(m0-m)≤256^7:=by
    exact_mod_cast Nat.pow_le_pow_right (by decide) (by omega:m0-m≤7)
   have h7:(256:Int)^7=72057594037927936:=by decide
   have hnext:zah g (a+off+m) (m0-m+1)=g (a+off+m)+256*zah g (a+off+(m+1)) (m0-m):=ztM g (a+off+m) (m0-m)
   generalize zah g (a+off+(m+1)) (m0-m)=V at hwb hnext ⊢
   generalize hB:g (a+off+m)=Bt at hc hgb hnext
   have e1:IntKind.wrap .u64 (256*V)=256*V:=zbE (by omega) (by omega)
   have e2:IntKind.wrap .u64 (256*V+Bt)=256*V+Bt:=zbE (by omega) (by omega)
   have e3:IntKind.wrap .u64 Bt=Bt:=zbE (by omega) (by omega)
   have e4:IntKind.wrap .i64 ((off:Int)+(m:Int))=((off+m:Nat):Int):=by rw [zbL (by omega) (by omega)];omega
   by_cases hm0:m=0
   ·have e5:IntKind.wrap .i64 ((m:Int)-1)= -1:=by rw [zbL (by omega) (by omega)];omega
    have hz:(fun _:Unit=>m)=fun _=>0:=by rw [hm0]
    clear hm0
    go_wp2_with fail
    have hm0:m=0:=congrFun hz ()
    refine ⟨⟨trivial,.inl ⟨rfl,?_⟩⟩,?_⟩
    ·have:zah g (a+off) (m0+1)=Bt+256*V:=by rw [←hnext,hm0];rfl
     rw [this,Int.add_comm]
    ·simp only [RowKit.intOf];omega
   ·have e5:IntKind.wrap .i64 ((m:Int)-1)=((m-1:Nat):Int):=by rw [zbL (by omega) (by omega)];omega
    have hpos:1≤m:=by omega
    clear hm0
    go_wp2_with fail
    refine ⟨⟨trivial,.inr ⟨m-1,by omega,rfl,?_⟩⟩,?_⟩
    ·rw [show m-1+1=m by omega,show m0-(m-1)=m0-m+1 by omega,hnext,Int.add_comm]
    ·simp only [RowKit.intOf];omega
end Go.Proofs
namespace Go.Proofs
open Go.Dw
def Tryz.zug:List Ent:= []
def Tryz.zy6:List Sh:= [ckEl 3 4 0,ckEl 5 6 1]
def Tryz.zf4:List (Nat×AV):= [(0,.sx 1 (lnv 0) 3 [(lnv 1,1)]),(1,.sx 2 (lnv 0) 3 [(lnv 1,2)]),(5,.int .i64 (lnv 1))]
def Tryz.zoV:List LEnt:= []
def Tryz.zoW:List AEnt:= []
def Tryz.zy7:Option AV:=none
def Tryz.zGM:List (SB×Bool):= [(.cmp .lss (lnv 1) (lnv 0),true)]
def Tryz.zFn:List zbo:= [
 ⟨.ret,[4],none,⟨.tup [.bool (.lit false)],[],[],0,[]⟩⟩,
 ⟨.normal,[0,1,5],none,⟨.tup [.sx 1 ((lnv 0)) 3 [((lnv 1),1)],.sx 2 ((lnv 0)) 3 [((lnv 1),2)],.int .i64 (.bin .add .i64 (lnv 1) (.lit 1))],[],[],0,[]⟩⟩]
def Tryz.zFm:List (List (SB×Bool)×Nat):= [
 ([((.and (.cmp .eql (u64v 3) (u64v 5)) (.and (.cmp .eql (u32v 4) (u32v 6)) (.beq (.var 0) (.var 1)))),false)],0),
 ([((.cmp .eql (u64v 3) (u64v 5)),true),((.cmp .eql (u32v 4) (u32v 6)),true),((.beq (.var 0) (.var 1)),true)],1)]
theorem Tryz.zGL:(evL prog (zau zug) (zaF zoV) (zaE zoW) 100000 (.code (zaK prog [0,0,1,0,1,1,15]) [0,0,1,0,1,1,15] 26 (envS 26 zf4 zy7) (zas 0 zy6) (zaJ zFn 0))).ways zGM=some zFm:=by kernel_rfl
theorem Tryz.zJd:(zai zy6&&zaf zug&&zam zoV&&zan zoW&&zaq zf4&&zak zFn&&zaH 26 zf4&&Nat.ble 26 zaP&&zaC zy7)=true:=by kernel_rfl
def Tryz.zuf:List Ent:= []
def Tryz.zy4:List Sh:= []
def Tryz.zf3:List (Nat×AV):= [(0,.sx 1 (lnv 0) 3 []),(1,.sx 2 (lnv 0) 3 []),(5,.int .i64 (lnv 1))]
def Tryz.zoT:List LEnt:= []
def Tryz.zoU:List AEnt:= []
def Tryz.zy5:Option AV:=none
def Tryz.zGK:List (SB×Bool):= [(.cmp .lss (lnv 1) (lnv 0),false)]
def Tryz.zFl:List zbo:= [
 ⟨(.exit 0),[0],none,⟨.tup [.sx 1 ((lnv 0)) 3 []],[],[],0,[]⟩⟩]
def Tryz.zFk:List (List (SB×Bool)×Nat):= [
 ([], 0)]
theorem Tryz.zGJ:(evL prog (zau zuf) (zaF zoT) (zaE zoU) 100000 (.code (zaK prog [0,0,1,0,1,1,15]) [0,0,1,0,1,1,15] 26 (envS 26 zf3 zy5) (zas 0 zy4) (zaJ zFl 0))).ways zGK=some zFk:=by kernel_rfl
theorem Tryz.zJc:(zai zy4&&zaf zuf&&zam zoT&&zan zoU&&zaq zf3&&zak zFl&&zaH 26 zf3&&Nat.ble 26 zaP&&zaC zy5)=true:=by kernel_rfl
open Go.RowKit Go.Maps Go.Sort
set_option maxRecDepth 10000 in
theorem Tryz.zzn {A B:Nat→Prop} {w:World} {v1 v2:Value} {l1 l2:List Sg} (h1:SegV A w v1 l1) (h2:SegV B w v2 l2) (hl:l1.length<4000000) (hl2:l2.length<4000000):
  Calls prog 15 #[v1,v2] w fun e w'=>e= .returned (.bool (decide (l1=l2)))∧Below w.heap.size w w':=by
 obtain ⟨sa,c,rfl,hok,hr⟩:=h1
 obtain ⟨sb,d,rfl,hok2,hr2⟩:=h2
 by_cases hlen:l1.length=l2.length
 ·have e2:Value.slice sb l2.length d= .slice sb l1.length d:=by rw [hlen]
  rw [e2]
  obtain ⟨n,hn⟩: ∃n,n=l1.length:=⟨_,rfl⟩
  have hn2:n=l2.length:=hn.trans hlen
  rw [←hn]
  have Hn:(fun _:Unit=>n)=fun _=>l1.length:=by rw [hn]
  have Hn2:(fun _:Unit=>n)=fun _=>l2.length:=by rw [hn2]
  clear hlen e2 hn hn2
  go_enter func15,ntmps15
  go_wp2
  rename_i K hK
  have hn:n=l1.length:=congrFun Hn ()
  have hn2:n=l2.length:=congrFun Hn2 ()
  clear Hn Hn2
  refine zby (c':= .loop (zaK prog [0,0,1,0,1,1,15])) (by kernel_rfl) ?_
  have done: ∀ {a2:Act} {w2:World} {b:Bool},a2.defers= []→a2.tmps.getD 4 undef= .bool b→b=decide (l1=l2)→Below w.heap.size w w2→
    bodyPost prog f15 (fun e w'=>e= .returned (.bool (decide (l1=l2)))∧RowKit.Below w.heap.size w w') .ret a2 w2:=fun {a2 w2 b} q1 q2 q3 q4=>
   zdb (fn:=f15) (Post:=fun e w'=>e= .returned (.bool (decide (l1=l2)))∧RowKit.Below w.heap.size w w') q1 rfl q2 ⟨by rw [q3],q4⟩
  refine zbJ (fun (k:Nat) a' w'=>k≤n∧a'.tmps.size=26∧a'.defers= []∧a'.tmps.getD 0 undef= .slice sa n c∧a'.tmps.getD 1 undef= .slice sb n d∧a'.tmps.getD 5 undef= .int .i64 k∧Below w.heap.size w w'∧ ∀i,i<k→l1[i]? =l2[i]?)
   (fun k=>n-k) (fun k a1 w1 hI=> ?_) 0 _ _ ⟨Nat.zero_le _,rfl,rfl,rfl,rfl,rfl,Below.refl _ _,fun i hi=>absurd hi (Nat.not_lt_zero i)⟩
  obtain ⟨hk,q0,qd,p0,p1,p5,hb,heq⟩:=hI
  have hwk:=zeu k (by omega)
  by_cases hkn:k<n
  ·rcases hr with h0|⟨R,o,rfl,_,hr⟩
   ·rw [h0] at hn;simp at hn;omega
   rcases hr2 with h0|⟨R2,o2,rfl,_,hr2⟩
   ·rw [h0] at hn2;simp at hn2;omega
   have hne1:l1≠ []:=fun h=>by rw [h] at hn;simp at hn;omega
   have hne2:l2≠ []:=fun h=>by rw [h] at hn2;simp at hn2;omega
   have hx:=zb0 (zaV hr (hb.block R (zcF hr hne1))) k (by omega)
   have hx2:=zb0 (zaV hr2 (hb.block R2 (zcF hr2 hne2))) k (by omega)
   have hxo:=hok l1[k] (List.getElem_mem (by omega))
   have hxo2:=hok2 l2[k] (List.getElem_mem (by omega))
   have g1:l1[k]? =some l1[k]:=List.getElem?_eq_getElem (by omega)
   have g2:l2[k]? =some l2[k]:=List.getElem?_eq_getElem (by omega)
   generalize l1[k]=X at hx hxo g1
   generalize l2[k]=Y at hx2 hxo2 g2
   have d0:(lnv 0).den (vof [n,k,0,X.at1,X.len,Y.at1,Y.len] [X.wr,Y.wr] [undef,.slice (some ⟨R,o,none⟩) n c,.slice (some ⟨R2,o2,none⟩) n d])=n:=zat (by show (0:Int)≤n;omega) (by show (n:Int)<_;omega)
   have d1:(lnv 1).den (vof [n,k,0,X.at1,X.len,Y.at1,Y.len] [X.wr,Y.wr] [undef,.slice (some ⟨R,o,none⟩) n c,.slice (some ⟨R2,o2,none⟩) n d])=k:=zat (by show (0:Int)≤k;omega) (by show (k:Int)<_;omega)
   have d3:(u64v 3).den (vof [n,k,0,X.at1,X.len,Y.at1,Y.len] [X.wr,Y.wr] [undef,.slice (some ⟨R,o,none⟩) n c,.slice (some ⟨R2,o2,none⟩) n d])=X.at1:=zaG hxo.1 hxo.2.1
   have d4:(u32v 4).den (vof [n,k,0,X.at1,X.len,Y.at1,Y.len] [X.wr,Y.wr] [undef,.slice (some ⟨R,o,none⟩) n c,.slice (some ⟨R2,o2,none⟩) n d])=X.len:=zbx hxo.2.2.1 hxo.2.2.2
   have d5:(u64v 5).den (vof [n,k,0,X.at1,X.len,Y.at1,Y.len] [X.wr,Y.wr] [undef,.slice (some ⟨R,o,none⟩) n c,.slice (some ⟨R2,o2,none⟩) n d])=Y.at1:=zaG hxo2.1 hxo2.2.1
   have d6:(u32v 6).den (vof [n,k,0,X.at1,X.len,Y.at1,Y.len] [X.wr,Y.wr] [undef,.slice (some ⟨R,o,none⟩) n c,.slice (some ⟨R2,o2,none⟩) n d])=Y.len:=zbx hxo2.2.2.1 hxo2.2.2.2
   have e0:(vof [n,k,0,X.at1,X.len,Y.at1,Y.len] [X.wr,Y.wr] [undef,.slice (some ⟨R,o,none⟩) n c,.slice (some ⟨R2,o2,none⟩) n d]).b 0=X.wr:=rfl
   have e1:(vof [n,k,0,X.at1,X.len,Y.at1,Y.len] [X.wr,Y.wr] [undef,.slice (some ⟨R,o,none⟩) n c,.slice (some ⟨R2,o2,none⟩) n d]).b 1=Y.wr:=rfl
   have v1:(vof [n,k,0,X.at1,X.len,Y.at1,Y.len] [X.wr,Y.wr] [undef,.slice (some ⟨R,o,none⟩) n c,.slice (some ⟨R2,o2,none⟩) n d]).v 1= .slice (some ⟨R,o,none⟩) n c:=rfl
   have v2:(vof [n,k,0,X.at1,X.len,Y.at1,Y.len] [X.wr,Y.wr] [undef,.slice (some ⟨R,o,none⟩) n c,.slice (some ⟨R2,o2,none⟩) n d]).v 2= .slice (some ⟨R2,o2,none⟩) n d:=rfl
   generalize vof [n,k,0,X.at1,X.len,Y.at1,Y.len] [X.wr,Y.wr] [undef,.slice (some ⟨R,o,none⟩) n c,.slice (some ⟨R2,o2,none⟩) n d]=ρ at d0 d1 d3 d4 d5 d6 e0 e1 v1 v2
   have hj1:jOf [(R,o+3*k),(R2,o2+3*k)] 1=some ⟨R,o+3*k,0,none⟩:=rfl
   have hj2:jOf [(R,o+3*k),(R2,o2+3*k)] 2=some ⟨R2,o2+3*k,0,none⟩:=rfl
   refine wp_mono (zaz (ρ:=ρ) (K:=fun _=>False) (g:=Gho.none) (bl:= [(R,o+3*k),(R2,o2+3*k)]) mixed zGL zJd (fun b h=>h.elim)
    ⟨zba hx (by simp [Sg.cells]) (zab (zac d3) (zab (zac d4) (zab (zap e0) RL.nil))) (fun h=>h),zba hx2 (by simp [Sg.cells]) (zab (zac d5) (zab (zac d6) (zab (zap e1) RL.nil))) (fun h=>h),trivial⟩ ⟨fun hh=>(by cases hh),fun hh=>(by cases hh),trivial⟩ zaO trivial trivial trivial q0 qd ?_ (zaa.2 ⟨by rw [zaY,d1,d0];exact decide_eq_true (by omega),zae.2 trivial⟩)) fun ex a2 w2 hh=> ?_
   ·intro t ht
    simp only [zf4,List.mem_cons,List.not_mem_nil,or_false] at ht
    rcases ht with rfl|rfl|rfl
    ·rw [p0];exact ⟨v1.symm,_,_,_,rfl,d0.symm,⟨R,o,_,k,rfl,hj1,rfl,d1,hkn,rfl⟩,trivial⟩
    ·rw [p1];exact ⟨v2.symm,_,_,_,rfl,d0.symm,⟨R2,o2,_,k,rfl,hj2,rfl,d1,hkn,rfl⟩,trivial⟩
    ·rw [p5];exact zac d1
   ·obtain ⟨q,hq,hto,lf,hlf,rfl,hsz2,j2,hdf2,he⟩:=hh
    have hb3:=zar he (fun _ h=>h)
    have hb4:=hb.trans (hb3.mono hb.size)
    unfold zFm at hq
    simp only [List.mem_cons,List.not_mem_nil,or_false] at hq
    rcases hq with rfl|rfl
    ·cases hlf
     have hs2:=zaB he.ret
     simp only [AV.valL,AV.val,zbN,List.map_cons,List.map_nil,List.cons.injEq,and_true] at hs2
     refine done hdf2 hs2 ?_ hb4
     simp only [zaa,zae,SB.den,zbj,d3,d4,d5,d6,e0,e1,and_true] at hto
     symm
     refine decide_eq_false fun hh=> ?_
     rw [hh] at g1
     rw [g1] at g2
     injection g2 with g2
     rw [g2] at hto
     simp [zen] at hto
    ·cases hlf
     have hs2:=zaB he.ret
     simp only [AV.valL,AV.val,den_add,zad,d0,d1,v1,v2,hwk,List.map_cons,List.map_nil,List.cons.injEq,and_true] at hs2
     simp only [zaa,zae,SB.den,zbj,d3,d4,d5,d6,e0,e1,and_true,beq_iff_eq] at hto
     have hXY:X=Y:=by
      obtain ⟨xa,xb,xc⟩:=X
      obtain ⟨ya,yb,yc⟩:=Y
      obtain ⟨h1,h2,h3⟩:=hto
      have h1:xa=ya:=by simpa [zen] using h1
      have h2:xb=yb:=by simpa [zen] using h2
      have h3:xc=yc:=h3
      rw [h1,h2,h3]
     refine ⟨k+1,by omega,by omega,hsz2,hdf2,hs2.1,hs2.2.1,hs2.2.2,hb4,fun i hi=> ?_⟩
     by_cases hik:i=k
     ·subst hik;rw [g1,g2,hXY]
     ·exact heq i (by omega)
  ·have hkk:k=n:=by omega
   subst hkk
   have hll:l1=l2:=List.ext_getElem? fun i=>by
    by_cases hi:i<k
    ·exact heq i hi
    ·rw [List.getElem?_eq_none (by omega),List.getElem?_eq_none (by omega)]
   have d0:(lnv 0).den (vof [k,k] [] [undef,.slice sa k c,.slice sb k d])=k:=zat (by show (0:Int)≤k;omega) (by show (k:Int)<_;omega)
   have d1:(lnv 1).den (vof [k,k] [] [undef,.slice sa k c,.slice sb k d])=k:=zat (by show (0:Int)≤k;omega) (by show (k:Int)<_;omega)
   have v1:(vof [k,k] [] [undef,.slice sa k c,.slice sb k d]).v 1= .slice sa k c:=rfl
   have v2:(vof [k,k] [] [undef,.slice sa k c,.slice sb k d]).v 2= .slice sb k d:=rfl
   generalize vof [k,k] [] [undef,.slice sa k c,.slice sb k d]=ρ at d0 d1 v1 v2
   refine wp_mono (zaz (ρ:=ρ) (K:=fun _=>False) (g:=Gho.none) (bl:= []) mixed zGJ zJc (fun b h=>h.elim) trivial trivial zaO trivial trivial trivial q0 qd ?_ (zaa.2 ⟨by rw [zaY,d1,d0];exact decide_eq_false (by omega),zae.2 trivial⟩)) fun ex a2 w2 hh=> ?_
   ·intro t ht
    simp only [zf3,List.mem_cons,List.not_mem_nil,or_false] at ht
    rcases ht with rfl|rfl|rfl
    ·rw [p0];exact ⟨v1.symm,_,_,_,rfl,d0.symm,trivial⟩
    ·rw [p1];exact ⟨v2.symm,_,_,_,rfl,d0.symm,trivial⟩
    ·rw [p5];exact zac d1
   ·obtain ⟨q,hq,hto,lf,hlf,rfl,hsz2,j2,hdf2,he⟩:=hh
    have hb3:=zar he (fun _ h=>h)
    have hb4:=hb.trans (hb3.mono hb.size)
    unfold zFk at hq
    simp only [List.mem_cons,List.not_mem_nil,or_false] at hq
    subst hq
    cases hlf
    show K a2 w2
    refine hK _ _ ?_
    obtain ⟨tmps,dfr⟩:=a2
    have hdf2:dfr= []:=hdf2
    have hsz2:tmps.size=26:=hsz2
    subst hdf2
    have hdec:(fun _:Unit=>true)=fun _=>decide (l1=l2):=by rw [decide_eq_true hll]
    clear hn hn2 hll
    go_wp2_with fail
    refine done (a2:=⟨_,[]⟩) rfl ?_ (congrFun hdec ()) hb4
    simp [hsz2]
 ·have hne: ¬((l1.length:Int)=l2.length):=by omega
  have hd:decide (l1=l2)=false:=decide_eq_false fun hh=>hlen (by rw [hh])
  rw [hd]
  clear hlen hd
  go_enter func15,ntmps15
  go_wp2
  go_ret
  exact ⟨rfl,Below.refl _ _⟩
section
variable {X:Nat→Prop} {bX:Nat} {ρ:Val} {w0:World} {K:Nat→Prop} {S P L Bs B M N:Nat} {r:Tryz.Rg} {b2:Nat} {sk:Nat→Tryz.SS} {gk:Nat→Nat→Int} {rows:Nat→List Tryz.LwR} {f:FuncId} {args:List AV} {res:AV} {k k':Nat}
end
end Go.Proofs
namespace Go.Proofs
open Go.Dw Go.RowKit Go.Maps Go.Sort
section
variable {X:Nat→Prop} {bX:Nat} {ρ:Val} {w0:World} {K:Nat→Prop} {S P L Bs B M N:Nat} {r:Tryz.Rg} {b2:Nat} {sk:Nat→Tryz.SS} {gk:Nat→Nat→Int} {rows:Nat→List Tryz.LwR} {f:FuncId} {args:List AV} {res:AV} {k k':Nat}
def Tryz.sgR (q:Nat) (l:List Sg):LwR:=⟨some q,undef,3,l.length,zaS l⟩
end
end Go.Proofs
namespace Go.Proofs
open Go.Dw Go.RowKit Go.Maps Go.Sort
theorem Tryz.zD5 {t:TypeId} {w:World} {b2:Nat} {v:Value} {l:List Sg} (h:OwnR t 3 w b2 v l.length (zaS l)) (hok: ∀x∈l,x.ok):SegV (fun _=>False) w v l:=by
 obtain ⟨sa,c,e,hr⟩:=OwnR.row h
 refine ⟨sa,c,e,hok,?_⟩
 rcases hr with hr|⟨G,e2,_,hG⟩
 ·left
  have:=congrArg List.length hr
  rw [zcn] at this
  exact List.length_eq_zero_iff.1 (by simp at this;omega)
 ·exact .inr ⟨G,0,e2,fun h=>h,hG⟩
theorem Tryz.zhv {P0:Program} (w:World) (base:Nat) (t ty e t0:TypeId) (i:TypeInfo) (z:Value) (size bytes:Nat) (ht:P0.underlying t=some (.slice e)) (hi:P0.info? e=some i) (hz:i.zero=some z)
  (hsize:i.size=size) (hby:i.bytes=bytes) (hzs:z.cells.size=size) (hsz:0<size)
  (v:Value) (n:Nat) (xs:List Value) (hown:w.ownsRow base t0 size v n xs)
  (a:Addr) (m c:Nat) (news:List Value) (hl:news.length=m*size) (hnews: ∀j u,news[j]? =some u→w.cell? (a.add j)=some u) (h1: ∀u∈news,u.oneCell'=true)
  (h63:n+m≤maxLen) (hbytes:(n+m)*bytes≤140737488355328) (hbase:base≤w.heap.size):
  ∃ v' w' t',(Builtin.append_ #[t,t] ty #[v,.slice (some a) m c]).run P0 w= .ok v' w'∧w'.ownsRow base t' size v' (n+m) (xs++news)∧w.grownBy w' v.ownBlock∧(v'.ownBlock=v.ownBlock∨v'.ownBlock=some w.heap.size):=by
 have hsmall:n+m≤9223372036854775807:=by simp only [maxLen] at h63;omega
 have hlen:(xs++news).length=(n+m)*size:=by rw [List.length_append,hown.1,hl,Nat.add_mul]
 rcases hown.2 with ⟨rfl,rfl⟩|⟨g,cap,cur,rfl,hbg,hg,hnc,hcm,hcs,htake⟩
 ·obtain ⟨v',w',q1,q2,q3,_,q5⟩:=run_append_own_at (P:=P0) w base t ty e i z size bytes ht hi hz hsize hby hzs hsz (.slice none 0 0) 0 xs ⟨hown.1,.inl ⟨rfl,rfl⟩⟩ a m c news hl hnews h1 h63 hbytes hbase
  exact ⟨v',w',e,q1,q2,q3,q5⟩
 ·subst hsize
  subst hby
  by_cases hroom:n+m≤cap
  ·have hfit:n*i.size+news.length≤cur.size:=by rw [hl,hcs,←Nat.add_mul];exact Nat.mul_le_mul_right _ hroom
   have hf:=run_firstCells_some (P:=P0) w i.size m a m c news hl hnews
   have hst:=run_storeCells_at P0 g (n*i.size) t0 news 0 cur w hg (by simpa using hfit) h1
   simp only [Nat.add_zero] at hst
   have hr:(Builtin.append_ #[t,t] ty #[.slice (some ⟨g,0,none⟩) n cap,.slice (some a) m c]).run P0 w= .ok (.slice (some ⟨g,0,none⟩) (n+m) cap) (w.setRow g (cur.toList.take (n*i.size)++news++cur.toList.drop (n*i.size+news.length)).toArray):=by
    simp [Builtin.append_,run_underlying ht,sizeOf,typeInfo,hi,Builtin.lenOf,hroom,hf,Addr.add_lit,hst]
   refine ⟨_,_,t0,hr,⟨hlen,.inr ⟨g,cap,_,rfl,hbg,setRow_heap w g cur _ t0 _ hg,hroom,hcm,?_,?_⟩⟩,⟨rfl,rfl,rfl,by simp,fun k _ hk=>setRow_other w g k _ (fun e=>hk (by simp [Value.ownBlock,e]))⟩,Or.inl rfl⟩
   ·simp only [List.size_toArray,List.length_append,List.length_take,List.length_drop,Array.length_toList]
    omega
   ·rw [htake,←hlen]
    exact List.take_left
  ·have holds: ∀j u,xs[j]? =some u→w.cell? ((⟨g,0,none⟩:Addr).add j)=some u:=hown.cells (g:=g) rfl
   have hr:=run_append_grow (P:=P0) w t ty e i z ht hi hz ⟨g,0,none⟩ n cap xs hown.1 holds a m c news hl hnews (by omega) (by omega) (growslice_fits (by omega) hbytes)
   have hge:=grownCap_ge w (n+m) cap e
   have hcm2:grownCap w (n+m) cap e≤maxLen:=grownCap_le_maxLen w (n+m) cap e h63
   refine ⟨_,_,e,hr,⟨hlen,.inr ⟨w.heap.size,_,_,rfl,hbase,heap_alloc_new w.drew _,hge,hcm2,?_,?_⟩⟩,⟨rfl,rfl,rfl,by simp,fun k hk _=>heap_alloc_old w.drew _ (h:=hk)⟩,Or.inr rfl⟩
   ·simp only [Array.size_append,List.size_toArray,size_zeroCells,hzs,hown.1,hl,←Nat.add_mul]
    congr 1
    omega
   ·simp only [Array.toList_append,List.append_assoc]
    rw [←List.append_assoc,←hlen]
    exact List.take_left
section
variable {X:Nat→Prop} {bX:Nat} {ρ:Val} {w0:World} {K:Nat→Prop} {S P L Bs B M N:Nat} {r:Tryz.Rg} {b2:Nat} {sk:Nat→Tryz.SS} {gk:Nat→Nat→Int} {rows:Nat→List Tryz.LwR} {k k' q:Nat}
end
end Go.Proofs
namespace Go.Proofs
open Go.Dw Go.RowKit Go.Maps Go.Sort
def Tryz.apG (l:List LwR) (q:Nat→Option Value):Prop:= ∃uf:LwR→Value,(∀e∈l,e.is q (uf e))∧ ∀e∈l,∀e'∈l,e≠e'→ ∀b,(uf e).ownBlock=some b→(uf e').ownBlock≠some b
theorem Tryz.LwR.is_mono {e:LwR} {q q':Nat→Option Value} {u:Value} (h:e.is q u) (hq: ∀n v,q n=some v→q' n=some v):e.is q' u:=by
 unfold LwR.is at h ⊢
 split at h
 ·exact hq _ _ h
 ·exact h
theorem Tryz.LwR.is_one {e:LwR} {q:Nat→Option Value} {u v:Value} (h:e.is q u) (h':e.is q v):u=v:=by
 unfold LwR.is at h h'
 cases hq:e.q with
 | none=>rw [hq] at h h';simp only at h h';rw [h,h']
 | some n=>rw [hq] at h h';simp only at h h';rw [h] at h';exact Option.some.inj h'
def Tryz.obH {σ:Type} (O:Ob σ) (X:Nat→Prop) (bX b2:Nat) (sk:Nat→σ) (rows ap:Nat→List LwR):Gho where
 fact k q F w:=(obG O X bX b2 sk rows).fact k q F w∧apG (ap k) q
 loc k q q' F w w' h hq hb hs:=⟨(obG O X bX b2 sk rows).loc k q q' F w w' h.1 hq hb hs,by
  obtain ⟨uf,h1,h2⟩:=h.2
  exact ⟨uf,fun e he=>LwR.is_mono (h1 e he) hq,h2⟩⟩
section
variable {σ:Type} {O:Tryz.Ob σ} {X:Nat→Prop} {bX:Nat} {ρ:Val} {w0:World} {K:Nat→Prop} {b2:Nat} {sk:Nat→σ} {rows ap:Nat→List Tryz.LwR}
theorem Tryz.zfP {e:Ent} (h:zaQ prog ρ w0 K (obG O X bX b2 sk rows) e) (hap: ∀x∈ap e.gs',x∈ap e.gs):zaQ prog ρ w0 K (obH O X bX b2 sk rows ap) e:=by
 refine ⟨h.1,fun j w vals F n hv hnone hb hF hsz hf hold=>Calls.mono (h.2 j w vals F n hv hnone hb hF hsz hf.1 hold) fun en w' hh=> ?_⟩
 obtain ⟨u,qs,F',h1,h2,h3,h4,h5,h6⟩:=hh
 obtain ⟨uf,a1,a2⟩:=hf.2
 exact ⟨u,qs,F',h1,h2,h3,⟨h4,uf,fun x hx=>LwR.is_mono (a1 x (hap x hx)) fun m v hm=>zdo (zkp hnone) hm,fun x hx y hy=>a2 x (hap x hx) y (hap y hy)⟩,h5,h6⟩
theorem Tryz.zs1 {T t:TypeId} {by0:Nat} {a:AV} {x:Value} {i0:TypeInfo} {z:Value} {c q k k':Nat} {v:Value} {n:Nat} {cs:List Value} {ln:SE} (hU:prog.underlying T=some (.slice t)) (hi:prog.info? t=some i0) (hz:i0.zero=some z) (hs1:i0.size=1) (hby:i0.bytes=by0) (hz1:z.cells.size=1) (hb8:by0≤8)
  (hv:ρ.v c=v) (hx: ∀j y,Dw.R ρ j a y→y=x) (hx1:x.oneCell'=true) (hb2:b2≤w0.heap.size) (hbX:bX≤w0.heap.size) (hK: ∀b,v.ownBlock=some b→K b) (hl:n≤100000) (hcn:cs.length=n)
  (he:(⟨none,v,1,n,cs⟩:LwR)∈rows k) (hea:(⟨none,v,1,n,cs⟩:LwR)∈ap k) (hsub: ∀e∈ap k,e∈rows k) (hrows: ∀e∈rows k',e=⟨some q,undef,1,n+1,cs++ [x]⟩∨(e∈ap k∧(e≠⟨none,v,1,n,cs⟩∨v.ownBlock=none))) (hap: ∀e∈ap k',e=⟨some q,undef,1,n+1,cs++ [x]⟩∨(e∈ap k∧(e≠⟨none,v,1,n,cs⟩∨v.ownBlock=none))) (hsk:sk k'=sk k):
  zES prog ρ w0 K (obH O X bX b2 sk rows ap) ⟨T,.cst c (some ln),1,[a],k,q,1,.opq q none,k'⟩:=by
 intro j w F m us bb o cap vals ty hus hcells hxs hnone hbase hF hsz hfa
 have hb:m=q:=hbase (by show (1:Nat)≠0;decide)
 subst hb
 obtain ⟨⟨hXF,F0,hF0,hlw,h2⟩,uf,a1,a2⟩:=hfa
 obtain ⟨uh,t0,q1,q2,q3⟩:=h2 _ he
 have q1:uh=v:=q1
 have hus:us=uh:=(show us=ρ.v c from hus.1).trans (hv.trans q1.symm)
 subst hus
 subst q1
 obtain ⟨x0,_,rfl,e0,hxs⟩:=hxs
 have hxs:_= []:=hxs
 subst hxs
 have e0:=hx j x0 e0
 subst e0
 have hmul:(n+1)*by0≤140737488355328:=Nat.le_trans (Nat.mul_le_mul (show n+1≤100001 by omega) hb8) (by decide)
 obtain ⟨u,w',t',h1,hown0,h3,h5⟩:=zhv (P0:=prog) w b2 T ty t t0 i0 z 1 by0 hU hi hz hs1 hby hz1 (by decide) us n cs q2 ⟨bb,o,none⟩ 1 cap [x0] rfl
  (fun p y hy=>by rw [Dw.addr_add];exact hcells p y hy) (fun y hy=>by rw [List.mem_singleton] at hy;subst hy;exact hx1) (by unfold maxLen;omega) hmul (by omega)
 have hown:OwnR t' 1 w' b2 u (n+1) (cs++ [x0]):=hown0
 have hub:=OwnR.lt hown
 have hub1: ∀b,u.ownBlock=some b→us.ownBlock=some b∨w.heap.size≤b:=fun b hb=>by
  rcases h5 with h5|h5
  ·exact .inl (h5▸hb)
  ·rw [hb] at h5;cases h5;exact .inr (Nat.le_refl _)
 have hmv:Dw.Mv (fun b=>us.ownBlock=some b) w w':=⟨h3.os,h3.tape,h3.output,h3.size,fun b hb hn=>h3.block b hb (fun e=>hn e.symm)⟩
 have hold: ∀e∈ap k,e.q≠some m:=fun e he hq=>by
  have:=a1 e he
  unfold LwR.is at this
  rw [hq] at this
  simp only at this
  unfold opqs at this
  rw [hnone m (Nat.le_refl _)] at this
  cases this
 have e1q: ∀e∈ap k,e≠(⟨some m,undef,1,n+1,cs++ [x0]⟩:LwR):=fun e he hh=>hold e he (by rw [hh])
 have ufs:uf ⟨none,us,1,n,cs⟩=us:=a1 _ hea
 have far: ∀e∈ap k,(e≠(⟨none,us,1,n,cs⟩:LwR)∨us.ownBlock=none)→ ∀b,(uf e).ownBlock=some b→us.ownBlock≠some b:=fun e he hne b hb hh=>by
  rcases hne with hne|hne
  rotate_left
  ·rw [hne] at hh;cases hh
  have:=a2 e he _ hea hne b hb
  rw [ufs] at this
  exact this hh
 refine ⟨u,w',[u],fun b=>F b∨u.ownBlock=some b,h1,rfl,⟨⟨⟨0,0,0,some u⟩,?_,rfl⟩,OwnR.one hown,fun _ h=>(by cases h)⟩,⟨⟨fun b hb=> ?_,F0,fun b hb=> .inl (hF0 b hb),?_,fun e he'=> ?_⟩,?_⟩,?_,hmv.mono fun b hb=>⟨(q3 b hb).1,.inr (hK b hb)⟩⟩
 ·show jq j m _ m=_
  unfold jq
  rw [if_pos ⟨Nat.le_refl _,by simp⟩]
  simp
 ·rcases hb with hb|hb
  ·exact hXF b hb
  ·rcases hub1 b hb with h|h
   ·exact hXF b (q3 b h).1
   ·exact .inr (by omega)
 ·rw [hsk]
  exact O.kept hlw (fun b hb=>hmv.block b (hF b (hF0 b hb)) fun e=>(q3 b e).2 hb) hmv.size
 ·rcases hrows e he' with rfl|⟨hea',hne⟩
  ·refine ⟨u,t',zbY,hown,fun b hb=>⟨.inr hb,fun hn=> ?_⟩⟩
   rcases hub1 b hb with h|h
   ·exact (q3 b h).2 hn
   ·have:=hF b (hF0 b hn);omega
  ·obtain ⟨u2,t2,r1,r2,r3⟩:=h2 e (hsub e hea')
   have hu2:=LwR.is_one r1 (a1 e hea')
   refine ⟨u2,t2,LwR.is_mono r1 fun p v hp=>zdo (zkp hnone) hp,OwnR.kept r2 fun b hb=>hmv.block b (OwnR.lt r2 b hb).2 (far e hea' hne b (hu2▸hb)),fun b hb=>⟨.inl (r3 b hb).1,(r3 b hb).2⟩⟩
 ·classical
  have fresh: ∀e∈ap k,(e≠(⟨none,us,1,n,cs⟩:LwR)∨us.ownBlock=none)→ ∀b,(uf e).ownBlock=some b→u.ownBlock≠some b:=fun e he hne b hb hh=>by
   rcases hub1 b hh with h|h
   ·exact far e he hne b hb h
   ·obtain ⟨u2,t2,r1,r2,_⟩:=h2 e (hsub e he)
    have hu2:=LwR.is_one r1 (a1 e he)
    have:=(OwnR.lt r2 b (hu2.symm▸hb)).2
    omega
  refine ⟨fun e=>if e=⟨some m,undef,1,n+1,cs++ [x0]⟩ then u else uf e,fun e he=> ?_,fun e he e' he' hne b hb hb'=> ?_⟩
  ·rcases hap e he with rfl|⟨he,_⟩
   ·simp only [if_true]
    exact zbY
   ·simp only [if_neg (e1q e he)]
    exact LwR.is_mono (a1 e he) fun p v hp=>zdo (zkp hnone) hp
  ·simp only at hb hb'
   rcases hap e he with rfl|⟨he,hn1⟩
   ·rcases hap e' he' with rfl|⟨he',hn2⟩
    ·exact hne rfl
    ·rw [if_pos rfl] at hb
     rw [if_neg (e1q e' he')] at hb'
     exact fresh e' he' hn2 b hb' hb
   ·rw [if_neg (e1q e he)] at hb
    rcases hap e' he' with rfl|⟨he',hn2⟩
    ·rw [if_pos rfl] at hb'
     exact fresh e he hn1 b hb hb'
    ·rw [if_neg (e1q e' he')] at hb'
     exact a2 e he e' he' hne b hb hb'
 ·rintro b (hb|hb)
  ·exact ⟨Nat.lt_of_lt_of_le (hF b hb) hmv.size,.inl hb⟩
  ·refine ⟨(hub b hb).2,?_⟩
   rcases hub1 b hb with h|h
   ·exact .inl (q3 b h).1
   ·exact .inr h
end
end Go.Proofs
namespace Go.Proofs
open Go.Dw Go.RowKit
def Tryz.zc3 (k:Int):List (List Sg)→List (Int×PTk)
 | [] => []
 | l::r=>(k,⟨l.length,l⟩)::zc3 (k+1) r
def Tryz.zc2:List (List Sg)→Int
 | [] => 0
 | l::r=>(l.length:Int)+zc2 r
theorem Tryz.zc1 (l:List Sg): ∀bs:List (List Sg),zc2 (bs++ [l])=zc2 bs+l.length
 | [] => by simp [zc2]
 | b::bs=>by simp only [List.cons_append,zc2,zc1 l bs];omega
theorem Tryz.zdD: ∀bs:List (List Sg),0≤zc2 bs
 | [] => Int.le_refl 0
 | b::bs=>by have:=zdD bs;simp only [zc2];omega
theorem Tryz.ziS (l:List Sg): ∀(bs:List (List Sg)) (k:Int),zc3 k (bs++ [l])=zc3 k bs++ [(k+bs.length,⟨l.length,l⟩)]
 | [], k=>by simp [zc3]
 | b::bs,k=>by
  simp only [List.cons_append,zc3,ziS l bs,List.length_cons]
  congr 4
  omega
theorem Tryz.zoH: ∀(bs:List (List Sg)) (k:Int) (e:Int×PTk),e∈zc3 k bs→k≤e.1∧e.1<k+bs.length
 | [], _,_,h=>by cases h
 | b::bs,k,e,h=>by
  unfold zc3 at h
  rcases List.mem_cons.1 h with rfl|h
  ·simp only [List.length_cons];omega
  ·have:=zoH bs (k+1) e h
   simp only [List.length_cons];omega
theorem Tryz.zlm: ∀(bs:List (List Sg)) (k:Int) (i:Nat) (hi:i<bs.length),zbk (k+i) (zc3 k bs)=some ⟨bs[i].length,bs[i]⟩
 | b::bs,k,0,_=>by simp [zc3,zbk]
 | b::bs,k,i+1,h=>by
  unfold zc3 zbk
  rw [if_neg (by simp only;omega)]
  have:=zlm bs (k+1) i (by simpa using h)
  rw [show k+((i+1:Nat):Int)=k+1+i by omega]
  exact this
theorem Tryz.zll: ∀(bs:List (List Sg)) (k:Int),zcc (zc3 k bs)=zc2 bs
 | [], _=>rfl
 | b::bs,k=>by simp only [zc3,zcc,zc2,zll bs]
theorem Tryz.zc8 {l:List Sg} (h:zbv l=0):l≠ []∧zaU l=0:=by
 unfold zbv at h
 split at h
 ·cases h
 ·rename_i hh
  exact ⟨fun e=>hh ⟨h,by rw [e];rfl⟩,h⟩
theorem Tryz.zhB: ∀ {l:List Sg} {pw:Bool} {s:Int},za4 pw s l=0→ ∀x∈l,1≤x.len
 | [], _,_,_,x,hx=>by cases hx
 | y::l,pw,s,h,x,hx=>by
  unfold za4 at h
  split at h
  ·cases h
  ·rename_i hh
   rcases List.mem_cons.1 hx with rfl|hx
   ·omega
   ·exact zhB h x hx
theorem Tryz.zfQ {l:List Sg} (h:zbv l=0):l.length≤64∧ ∀x∈l,1≤x.len:=by
 have h2:=(zc8 h).2
 unfold zaU at h2
 split at h2
 ·cases h2
 ·exact ⟨by omega,zhB h2⟩
theorem Tryz.zpb {N:Nat}: ∀ {l:List Sg},(∀x∈l,1≤x.len∧x.at1+x.len≤N)→zcm N l=true
 | [], _=>rfl
 | x::l,h=>by
  unfold zcm
  rw [Bool.and_eq_true,decide_eq_true_eq]
  exact ⟨h x (List.mem_cons_self ..),zpb fun y hy=>h y (List.mem_cons_of_mem _ hy)⟩
theorem Tryz.zsd {l:List Sg} (hl: ∀x∈l,1≤x.len) (hne:l≠ []) (hw:(l.getLast hne).wr=true):1≤zay true l:=by
 induction l with
 | nil=>exact absurd rfl hne
 | cons x r ih=>
  have hx:=hl x (List.mem_cons_self ..)
  unfold zay
  by_cases hr:r= []
  ·subst hr
   rw [List.getLast_singleton] at hw
   rw [if_pos hw]
   simp only [zay];omega
  ·rw [List.getLast_cons hr] at hw
   have:=ih (fun y hy=>hl y (List.mem_cons_of_mem _ hy)) hr hw
   split<;>omega
def Tryz.zes (l:List Sg):Bool:=match l.getLast? with|some x=>x.wr|none=>false
theorem Tryz.zqY {l:List Sg} (h:zbv l=0) (hw:zes l=true):1≤(zbp l).2:=by
 obtain ⟨hne,h2⟩:=zc8 h
 unfold zbp
 rw [if_pos h2]
 refine zsd (zfQ h).2 hne ?_
 unfold zes at hw
 rw [List.getLast?_eq_some_getLast hne] at hw
 exact hw
structure Tryz.TpI (r:Rg) (s:PS) (g:Nat→Int) (bs:List (List Sg)) (spare:Int):Prop where
 ph:s.ph=0
 br:s.br=false
 sum:zc2 bs+spare=r.n
 sp:0≤spare
 pos:0<spare→s.nx=zc2 bs∧s.nw=true
 us:s.us=0∧s.uw=true
 ou:s.ou=zc2 bs
 tk:s.tk=zc3 0 bs
 mem: ∀j:Nat,4096+16*zc2 bs≤(j:Int)→(j:Int)<4096+16*r.n→g j=0
 each: ∀l∈bs,zbv l=0
theorem Tryz.TpI.take {N:Nat} {r:Rg} {s:PS} {g:Nat→Int} {bs:List (List Sg)} {spare:Int} {l:List Sg} (h:TpI r s g bs spare) (hr:PgOk r) (hm:zbv l=0) (hle:(l.length:Int)≤spare) (hlt:(bs.length:Int)<r.n) (hok: ∀x∈l,x.ok) (hsi:zcm N l=true):
  ppOk r.n l∧(zck s).1=0∧ ∃s',zb8 N r 20 0 (zck s).2 (zcx 4096 (za2 r.n bs.length s.nx s.nw l) g)=(3,s',zcx 4096 (za2 r.n bs.length s.nx s.nw l) g)∧
   s'.nn=false∧s'.hd=bs.length∧s'.sg=l∧s'.dn=true∧s'.op=3∧s'.wr=0∧s'.it=false∧zaL r.n s.nx s.nw (za2 r.n bs.length s.nx s.nw l).length=(s'.nx,s'.nw)∧TpI r s' (zcx 4096 (za2 r.n bs.length s.nx s.nw l) g) (bs++ [l]) (spare-l.length):=by
 have hn:=hr.bnd
 obtain ⟨hne,hse⟩:=zc8 hm
 have hlp:0<l.length:=List.length_pos_iff.2 hne
 have hsum:=h.sum
 have hT:=zdD bs
 obtain ⟨hx,hw⟩:=h.pos (by omega)
 have hppok:ppOk r.n l:=⟨hm,by omega⟩
 have hlaid:(za2 r.n bs.length s.nx s.nw l).length=l.length:=by unfold za2;rw [if_pos hppok,zfb]
 rw [hx,hw] at hlaid ⊢
 obtain ⟨p1,p2,p3⟩:=zpU (N:=N) (g:=g) (n:=r.n) (at0:=zc2 bs) (id:=bs.length) (l:=l) (tb:=s.tb) hT (by omega) (by omega) ⟨by omega,hlt⟩ hok hm hsi
 refine ⟨hppok,?_⟩
 generalize hg1:zcx 4096 (za2 r.n bs.length (zc2 bs) true l) g=g1 at p1 p2 p3 ⊢
 have hav:zcb g1 s=true:=by unfold zcb;rw [hx,hw];exact p2
 have hfree:zbk (bs.length:Int) s.tk=none:=by
  rw [zcy,h.tk]
  intro hh
  obtain ⟨e,he,e1⟩:=List.mem_map.1 hh
  have:=zoH bs 0 e he
  omega
 have hp:=zsD (N:=N) (r:=r) (s:=s) (g:=g1) (id:=bs.length) (ct:=l.length) (l:=l) h.ph h.br hav hfree (by rw [hx];exact p1) (by rw [h.ou];omega)
 refine ⟨hp.1,_,hp.2,rfl,rfl,rfl,rfl,rfl,rfl,rfl,by rw [hlaid,hx,hw],rfl,rfl,?_,by omega,fun hs=> ?_,h.us,?_,?_,fun j h1 h2=> ?_,fun x hxm=> ?_⟩
 ·rw [zc1];omega
 ·rw [zc1]
  show (zaL r.n s.nx s.nw l.length).1=_∧(zaL r.n s.nx s.nw l.length).2=true
  unfold zaL
  rw [hx,hw,if_pos (by omega)]
  exact ⟨rfl,rfl⟩
 ·rw [zc1]
  show s.ou+l.length=_
  rw [h.ou]
 ·show s.tk++ [((bs.length:Int),⟨l.length,l⟩)]=_
  rw [h.tk,ziS];simp
 ·rw [zc1] at h1
  rw [p3 j (.inr (by omega))]
  exact h.mem j (by omega) h2
 ·rcases List.mem_append.1 hxm with hxm|hxm
  ·exact h.each x hxm
  ·rw [List.mem_singleton.1 hxm];exact hm
theorem Tryz.TpI.none {r:Rg} {s:PS} {g:Nat→Int} {bs:List (List Sg)} {spare:Int} (h:TpI r s g bs spare) (hs:0<spare):zcb g s=false:=by
 obtain ⟨hx,hw⟩:=h.pos hs
 have hT:=zdD bs
 have hsum:=h.sum
 have h0:zah g (4096+16*s.nx+14).toNat 2=0:=by
  have e0:=h.mem (4096+16*s.nx+14).toNat (by omega) (by omega)
  have e1:=h.mem ((4096+16*s.nx+14).toNat+1) (by omega) (by omega)
  simp [zah,e0,e1]
 unfold zcb
 rw [h0,hw]
 decide
structure Tryz.BpI (r:Rg) (s:PS) (bs:List (List Sg)) (left:List Int):Prop where
 ph:s.ph=0
 br:s.br=false
 keys:s.tk.map (·.1)=left
 nd:left.Nodup
 sum:0≤s.us∧s.us+zcc s.tk≤r.n
 wrap:s.tk≠ []→s.uw=true∧s.us<r.n
 has: ∀h∈left,∃i:Nat,∃hi:i<bs.length,h=i∧zbk h s.tk=some ⟨bs[i].length,bs[i]⟩
 each: ∀l∈bs,zbv l=0
theorem Tryz.ziT: ∀(bs:List (List Sg)) (k:Int),(zc3 k bs).map (·.1)=(List.range bs.length).map fun (i:Nat)=>k+(i:Int)
 | [], _=>rfl
 | b::bs,k=>by
  simp only [zc3,List.map_cons,ziT bs,List.length_cons,List.range_succ_eq_map,List.map_map]
  congr 1
  ·omega
  ·refine List.map_congr_left fun i _=> ?_
   simp only [Function.comp];omega
theorem Tryz.TpI.back {r:Rg} {s s':PS} {g:Nat→Int} {bs:List (List Sg)} {spare:Int} (h:TpI r s g bs spare) (h1:s'.ph=0) (h2:s'.br=false) (h3:s'.tk=s.tk) (h4:s'.us=s.us∧s'.uw=s.uw) (hr:PgOk r):BpI r s' bs ((List.range bs.length).map fun (i:Nat)=>(i:Int)):=by
 have hn:=hr.bnd
 have hk:=ziT bs 0
 simp only [Int.zero_add] at hk
 have hsum:=h.sum
 have hsp:=h.sp
 refine ⟨h1,h2,by rw [h3,h.tk,hk],?_,?_,fun _=>⟨by rw [h4.2];exact h.us.2,by rw [h4.1,h.us.1];omega⟩,fun x hx=> ?_,h.each⟩
 ·refine List.Pairwise.map _ (fun a b h=> ?_) List.nodup_range
  omega
 ·rw [h4.1,h.us.1,h3,h.tk,zll];omega
 ·obtain ⟨i,hi,rfl⟩:=List.mem_map.1 hx
  have hi:=List.mem_range.1 hi
  refine ⟨i,hi,rfl,?_⟩
  have:=zlm bs 0 i hi
  rw [Int.zero_add] at this
  rw [h3,h.tk];exact this
theorem Tryz.zpw (h:Int): ∀tk:List (Int×PTk),(zb5 h tk).map (·.1)=(tk.map (·.1)).erase h
 | [] => rfl
 | e::r=>by
  unfold zb5
  by_cases he:h=e.1
  ·rw [if_pos he,List.map_cons,he,List.erase_cons_head]
  ·rw [if_neg he,List.map_cons,List.map_cons,List.erase_cons_tail (by simp;omega),zpw h r]
theorem Tryz.zqv: ∀ {l:List Int} {k:Nat} (hk:k<l.length),l.Nodup→l.erase l[k]=l.take k++l.drop (k+1)
 | x::r,0,_,_=>by simp
 | x::r,k+1,hk,hn=>by
  rw [List.nodup_cons] at hn
  have hk':k<r.length:=by simpa using hk
  have hne:x≠r[k]:=fun e=>hn.1 (e▸List.getElem_mem hk')
  simp only [List.getElem_cons_succ]
  rw [List.erase_cons_tail (by simpa using hne),zqv hk' hn.2]
  simp
theorem Tryz.BpI.give {N:Nat} {r:Rg} {s:PS} {g:Nat→Int} {bs:List (List Sg)} {left:List Int} (h:BpI r s bs left) {k:Nat} (hk:k<left.length) {w:Int} (hw:w=0∨w=1∧ ∀(i:Nat) (hi:i<bs.length),left[k]=i→zes bs[i]=true):
  ∃ (i:Nat) (hi:i<bs.length),left[k]=i∧(zc7 s left[k] w).1=0∧ ∃s',zb8 N r 20 0 (zc7 s left[k] w).2 g=(5,s',zlb s.us left[k] w true g)∧(zc7 s' left[k] 0).1=6∧s'=(zc7 s' left[k] 0).2∧s.us<r.n∧(bs[i].length:Int)≤r.n∧zaL r.n s.us s.uw bs[i].length=(s'.us,s'.uw)∧s.uw=true∧BpI r s' bs (left.take k++left.drop (k+1)):=by
 obtain ⟨i,hi,e1,e2⟩:=h.has left[k] (List.getElem_mem hk)
 have hnd:=h.nd
 have hne:s.tk≠ []:=fun e=>by
  have:=h.keys
  rw [e] at this
  rw [←this] at hk
  simp at hk
 obtain ⟨huw,hun⟩:=h.wrap hne
 have hm:=h.each bs[i] (List.getElem_mem hi)
 have htot:w≤(zbp bs[i]).2:=by
  rcases hw with hw|⟨hw,hl⟩
  ·have:0≤(zbp bs[i]).2:=by
    unfold zbp
    rw [if_pos (zc8 hm).2]
    have: ∀l:List Sg,(∀x∈l,1≤x.len)→0≤zay true l:=fun l=>by
     induction l with
     | nil=>intro _;simp [zay]
     | cons x r ih=>
      intro hh
      have:=ih fun y hy=>hh y (List.mem_cons_of_mem _ hy)
      have:=hh x (List.mem_cons_self ..)
      unfold zay
      split<;>omega
    exact this _ (zfQ hm).2
   omega
  ·have:=zqY hm (hl i hi e1)
   omega
 obtain ⟨p1,it,p2⟩:=zzS (N:=N) (r:=r) (s:=s) (g:=g) (h:=left[k]) (wr:=w) h.ph h.br e2 htot
 rw [huw] at p2
 have hkn:(s.tk.map (·.1)).Nodup:=by rw [h.keys];exact hnd
 have hsum:=h.sum
 have hds:=zdI e2
 have hlp:0<bs[i].length:=List.length_pos_iff.2 (zc8 hm).1
 have hpos: ∀tk:List (Int×PTk),(∀e∈tk,0≤e.2.ct)→0≤zcc tk:=fun tk=>by
  induction tk with
  | nil=>intro _;simp [zcc]
  | cons e r ih=>
   intro hh
   have:=ih fun y hy=>hh y (List.mem_cons_of_mem _ hy)
   have:=hh e (List.mem_cons_self ..)
   simp only [zcc];omega
 have hct: ∀e∈s.tk,1≤e.2.ct:=fun e he=>by
  have hmem:e.1∈left:=by rw [←h.keys];exact List.mem_map_of_mem he
  obtain ⟨i',hi',q1,q2⟩:=h.has e.1 hmem
  have:zbk e.1 s.tk=some e.2:=by
   have aux: ∀tk:List (Int×PTk),(tk.map (·.1)).Nodup→ ∀e∈tk,zbk e.1 tk=some e.2:=fun tk=>by
    induction tk with
    | nil=>intro _ e he;cases he
    | cons y r ih=>
     intro hn e he
     rw [List.map_cons,List.nodup_cons] at hn
     unfold zbk
     rcases List.mem_cons.1 he with rfl|he
     ·rw [if_pos rfl]
     ·rw [if_neg (fun hh:e.1=y.1=>hn.1 (by rw [←hh];exact List.mem_map_of_mem he))]
      exact ih hn.2 e he
   exact aux _ hkn e he
  rw [this] at q2
  have q3:e.2=⟨bs[i'].length,bs[i']⟩:=Option.some.inj q2
  rw [q3]
  have:0<bs[i'].length:=List.length_pos_iff.2 (zc8 (h.each _ (List.getElem_mem hi'))).1
  show (1:Int)≤bs[i'].length
  omega
 have hds0:0≤zcc (zb5 left[k] s.tk):=hpos _ fun e he=>by have:=hct e (zjj he);omega
 have hdk:(zb5 left[k] s.tk).map (·.1)=left.take k++left.drop (k+1):=by rw [zpw,h.keys,zqv hk hnd]
 have hout:zbk left[k] (zb5 left[k] s.tk)=none:=by rw [zgl hkn,if_pos rfl]
 have hno: ∀s':PS,s'.ph=0→s'.br=false→s'.tk=zb5 left[k] s.tk→zc7 s' left[k] 0=(6,s'):=fun s' q1 q2 q3=>by
  unfold zc7
  rw [if_neg (by rw [q2];decide),if_neg (by rw [q1];decide),q3,hout]
 have hds':zcc (zb5 left[k] s.tk)=zcc s.tk-bs[i].length:=hds
 refine ⟨i,hi,e1,p1,_,p2,?_,?_,hun,by omega,?_,huw,rfl,rfl,hdk,?_,?_,fun hne'=> ?_,fun x hx=> ?_,h.each⟩
 ·rw [hno _ rfl rfl rfl]
 ·rw [hno _ rfl rfl rfl]
 ·rw [huw]
 ·exact hnd.sublist (by rw [←List.eraseIdx_eq_take_drop_succ];exact List.eraseIdx_sublist ..)
 ·show 0≤(zaL r.n s.us true bs[i].length).1∧(zaL r.n s.us true bs[i].length).1+zcc (zb5 left[k] s.tk)≤r.n
  unfold zaL
  split<;>(simp only;omega)
 ·show (zaL r.n s.us true bs[i].length).2=true∧(zaL r.n s.us true bs[i].length).1<r.n
  have:1≤zcc (zb5 left[k] s.tk):=by
   have hne':zb5 left[k] s.tk≠ []:=hne'
   cases hd:zb5 left[k] s.tk with
   | nil=>exact absurd hd hne'
   | cons e t=>
    have h1:=hct e (zjj (hd▸List.mem_cons_self ..))
    have h2:=hpos t fun y hy=>by have:=hct y (zjj (hd▸List.mem_cons_of_mem _ hy));omega
    simp only [zcc];omega
  unfold zaL
  rw [if_pos (by omega)]
  exact ⟨rfl,by simp only;omega⟩
 ·have hx0:x∈left:=by
   rcases List.mem_append.1 hx with hx|hx
   ·exact List.mem_of_mem_take hx
   ·exact List.mem_of_mem_drop hx
  obtain ⟨i',hi',q1,q2⟩:=h.has x hx0
  refine ⟨i',hi',q1,?_⟩
  show zbk x (zb5 left[k] s.tk)=_
  rw [zgl hkn,if_neg,q2]
  intro e
  have:x∈(zb5 left[k] s.tk).map (·.1):=by rw [hdk];exact hx
  rw [e] at this
  exact absurd (zcy.1 hout) (fun hh=>hh this)
open Go.Maps Go.Sort
section
variable {σ:Type} {O:Tryz.Ob σ} {X:Nat→Prop} {bX:Nat} {ρ:Val} {w0:World} {K:Nat→Prop} {b2:Nat} {sk:Nat→σ} {rows:Nat→List Tryz.LwR} {f:FuncId} {args:List AV} {res:AV} {k k':Nat}
theorem Tryz.zAZ {z:Value→Value} {q:Nat} {e0:LwR} (he:Dw.Enters prog f) (hx:AV.exactL args=true) (hbX:bX≤w0.heap.size) (V:List Value) (ha: ∀j,RL ρ j args V) (hb2:b2≤w0.heap.size) (hr: ∀j u,j q=some ⟨0,0,0,some u⟩→u.oneCell'=true→(∃sa c,u= .slice sa e0.n c)→Dw.R ρ j res (z u)) (hrows: ∀e∈rows k',e=e0∨e∈rows k) (hq:e0.q=some q) (hs:sk k'=sk k)
  (h: ∀(F0:Nat→Prop) (w:World),O.L (sk k) F0 w→Calls prog f V.toArray w fun e w'=> ∃(u:Value) (t:TypeId),e= .returned (z u)∧OwnR t e0.sz w' w.heap.size u e0.n e0.cs∧Below w.heap.size w w'):
  zaQ prog ρ w0 K (obG O X bX b2 sk rows) ⟨f,args,k,q,1,res,k'⟩:=by
 refine ⟨he,fun j w vals F n hv hnone hb hF hsz hf _=> ?_⟩
 have hb:n=q:=hb (by show (1:Nat)≠0;decide)
 subst hb
 have hv:=zcR hx hv (ha j)
 subst hv
 obtain ⟨hXF,F0,hF0,h1,h2⟩:=hf
 refine Calls.mono (h _ w h1) fun en w' hh=> ?_
 obtain ⟨u,t,rfl,hu,hbl⟩:=hh
 have hj:jq j n [u] n=some ⟨0,0,0,some u⟩:=by
  unfold jq
  rw [if_pos ⟨Nat.le_refl _,by simp⟩]
  simp
 obtain ⟨sa,c,hsl,_⟩:=OwnR.row hu
 refine ⟨z u,[u],fun b=>F b∨u.ownBlock=some b,rfl,rfl,hr _ u hj (OwnR.one hu) ⟨sa,c,hsl⟩,⟨fun b hb=> ?_,F0,fun b hb=> .inl (hF0 b hb),?_,fun e he=> ?_⟩,?_,Dw.Mv.of_below hbl⟩
 ·rcases hb with hb|hb
  ·exact hXF b hb
  ·have:=(OwnR.lt hu b hb).1
   exact .inr (by omega)
 ·rw [hs]
  exact O.kept h1 (fun b hb=>hbl.block b (hF b (hF0 b hb))) hbl.size
 ·rcases hrows e he with rfl|he
  ·refine ⟨u,t,?_,OwnR.mono hu (by omega),fun b hb=>⟨.inr hb,fun hn=> ?_⟩⟩
   ·unfold LwR.is
    rw [hq]
    exact zbY
   ·have:=(OwnR.lt hu b hb).1
    have:=hF b (hF0 b hn)
    omega
  ·obtain ⟨v,t',q1,q2,q3⟩:=h2 e he
   exact ⟨v,t',LwR.is_mono q1 fun p v hp=>zdo (zkp hnone) hp,OwnR.kept q2 fun b hb=>hbl.block b (OwnR.lt q2 b hb).2,fun b hb=>⟨.inl (q3 b hb).1,(q3 b hb).2⟩⟩
 ·rintro b (hb|hb)
  ·exact ⟨Nat.lt_of_lt_of_le (hF b hb) hbl.size,.inl hb⟩
  ·exact ⟨(OwnR.lt hu b hb).2,.inr (OwnR.lt hu b hb).1⟩
theorem Tryz.znj {w:World} {sv:Value} {l:List Sg} (hsv:SegV (fun _=>False) w0 sv l) (hR:l≠ []→ ∀R o' c',sv= .slice (some ⟨R,o',none⟩) l.length c'→ ¬K R) (hold: ∀b,b<w0.heap.size→ ¬K b→w.heap[b]? =w0.heap[b]?):SegV (fun _=>False) w sv l:=by
 obtain ⟨sa',c',e,hok,hr'⟩:=hsv
 refine ⟨sa',c',e,hok,?_⟩
 by_cases h0:l= []
 ·exact .inl h0
 ·rcases hr' with h|⟨R,o,e1,h3,h4⟩
  ·exact .inl h
  ·exact .inr ⟨R,o,e1,h3,zaV h4 (hold R (zcF h4 h0) (hR h0 R o c' (by rw [e,e1])))⟩
theorem Tryz.zHU {V:List Value} {U:Value} (he:Dw.Enters prog f) (ha: ∀j vals,RL ρ j args vals→vals=V) (hr: ∀j,Dw.R ρ j res U)
  (h: ∀(w:World),(∀b,b<w0.heap.size→ ¬K b→w.heap[b]? =w0.heap[b]?)→Calls prog f V.toArray w fun e w'=>e= .returned U∧Below w.heap.size w w'):
  zaQ prog ρ w0 K (obG O X bX b2 sk rows) ⟨f,args,k,0,0,res,k⟩:=by
 refine ⟨he,fun j w vals F n hv hnone _ hF hsz hf hold=> ?_⟩
 have hv:=ha j vals hv
 subst hv
 refine Calls.mono (h w hold) fun en w' hh=> ?_
 obtain ⟨rfl,hbl⟩:=hh
 refine ⟨_,[],F,rfl,rfl,hr _,?_,fun b hb=>⟨Nat.lt_of_lt_of_le (hF b hb) hbl.size,.inl hb⟩,Dw.Mv.of_below hbl⟩
 exact (obG O X bX b2 sk rows).loc k _ _ F w w' hf (fun m v hm=>zdo (zkp hnone) hm) (fun b hb=>hbl.block b (hF b hb)) hbl.size
end
section
variable {ρ:Val} {w0:World} {K:Nat→Prop} {X:Nat→Prop} {bX:Nat} {S P L Bs B M N:Nat} {r:Tryz.Rg} {b2:Nat} {sk:Nat→Tryz.PS×(Nat→Int)} {rows:Nat→List Tryz.LwR} {k k' q:Nat}
def Tryz.zyQ (k k':Nat) (n:SE):Ent:=⟨13,[.cst 2 none],k,0,0,.int .i64 n,k'⟩
theorem Tryz.zt3 {m:Int} {n:SE} (hv2:ρ.v 2= .pointer (some ⟨S,0,none⟩)) (hn:n.den ρ=m) (hf:zb8 N r 20 0 (sk k).1 (sk k).2=(m,(sk k').1,(sk k').2)) (hbX:bX≤w0.heap.size) (hlt:S<b2∧M<b2∧B<b2) (hK:K S∧K M∧K B) (hrows: ∀e∈rows k',e∈rows k):
  zaQ prog ρ w0 K (obG (pwO S P L Bs B M N r) X bX b2 sk rows) (zyQ k k' n):=
 zAY (Dw.enters_of (by kernel_rfl)) (by decide) hbX [.pointer (some ⟨S,0,none⟩)] (.int .i64 m) (fun j=>zab (za5 hv2 rfl) RL.nil) (fun j=>zac hn) (fun b hb=>by rcases hb with rfl|rfl|rfl;exact hlt.1;exact hlt.2.1;exact hlt.2.2) (fun b hb=>by rcases hb with rfl|rfl|rfl;exact hK.1;exact hK.2.1;exact hK.2.2) hrows fun F0 w _ h1=>by
  have hsd:=h1.sw.sd
  have hmd:=h1.sw.md
  have:=zvp h1.sw ⟨fun hh=>by rcases hh.2 with e|e|e|e;exact e h1.fP;exact hsd.1 e.symm;exact hmd.1 e.symm;exact h1.sw.mem.pb e,fun hh=>by rcases hh.2 with e|e|e|e;exact e h1.fL;exact hsd.2.1 e.symm;exact hmd.2.1 e.symm;exact h1.sw.mem.lb e,fun hh=>by rcases hh.2 with e|e|e|e;exact e h1.fs;exact hsd.2.2.1 e.symm;exact hmd.2.2.1 e.symm;exact h1.sw.mem.sb e⟩
  rw [hf] at this
  exact Calls.mono this fun e w' hh=>⟨hh.1,h1.next hh.2.1 hh.2.2.size (fun b hb=> .inl hb) fun b q1 q2=> .inr ⟨q1,q2⟩,hh.2.2⟩
def Tryz.zyP (k k':Nat):Ent:=⟨12,[.cst 2 none],k,0,0,.int .i64 (.lit 0),k'⟩
theorem Tryz.zyO (hv2:ρ.v 2= .pointer (some ⟨S,0,none⟩)) (hp:(zck (sk k).1).1=0) (hs:sk k'=((zck (sk k).1).2,(sk k).2)) (hbX:bX≤w0.heap.size) (hlt:S<b2∧M<b2∧B<b2) (hK:K S∧K M∧K B) (hrows: ∀e∈rows k',e∈rows k):
  zaQ prog ρ w0 K (obG (pwO S P L Bs B M N r) X bX b2 sk rows) (zyP k k'):=
 zss (Dw.enters_of (by kernel_rfl)) (by decide) hbX [.pointer (some ⟨S,0,none⟩)] (.int .i64 0) (fun j=>zab (za5 hv2 rfl) RL.nil) (fun j=>zac rfl) hlt hK hrows fun A w hsw=>by
  rw [hs,←hp];exact zpI hsw
def Tryz.zyS (k k' q:Nat) (op wr:Int) (nn it:SB) (hd:SE):Ent:=⟨14,[.cst 2 none],k,q,1,.tup [.agg [.int .i64 (.lit op),.bool nn,.int .i64 hd,.opq q none,.int .u32 (.lit wr),.bool it],.bool (.lit true)],k'⟩
theorem Tryz.zyR {op wr:Int} {nn it:SB} {hd:SE} (hv2:ρ.v 2= .pointer (some ⟨S,0,none⟩)) (hph:(sk k).1.ph=0) (hbr:(sk k).1.br=false) (hdn:(sk k).1.dn=true) (hln:(sk k).1.sg.length≤1000000) (hop:(sk k).1.op=op) (hwr:(sk k).1.wr=wr) (hnn:nn.den ρ=(sk k).1.nn) (hit:it.den ρ=(sk k).1.it) (hhd:hd.den ρ=(sk k).1.hd)
  (hbX:bX≤w0.heap.size) (hb2:b2≤w0.heap.size) (hrows: ∀e∈rows k',e=sgR q (sk k).1.sg∨e∈rows k) (hs:sk k'=sk k):
  zaQ prog ρ w0 K (obG (pwO S P L Bs B M N r) X bX b2 sk rows) (zyS k k' q op wr nn it hd):=
 zAZ (z:=fun u=> .tuple #[.agg #[.int .i64 op,.bool (sk k).1.nn,.int .i64 (sk k).1.hd,u,.int .u32 wr,.bool (sk k).1.it],.bool true]) (e0:=sgR q (sk k).1.sg) (Dw.enters_of (by kernel_rfl)) (show AV.exactL [.cst 2 none]=true by decide) hbX [.pointer (some ⟨S,0,none⟩)] (fun j=>zab (za5 hv2 rfl) RL.nil) hb2
  (fun j u hj ho _=>zcC (zab (zbg (zab (zac rfl) (zab (zap hnn) (zab (zac hhd) (zab ⟨⟨_,hj,rfl⟩,ho,fun _ h=>by cases h⟩ (zab (zac rfl) (zab (zap hit) RL.nil)))))) ) (zab (zap rfl) RL.nil))) hrows rfl hs
  fun A w hsw=>Calls.mono (zru hsw.sw hph hbr hdn hln) fun e w' ⟨u,h1,h2,h3⟩=>⟨u,43,by rw [h1,hop,hwr],h2,h3⟩
def Tryz.zyN (segs:AV) (k q:Nat):Ent:=⟨15,[.opq q none,segs],k,0,0,.bool (.lit true),k⟩
theorem Tryz.zyM {σ:Type} {O:Ob σ} {sk:Nat→σ} {segs:AV} {l:List Sg} {sv:Value} (hsx: ∀j x,Dw.R ρ j segs x→x=sv) (hsv:SegV (fun _=>False) w0 sv l) (hR:l≠ []→ ∀R o' c',sv= .slice (some ⟨R,o',none⟩) l.length c'→ ¬K R) (hl:l.length<4000000) (he0:sgR q l∈rows k):
  zaQ prog ρ w0 K (obG O X bX b2 sk rows) (zyN segs k q):=by
 refine ⟨Dw.enters_of (by kernel_rfl),fun j w vals F n0 hv hnone _ hF hsz hf hold=> ?_⟩
 obtain ⟨x0,_,rfl,y0,hv⟩:=hv
 obtain ⟨x1,_,rfl,y1,hv⟩:=hv
 have hv:_= []:=hv
 subst hv
 have hf0:=hf
 obtain ⟨hXF,F0,hF0,h1,h2⟩:=hf
 obtain ⟨u,t,q1,q2,q3⟩:=h2 _ he0
 have y0:x0=u:=by
  obtain ⟨⟨Lq,hj,hu⟩,_⟩:=y0
  unfold LwR.is sgR at q1
  simp only at q1
  unfold opqs at q1
  rw [hj] at q1
  simp only [Option.bind_some] at q1
  rw [hu] at q1
  injection q1
 have y1:=hsx j x1 y1
 subst y0 y1
 have hok:=hsv.choose_spec.choose_spec.2.1
 refine Calls.mono (zzn (zD5 (l:=l) q2 hok) (znj hsv hR hold) hl hl) fun en w' hh=> ?_
 obtain ⟨rfl,hbl⟩:=hh
 refine ⟨.bool (decide (l=l)),[],F,rfl,rfl,zap (by simp [SB.den]),?_,fun b hb=>⟨Nat.lt_of_lt_of_le (hF b hb) hbl.size,.inl hb⟩,Dw.Mv.of_below hbl⟩
 exact (obG O X bX b2 sk rows).loc k _ _ F w w' hf0 (fun m v hm=>zdo (zkp hnone) hm) (fun b hb=>hbl.block b (hF b hb)) hbl.size
theorem Tryz.zEe {A:Nat→Prop} {w:World} {v:Value} {l:List Sg} (h:SegV A w v l) (hl:l.length<4000000000000000):
  Calls prog 54 #[v] w fun e w'=>e= .returned (.int .i64 (zbv l))∧Below w.heap.size w w':=by
 have h0:=h
 obtain ⟨sa,c,rfl,hok,hr⟩:=h
 obtain ⟨F0,hF0,hF1⟩:=zdF h0
 have d0:(lnv 0).den (⟨fun n=>match n with|0=>l.length|7=>zaU l|_=>0,fun _=>false,fun n=>match n with|1=> .slice sa l.length c|_=>undef⟩:Val)=l.length:=zat (by show (0:Int)≤l.length;omega) (by show (l.length:Int)<_;omega)
 have i7:(⟨fun n=>match n with|0=>l.length|7=>zaU l|_=>0,fun _=>false,fun n=>match n with|1=> .slice sa l.length c|_=>undef⟩:Val).i 7=zaU l:=rfl
 have v1:(⟨fun n=>match n with|0=>l.length|7=>zaU l|_=>0,fun _=>false,fun n=>match n with|1=> .slice sa l.length c|_=>undef⟩:Val).v 1= .slice sa l.length c:=rfl
 generalize (⟨fun n=>match n with|0=>l.length|7=>zaU l|_=>0,fun _=>false,fun n=>match n with|1=> .slice sa l.length c|_=>undef⟩:Val)=ρ at d0 i7 v1
 refine Calls.mono (zaD (ρ:=ρ) (K:=fun _=>False) (g:=segG sa l) (bl:= []) (vals:= [.slice sa l.length c]) mixed zzx zFy (fun b h=>h.elim) trivial trivial ⟨F0,hF0,hF1⟩
  ⟨zaw (Dw.enters_of (by kernel_rfl)) (by decide) [.slice sa l.length c] (.int .i64 (zaU l)) (fun j=>zab (zi2 v1 d0) RL.nil) (fun j=>zac i7) fun w F q h=>zuu (SegF.v h hok c),trivial⟩ (zab (zi2 v1 d0) RL.nil) (zae.2 trivial)) fun e w' hh=> ?_
 obtain ⟨p,hpm,hto,lf,hlf,j,he⟩:=hh
 have hb:=zar he (fun _ h=>h)
 unfold zzy at hpm
 simp only [List.mem_cons,List.not_mem_nil,or_false] at hpm
 unfold zbv
 rcases hpm with rfl|rfl|rfl
 all_goals
  simp only [zaa,zae,zbj,zaM,zad,i7,d0,beq_iff_eq,beq_eq_false_iff_ne,ne_eq,and_true] at hto
  cases hlf
 ·rw [if_pos ⟨hto.1,by omega⟩];exact ⟨he.ret,hb⟩
 ·rw [if_neg (by omega)];exact ⟨he.ret.trans (by simp only [AV.val,zaM,i7]),hb⟩
 ·rw [if_neg (fun h=>hto h.1)];exact ⟨he.ret.trans (by simp only [AV.val,zaM,i7]),hb⟩
set_option maxRecDepth 100000 in
theorem Tryz.zxF {A:Nat→Prop} {w:World} {v:Value} {l:List Sg} (h:SegV A w v l) (hl:l.length<4000000000000000):
    Calls prog 10 #[v,.bool true] w fun e w'=>e= .returned (.int .i64 (if zbv l=0 then 1 else 0))∧Below w.heap.size w w':=by
  have hm:=zEe h hl
  by_cases h0:zbv l=0
  · rw [h0] at hm
    rw [if_pos h0]
    clear h0
    go_enter func10,ntmps10
    go_wp2_with (first
      | (go_at_call 54;refine hm.mono ?_;rintro e w' ⟨rfl,hb⟩)
      | go_in)
    go_ret
    exact ⟨rfl,hb⟩
  · rw [if_neg h0]
    go_enter func10,ntmps10
    go_wp2_with (first
      | (go_at_call 54;refine hm.mono ?_;rintro e w' ⟨rfl,hb⟩)
      | go_in)
    go_ret
    exact ⟨rfl,hb⟩
def Tryz.zeW (segs:AV):Ent:=⟨10,[segs,.bool (.lit true)],0,0,0,.int .i64 (.var 40),0⟩
theorem Tryz.zlj {σ:Type} {O:Ob σ} {sk:Nat→σ} {segs:AV} {l:List Sg} {sv:Value} {n:Int} (hsx: ∀j x,Dw.R ρ j segs x→x=sv) (hsv:SegV (fun _=>False) w0 sv l) (hR:l≠ []→ ∀R o' c',sv= .slice (some ⟨R,o',none⟩) l.length c'→ ¬K R) (hl:l.length<4000000000000000) (h40:ρ.i 40=n) (hn:(if zbv l=0 then 1 else 0)=n):
  zaQ prog ρ w0 K (obG O X bX b2 sk rows) (zeW segs):=
 zHU (V:= [sv,.bool true]) (U:= .int .i64 n) (Dw.enters_of (by kernel_rfl)) (fun j vals hv=>by
  obtain ⟨x0,_,rfl,y0,hv⟩:=hv
  obtain ⟨x1,_,rfl,y1,hv⟩:=hv
  have hv:_= []:=hv
  subst hv
  rw [hsx j x0 y0,show x1= .bool true from R_val rfl y1]) (fun j=>zac h40) fun w hold=>by
  rw [←hn];exact zxF (znj hsv hR hold) hl
def Tryz.zt2 (segs:AV) (k k':Nat):Ent:=⟨11,[.cst 0 none,prg,.agg [.int .i64 (lnv 14),.bool (.var 5)],.int .i64 (lnv 5),segs],k,0,0,.tup [.agg [.int .i64 (lnv 34),.bool (.var 6)],.bool (.lit true)],k'⟩
theorem Tryz.zwI {segs:AV} {l:List Sg} {a id:Int} {x:Bool} {sv:Value} (hv0:ρ.v 0= .pointer (some ⟨P,0,none⟩)) (hrg: ∀j,Dw.R ρ j prg r.pval) (h14:(lnv 14).den ρ=a) (hb5:ρ.b 5=x) (h5:(lnv 5).den ρ=id) (hsx: ∀j x,Dw.R ρ j segs x→x=sv)
  (h34:(lnv 34).den ρ=(zaL r.n a x (za2 r.n id a x l).length).1) (hb6:ρ.b 6=(zaL r.n a x (za2 r.n id a x l).length).2) (hok:ppOk r.n l) (hr:PgOk r) (hN:N≤1048576) (hfit:4104+16*r.n≤N) (hsv:SegV (fun _=>False) w0 sv l)
  (hR:l≠ []→ ∀R o' c',sv= .slice (some ⟨R,o',none⟩) l.length c'→ ¬K R) (hl:l.length<60000) (ha:0≤a∧a<r.n) (hid:0≤id∧id<r.n) (hs:sk k'=((sk k).1,zcx r.d (za2 r.n id a x l) (sk k).2)) (hK:K B) (hlt:S<b2∧M<b2∧B<b2) (hrows: ∀e∈rows k',e∈rows k):
  zaQ prog ρ w0 K (obG (pwO S P L Bs B M N r) X bX b2 sk rows) (zt2 segs k k'):=by
 refine ⟨Dw.enters_of (by kernel_rfl),fun j w vals F n hv hnone _ hF hsz hf hold=> ?_⟩
 obtain ⟨x0,_,rfl,y0,hv⟩:=hv
 obtain ⟨x1,_,rfl,y1,hv⟩:=hv
 obtain ⟨x2,_,rfl,y2,hv⟩:=hv
 obtain ⟨x3,_,rfl,y3,hv⟩:=hv
 obtain ⟨x4,_,rfl,y4,hv⟩:=hv
 have hv:_= []:=hv
 subst hv
 have y0:x0= .pointer (some ⟨P,0,none⟩):=by rw [R_val rfl y0];exact hv0
 have y1:x1=r.pval:=(R_val (by decide) y1).trans (R_val (by decide) (hrg j)).symm
 have y2:x2=posV a x:=by rw [R_val rfl y2];simp only [AV.val,AV.valL,h14,zaA,hb5];rfl
 have y3:x3= .int .i64 id:=by rw [R_val rfl y3];simp only [AV.val,h5]
 have y4:=hsx j x4 y4
 subst y0 y1 y2 y3 y4
 obtain ⟨hXF,F0,hF0,h1,h2⟩:=hf
 refine Calls.mono (zxg (A:=fun _=>False) h1.sw.mem hN hr hfit (znj hsv hR hold) hl ha hid) fun en w' hh=> ?_
 obtain ⟨rfl,hgm,hmv⟩:=hh
 refine ⟨_,[],F,rfl,rfl,zcC (zab (zbg (zab (zac h34) (zab (zap hb6) RL.nil))) (zab (zap (by rw [decide_eq_true hok];rfl)) RL.nil)),⟨hXF,F0,hF0,?_,fun e he=> ?_⟩,fun b hb=>⟨Nat.lt_of_lt_of_le (hF b hb) hmv.size,.inl hb⟩,hmv.mono fun b hb=> ?_⟩
 ·show PwF S P L Bs B M N r (sk k') _ w'
  rw [hs]
  exact h1.stored hmv hgm
 ·obtain ⟨v,t',e1,e2,e3⟩:=h2 e (hrows e he)
  refine ⟨v,t',by rw [zgI];exact e1,OwnR.kept e2 fun b hb=>hmv.block b (OwnR.lt e2 b hb).2 fun hh=> ?_,e3⟩
  have:=(OwnR.lt e2 b hb).1
  omega
 ·subst hb
  exact ⟨hF0 _ h1.fB,.inr hK⟩
end
end Go.Proofs
namespace Go.Proofs
open Go.Dw Go.RowKit
def Tryz.ziQ:AV:= .sx 1 (lnv 4) 3 [(.bin .sub .i64 (lnv 4) (.lit 1),4)]
def Tryz.zr3:List AV:= [.int .i64 (lnv 14),.bool (.var 5)]
def Tryz.zc0:AV:= .sx 4 (lnv 7) 1 [(lnv 6,3)]
def Tryz.zbn:List (Nat×AV):= [(0,.int .i64 (szv 0)),(3,.cst 103 none),(4,.cst 104 none),(11,.cst 0 none),(12,.cst 2 none),(13,.ptr 1 0),(15,.ptr 2 0),(16,.cst 116 none),(17,.cst 5 (some (lnv 5))),(18,.cst 6 (some (lnv 5))),(19,.cst 7 (some (lnv 5)))]
def Tryz.zfD (bufs:AV):List (Nat×AV):= [(2,bufs),(20,.int .i64 (lnv 13)),(21,.int .i64 (lnv 6))]++zbn
def Tryz.zlk (segs:AV) (g0:SB):LEnt:=⟨[0,1,0,1,0,0,1,0,0,1,0,1,1,1,1,1,1,1,1,1,1,3],361,0,
 [(2,zc0),(20,.int .i64 (lnv 13)),(21,.int .i64 (lnv 6)),(22,.bool g0),(23,.int .i64 (.lit 0))]++zbn,[],[(3,[segs])],0,0,
 [⟨.var 3,.exit 2,[(2,zc0),(20,.int .i64 (lnv 13)),(21,.int .i64 (lnv 6)),(22,.bool (.lit true))]++zbn,0⟩,⟨.lit true,.exit 2,[(2,zc0),(20,.int .i64 (lnv 13)),(21,.int .i64 (lnv 6)),(22,.bool (.lit false))]++zbn,0⟩]⟩
def Tryz.zoF:SB:= .cmp .lss (lnv 5) (szv 0)
def Tryz.ziP (segs:AV):LEnt:=⟨[0,1,0,1,0,0,1,0,0,1,0,1,1,1,1,1,1,1,1,1,1,3],361,0,
 [(2,zc0),(20,.int .i64 (lnv 13)),(21,.int .i64 (lnv 6)),(22,.bool (.lit false)),(23,.int .i64 (.lit 0))]++zbn,[],[(3,[segs])],0,0,
 [⟨.lit true,.exit 2,[(2,zc0),(20,.int .i64 (lnv 13)),(21,.int .i64 (lnv 6)),(22,.bool (.lit false))]++zbn,0⟩]⟩
def Tryz.tpA (T:Nat) (c:Nat) (x:AV) (k q:Nat):AEnt:=⟨T,.cst c (some (lnv 5)),1,[x],k,q,1,.opq q none,k+1⟩
end Go.Proofs
namespace Go.Proofs
open Go.Dw
def Tryz.ztZ:List Ent:= []
def Tryz.zyF:List Sh:= [.ro zfL,.ro zr3]
def Tryz.ziM:List (Nat×AV):=zfD (.sx 4 (lnv 7) 1 [])
def Tryz.zoz:List LEnt:= []
def Tryz.zoA:List AEnt:= []
def Tryz.zyG:Option AV:=none
def Tryz.zGv:List (SB×Bool):= [(.cmp .lss (lnv 6) (lnv 7),false)]
def Tryz.zE9:List zbo:= [
 ⟨(.exit 0),[0,3,4,11,12,13,15,16,17,18,19,20],none,⟨.tup [.int .i64 (szv 0),.cst 103 none,.cst 104 none,.cst 0 none,.cst 2 none,.ptr 1 0,.ptr 2 0,.cst 116 none,.cst 5 (some (lnv 5)),.cst 6 (some (lnv 5)),.cst 7 (some (lnv 5)),.int .i64 (lnv 13)],[(1,[.bool (.lit true),.int .i64 (szv 0),.int .u64 (u64v 1),.int .u64 (u64v 2),.int .u64 (u64v 3)]),(2,[.int .i64 (lnv 14),.bool (.var 5)])],[],0,[]⟩⟩]
def Tryz.zE8:List (List (SB×Bool)×Nat):= [
 ([], 0)]
theorem Tryz.zGu:(evL prog (zau ztZ) (zaF zoz) (zaE zoA) 100000 (.code (zaK prog [0,0,1,0,1,1,1,1,1,1,1,1,1,1,3]) [0,0,1,0,1,1,1,1,1,1,1,1,1,1,3] 361 (envS 361 ziM zyG) (zas 0 zyF) (zaJ zE9 0))).ways zGv=some zE8:=by kernel_rfl
theorem Tryz.zI7:(zai zyF&&zaf ztZ&&zam zoz&&zan zoA&&zaq ziM&&zak zE9&&zaH 361 ziM&&Nat.ble 361 zaP&&zaC zyG)=true:=by kernel_rfl
def Tryz.zt1:List Ent:= []
def Tryz.zyJ:List Sh:= [.ro [.sx 1 (lnv 4) 3 [(lnv 20,2)]],.ro [.int .u64 (u64v 8),.int .u32 (u32v 9),.bool (.var 12)]]
def Tryz.ziO:List (Nat×AV):= [(2,.sx 4 (lnv 7) 1 [(lnv 6,1)]),(21,.int .i64 (lnv 6)),(22,.bool (.var 11)),(23,.int .i64 (lnv 20))]++zmb [0,3,4,11,12,13,15,16,17,18,19,20]
def Tryz.zoD:List LEnt:= []
def Tryz.zoE:List AEnt:= []
def Tryz.zyK:Option AV:=none
def Tryz.zGz:List (SB×Bool):= [(.cmp .lss (lnv 20) (lnv 4),true)]
def Tryz.zFd:List zbo:= [
 ⟨.normal,[2,21,22,23,0,3,4,11,12,13,15,16,17,18,19,20],none,⟨.tup [.sx 4 ((lnv 7)) 1 [((lnv 6),1)],.int .i64 (lnv 6),.bool (.and (.and (.var 11) (.cmp .leq (u64v 8) (.lit 4000))) (.cmp .leq (u32v 9) (.bin .sub .u64 (.lit 4000) (u64v 8)))),.int .i64 (.bin .add .i64 (lnv 20) (.lit 1)),.cst 100 none,.cst 103 none,.cst 104 none,.cst 111 none,.cst 112 none,.cst 113 none,.cst 115 none,.cst 116 none,.cst 117 none,.cst 118 none,.cst 119 none,.cst 120 none],[],[],0,[]⟩⟩,
 ⟨.normal,[2,21,22,23,0,3,4,11,12,13,15,16,17,18,19,20],none,⟨.tup [.sx 4 ((lnv 7)) 1 [((lnv 6),1)],.int .i64 (lnv 6),.bool (.lit false),.int .i64 (.bin .add .i64 (lnv 20) (.lit 1)),.cst 100 none,.cst 103 none,.cst 104 none,.cst 111 none,.cst 112 none,.cst 113 none,.cst 115 none,.cst 116 none,.cst 117 none,.cst 118 none,.cst 119 none,.cst 120 none],[],[],0,[]⟩⟩]
def Tryz.zFc:List (List (SB×Bool)×Nat):= [
 ([(.var 11,true),((.cmp .leq (u64v 8) (.lit 4000)),true)],0),
 ([(.var 11,true),((.cmp .leq (u64v 8) (.lit 4000)),false)],1),
 ([(.var 11,false)],1)]
theorem Tryz.zGy:(evL prog (zau zt1) (zaF zoD) (zaE zoE) 100000 (.code (zaK prog [0,0,1,0,1,0,0,1,0,0,1,0,1,1,1,1,1,1,1,1,1,1,3]) [0,0,1,0,1,0,0,1,0,0,1,0,1,1,1,1,1,1,1,1,1,1,3] 361 (envS 361 ziO zyK) (zas 0 zyJ) (zaJ zFd 0))).ways zGz=some zFc:=by kernel_rfl
theorem Tryz.zI9:(zai zyJ&&zaf zt1&&zam zoD&&zan zoE&&zaq ziO&&zak zFd&&zaH 361 ziO&&Nat.ble 361 zaP&&zaC zyK)=true:=by kernel_rfl
def Tryz.zt0:List Ent:= []
def Tryz.zyH:List Sh:= [.ro [zcu]]
def Tryz.ziN:List (Nat×AV):= [(2,.sx 4 (lnv 7) 1 [(lnv 6,1)]),(21,.int .i64 (lnv 6)),(22,.bool (.var 11)),(23,.int .i64 (lnv 20))]++zmb [0,3,4,11,12,13,15,16,17,18,19,20]
def Tryz.zoB:List LEnt:= []
def Tryz.zoC:List AEnt:= []
def Tryz.zyI:Option AV:=none
def Tryz.zGx:List (SB×Bool):= [(.cmp .lss (lnv 20) (lnv 4),false)]
def Tryz.zFb:List zbo:= [
 ⟨(.exit 2),[2,21,22,0,3,4,11,12,13,15,16,17,18,19,20],none,⟨.tup [.sx 4 ((lnv 7)) 1 [((lnv 6),1)],.int .i64 (lnv 6),.bool (.var 11),.cst 100 none,.cst 103 none,.cst 104 none,.cst 111 none,.cst 112 none,.cst 113 none,.cst 115 none,.cst 116 none,.cst 117 none,.cst 118 none,.cst 119 none,.cst 120 none],[],[],0,[]⟩⟩]
def Tryz.zFa:List (List (SB×Bool)×Nat):= [
 ([], 0)]
theorem Tryz.zGw:(evL prog (zau zt0) (zaF zoB) (zaE zoC) 100000 (.code (zaK prog [0,0,1,0,1,0,0,1,0,0,1,0,1,1,1,1,1,1,1,1,1,1,3]) [0,0,1,0,1,0,0,1,0,0,1,0,1,1,1,1,1,1,1,1,1,1,3] 361 (envS 361 ziN zyI) (zas 0 zyH) (zaJ zFb 0))).ways zGx=some zFa:=by kernel_rfl
theorem Tryz.zI8:(zai zyH&&zaf zt0&&zam zoB&&zan zoC&&zaq ziN&&zak zFb&&zaH 361 ziN&&Nat.ble 361 zaP&&zaC zyI)=true:=by kernel_rfl
def Tryz.ztX:List Ent:= [zeW zcu]
def Tryz.zyB:List Sh:= [.ro zfL,.own zr3,.ro [zcu]]
def Tryz.ziK:List (Nat×AV):=zfD zc0
def Tryz.zov:List LEnt:= [zlk zcu zoF]
def Tryz.zow:List AEnt:= []
def Tryz.zyC:Option AV:=none
def Tryz.zGr:List (SB×Bool):= [(.cmp .lss (lnv 6) (lnv 7),true),(.cmp .eql (.var 40) (.lit 1),true),(.cmp .leq (lnv 4) (lnv 13),true),(.var 3,false)]
def Tryz.zE5:List zbo:= [
 ⟨.normal,[2,20,21,0,3,4,11,12,13,15,16,17,18,19],none,⟨.tup [.sx 4 ((lnv 7)) 1 [((lnv 6),3)],.int .i64 (lnv 13),.int .i64 (.bin .add .i64 (lnv 6) (.lit 1)),.int .i64 (szv 0),.cst 103 none,.cst 104 none,.cst 0 none,.cst 2 none,.ptr 1 0,.ptr 2 0,.cst 116 none,.cst 5 (some (lnv 5)),.cst 6 (some (lnv 5)),.cst 7 (some (lnv 5))],[(1,[.bool (.lit true),.int .i64 (szv 0),.int .u64 (u64v 1),.int .u64 (u64v 2),.int .u64 (u64v 3)]),(2,[.int .i64 (lnv 14),.bool (.var 5)])],[],0,[2]⟩⟩]
def Tryz.zE4:List (List (SB×Bool)×Nat):= [
 ([], 0)]
theorem Tryz.zGq:(evL prog (zau ztX) (zaF zov) (zaE zow) 100000 (.code (zaK prog [0,0,1,0,1,1,1,1,1,1,1,1,1,1,3]) [0,0,1,0,1,1,1,1,1,1,1,1,1,1,3] 361 (envS 361 ziK zyC) (zas 0 zyB) (zaJ zE5 0))).ways zGr=some zE4:=by kernel_rfl
theorem Tryz.zI5:(zai zyB&&zaf ztX&&zam zov&&zan zow&&zaq ziK&&zak zE5&&zaH 361 ziK&&Nat.ble 361 zaP&&zaC zyC)=true:=by kernel_rfl
def Tryz.ztW:List Ent:= [zeW zcu]
def Tryz.zyz:List Sh:= [.ro zfL,.own zr3,.ro [zcu]]
def Tryz.ziJ:List (Nat×AV):=zfD zc0
def Tryz.zot:List LEnt:= [ziP zcu]
def Tryz.zou:List AEnt:= []
def Tryz.zyA:Option AV:=none
def Tryz.zGp:List (SB×Bool):= [(.cmp .lss (lnv 6) (lnv 7),true),(.cmp .eql (.var 40) (.lit 1),false)]
def Tryz.zE3:List zbo:= [
 ⟨.normal,[2,20,21,0,3,4,11,12,13,15,16,17,18,19],none,⟨.tup [.sx 4 ((lnv 7)) 1 [((lnv 6),3)],.int .i64 (lnv 13),.int .i64 (.bin .add .i64 (lnv 6) (.lit 1)),.int .i64 (szv 0),.cst 103 none,.cst 104 none,.cst 0 none,.cst 2 none,.ptr 1 0,.ptr 2 0,.cst 116 none,.cst 5 (some (lnv 5)),.cst 6 (some (lnv 5)),.cst 7 (some (lnv 5))],[(1,[.bool (.lit true),.int .i64 (szv 0),.int .u64 (u64v 1),.int .u64 (u64v 2),.int .u64 (u64v 3)]),(2,[.int .i64 (lnv 14),.bool (.var 5)])],[],0,[2]⟩⟩]
def Tryz.zE2:List (List (SB×Bool)×Nat):= [
 ([], 0)]
theorem Tryz.zGo:(evL prog (zau ztW) (zaF zot) (zaE zou) 100000 (.code (zaK prog [0,0,1,0,1,1,1,1,1,1,1,1,1,1,3]) [0,0,1,0,1,1,1,1,1,1,1,1,1,1,3] 361 (envS 361 ziJ zyA) (zas 0 zyz) (zaJ zE3 0))).ways zGp=some zE2:=by kernel_rfl
theorem Tryz.zI4:(zai zyz&&zaf ztW&&zam zot&&zan zou&&zaq ziJ&&zak zE3&&zaH 361 ziJ&&Nat.ble 361 zaP&&zaC zyA)=true:=by kernel_rfl
def Tryz.ztV:List Ent:= [zeW zcu]
def Tryz.zyx:List Sh:= [.ro zfL,.own zr3,.ro [zcu]]
def Tryz.ziI:List (Nat×AV):=zfD zc0
def Tryz.zor:List LEnt:= [ziP zcu]
def Tryz.zos:List AEnt:= []
def Tryz.zyy:Option AV:=none
def Tryz.zGn:List (SB×Bool):= [(.cmp .lss (lnv 6) (lnv 7),true),(.cmp .eql (.var 40) (.lit 1),true),(.cmp .leq (lnv 4) (lnv 13),false)]
def Tryz.zE1:List zbo:= [
 ⟨.normal,[2,20,21,0,3,4,11,12,13,15,16,17,18,19],none,⟨.tup [.sx 4 ((lnv 7)) 1 [((lnv 6),3)],.int .i64 (lnv 13),.int .i64 (.bin .add .i64 (lnv 6) (.lit 1)),.int .i64 (szv 0),.cst 103 none,.cst 104 none,.cst 0 none,.cst 2 none,.ptr 1 0,.ptr 2 0,.cst 116 none,.cst 5 (some (lnv 5)),.cst 6 (some (lnv 5)),.cst 7 (some (lnv 5))],[(1,[.bool (.lit true),.int .i64 (szv 0),.int .u64 (u64v 1),.int .u64 (u64v 2),.int .u64 (u64v 3)]),(2,[.int .i64 (lnv 14),.bool (.var 5)])],[],0,[2]⟩⟩]
def Tryz.zE0:List (List (SB×Bool)×Nat):= [
 ([], 0)]
theorem Tryz.zGm:(evL prog (zau ztV) (zaF zor) (zaE zos) 100000 (.code (zaK prog [0,0,1,0,1,1,1,1,1,1,1,1,1,1,3]) [0,0,1,0,1,1,1,1,1,1,1,1,1,1,3] 361 (envS 361 ziI zyy) (zas 0 zyx) (zaJ zE1 0))).ways zGn=some zE0:=by kernel_rfl
theorem Tryz.zI3:(zai zyx&&zaf ztV&&zam zor&&zan zos&&zaq ziI&&zak zE1&&zaH 361 ziI&&Nat.ble 361 zaP&&zaC zyy)=true:=by kernel_rfl
def Tryz.ztY:List Ent:= [zeW ziQ,zt2 ziQ 0 1,zyP 1 2,zyQ 2 3 (.lit 3),zyS 3 4 6 3 0 (.lit false) (.lit false) (lnv 5),zyN ziQ 4 6]
def Tryz.zyD:List Sh:= [.ro zfL,.own zr3,.ro [ziQ],.ro [.int .u64 (u64v 41),.int .u32 (u32v 42),.bool (.var 13)]]
def Tryz.ziL:List (Nat×AV):=zfD zc0
def Tryz.zox:List LEnt:= [zlk ziQ zoF]
def Tryz.zoy:List AEnt:= [tpA 37 5 (.int .i64 (lnv 5)) 4 10,tpA 37 6 (.int .i64 (lnv 4)) 5 11,tpA 38 7 (.bool (.var 13)) 6 13]
def Tryz.zyE:Option AV:=none
def Tryz.zGt:List (SB×Bool):= [(.cmp .lss (lnv 6) (lnv 7),true),(.cmp .eql (.var 40) (.lit 1),true),(.cmp .leq (lnv 4) (lnv 13),true),(.var 3,true)]
def Tryz.zE7:List zbo:= [
 ⟨.normal,[2,20,21,0,3,4,11,12,13,15,16,17,18,19],none,⟨.tup [.sx 4 ((lnv 7)) 1 [((lnv 6),3)],.int .i64 (.bin .sub .i64 (lnv 13) (lnv 4)),.int .i64 (.bin .add .i64 (lnv 6) (.lit 1)),.int .i64 (szv 0),.cst 103 none,.cst 104 none,.cst 0 none,.cst 2 none,.ptr 1 0,.ptr 2 0,.cst 116 none,.opq 10 none,.opq 11 none,.opq 13 none],[(1,[.bool (.lit true),.int .i64 (szv 0),.int .u64 (u64v 1),.int .u64 (u64v 2),.int .u64 (u64v 3)]),(2,[.int .i64 (lnv 34),.bool (.var 6)])],[],7,[2]⟩⟩]
def Tryz.zE6:List (List (SB×Bool)×Nat):= [
 ([], 0)]
theorem Tryz.zGs:(evL prog (zau ztY) (zaF zox) (zaE zoy) 100000 (.code (zaK prog [0,0,1,0,1,1,1,1,1,1,1,1,1,1,3]) [0,0,1,0,1,1,1,1,1,1,1,1,1,1,3] 361 (envS 361 ziL zyE) (zas 0 zyD) (zaJ zE7 0))).ways zGt=some zE6:=by kernel_rfl
theorem Tryz.zI6:(zai zyD&&zaf ztY&&zam zox&&zan zoy&&zaq ziL&&zak zE7&&zaH 361 ziL&&Nat.ble 361 zaP&&zaC zyE)=true:=by kernel_rfl
open Go.RowKit Go.Maps Go.Sort
def Tryz.tpIn (x:Sg):Bool:=decide (x.at1≤4000∧x.len≤4000-x.at1)
def Tryz.zGl (ρ:Val) (k a n:Int) (good wr:Bool) (act:Act):Val:=
 ⟨fun m=>match m with|20=>k|8=>a|9=>n|m=>ρ.i m,fun m=>match m with|11=>good|12=>wr|m=>ρ.b m,fun m=>if 100≤m then act.tmps.getD (m-100) undef else ρ.v m⟩
structure Tryz.TqD (ρ' ρ:Val) (k a n:Int) (good wr:Bool) (act:Act):Prop where
 n4:(lnv 4).den ρ'=(lnv 4).den ρ
 n6:(lnv 6).den ρ'=(lnv 6).den ρ
 n7:(lnv 7).den ρ'=(lnv 7).den ρ
 k:(lnv 20).den ρ'=k
 a:(u64v 8).den ρ'=a
 n:(u32v 9).den ρ'=n
 good:ρ'.b 11=good
 wr:ρ'.b 12=wr
 v1:ρ'.v 1=ρ.v 1
 v4:ρ'.v 4=ρ.v 4
 p: ∀t,ρ'.v (100+t)=act.tmps.getD t undef
theorem Tryz.tqD {ρ:Val} {k a n:Int} {good wr:Bool} {act:Act} (hk:0≤k∧k<4000000000000000) (ha:0≤a∧a<18446744073709551616) (hn:0≤n∧n<4294967296):TqD (zGl ρ k a n good wr act) ρ k a n good wr act:=
 ⟨rfl,rfl,rfl,zat hk.1 (by show k<_;omega),zaG ha.1 ha.2,zbx hn.1 hn.2,rfl,rfl,rfl,rfl,fun t=>by
  show (if 100≤100+t then act.tmps.getD (100+t-100) undef else ρ.v (100+t))=_
  rw [if_pos (by omega),Nat.add_sub_cancel_left]⟩
theorem Tryz.ztF {l:List Sg} {k:Nat} (hk:k<l.length):(l.take (k+1)).all tpIn=((l.take k).all tpIn&&tpIn l[k]):=by
 rw [List.take_succ_eq_append_getElem hk,List.all_append];simp
def Tryz.za1 (segs:AV) (g0:SB) (ends:List LEnd):LEnt:=⟨[0,1,0,1,0,0,1,0,0,1,0,1,1,1,1,1,1,1,1,1,1,3],361,0,[(2,zc0),(20,.int .i64 (lnv 13)),(21,.int .i64 (lnv 6)),(22,.bool g0),(23,.int .i64 (.lit 0))]++zbn,[],[(3,[segs])],0,0,ends⟩
set_option maxRecDepth 10000 in
theorem Tryz.zna {ρ:Val} {w0:World} {K:Nat→Prop} {g:Gho} {l:List Sg} {sv:Value} {segs:AV} {g0:SB} {b0:Bool} {ends:List LEnd} {cnd:SB}
  (hn:(lnv 4).den ρ=l.length) (hnl:l.length<4000000000000000) (hv1:ρ.v 1=sv) (hsx: ∀j x,Dw.R ρ j segs x→x=sv) (hsv:SegV (fun _=>False) w0 sv l) (hR:l≠ []→ ∀R o' c',sv= .slice (some ⟨R,o',none⟩) l.length c'→ ¬K R)
  (hg0:g0.den ρ=b0) (hge: ∀d∈ends,d.gs=0) (hend:zns ρ ends=some ⟨cnd,.exit 2,[(2,zc0),(20,.int .i64 (lnv 13)),(21,.int .i64 (lnv 6)),(22,.bool (.lit (b0&&l.all tpIn)))]++zbn,0⟩):
  zkT prog ρ w0 K g (za1 segs g0 ends):=by
 refine zfS rfl (fun d hd=>hge d hd) fun cc hc j a w F hsz hdf hsl hrw hf hs0 hold=> ?_
 have f2:=(hsl (2,zc0) (by simp [za1])).2
 have g22:a.tmps.getD 22 undef= .bool b0:=by
  have:a.tmps.getD 22 undef= .bool (SB.den ρ g0):=(hsl (22,.bool g0) (by simp [za1])).2
  rw [this,hg0]
 have g23:a.tmps.getD 23 undef= .int .i64 0:=(hsl (23,.int .i64 (.lit 0)) (by simp [za1])).2
 have g21:a.tmps.getD 21 undef= .int .i64 ((lnv 6).den ρ):=(hsl (21,.int .i64 (lnv 6)) (by simp [za1])).2
 have hone: ∀t∈ [0,3,4,11,12,13,15,16,17,18,19,20],(a.tmps.getD t undef).oneCell'=true:=by
  intro t ht
  simp only [List.mem_cons,List.not_mem_nil,or_false] at ht
  rcases ht with rfl|rfl|rfl|rfl|rfl|rfl|rfl|rfl|rfl|rfl|rfl|rfl
  ·exact zeq rfl (hsl (0,.int .i64 (szv 0)) (by simp [za1,zbn])).2
  ·exact zeq rfl (hsl (3,.cst 103 none) (by simp [za1,zbn])).2
  ·exact zeq rfl (hsl (4,.cst 104 none) (by simp [za1,zbn])).2
  ·exact zeq rfl (hsl (11,.cst 0 none) (by simp [za1,zbn])).2
  ·exact zeq rfl (hsl (12,.cst 2 none) (by simp [za1,zbn])).2
  ·exact zeq rfl (hsl (13,.ptr 1 0) (by simp [za1,zbn])).2
  ·exact zeq rfl (hsl (15,.ptr 2 0) (by simp [za1,zbn])).2
  ·exact zeq rfl (hsl (16,.cst 116 none) (by simp [za1,zbn])).2
  ·exact zeq rfl (hsl (17,.cst 5 (some (lnv 5))) (by simp [za1,zbn])).2
  ·exact zeq rfl (hsl (18,.cst 6 (some (lnv 5))) (by simp [za1,zbn])).2
  ·exact zeq rfl (hsl (19,.cst 7 (some (lnv 5))) (by simp [za1,zbn])).2
  ·exact zeq rfl (hsl (20,.int .i64 (lnv 13)) (by simp [za1,zbn])).2
 obtain ⟨e2,bb,len2,cap2,hv2,hl2,⟨b2b,o2,L2,i2,hb2e,hj2,hL2b,hd6,hi2,hL2o⟩,_⟩:=f2
 obtain ⟨hLF,vals,hvals,hrow⟩:=hrw (3,[segs]) (by simp [za1]) L2 hj2
 obtain ⟨sv0,_,rfl,hs0v,hvn⟩:=hvals
 have hvn:_= []:=hvn
 subst hvn
 have hs0e:=hsx j sv0 hs0v
 subst hs0e
 have hcc:cc=zaK prog [0,0,1,0,1,0,0,1,0,0,1,0,1,1,1,1,1,1,1,1,1,1,3]:=by
  have:=zhk (P:=prog) (p:= [0,1,0,1,0,0,1,0,0,1,0,1,1,1,1,1,1,1,1,1,1,3]) (by kernel_rfl)
  have hc:zaK prog [0,1,0,1,0,0,1,0,0,1,0,1,1,1,1,1,1,1,1,1,1,3]= .loop cc:=hc
  rw [hc] at this
  injection this
 subst hcc
 have hsz:a.tmps.size=361:=hsz
 have hLlt:L2.blk<w.heap.size:=zi9 hrow
 have hsv2:=hsv
 obtain ⟨sa,sc,hsve,hok,hsr⟩:=hsv2
 refine zbJ (fun (k:Nat) a' w'=>k≤l.length∧a'.tmps.size=361∧a'.defers= []∧(∀t∈ [2,21,0,3,4,11,12,13,15,16,17,18,19,20],a'.tmps.getD t undef=a.tmps.getD t undef)∧a'.tmps.getD 22 undef= .bool (b0&&(l.take k).all tpIn)∧a'.tmps.getD 23 undef= .int .i64 k∧Below w.heap.size w w')
  (fun k=>l.length-k) (fun k a1 w1 hI=> ?_) 0 a w ⟨Nat.zero_le _,hsz,hdf,fun _ _=>rfl,by rw [g22];simp,g23,Below.refl _ _⟩
 obtain ⟨hkn,q0,qd,pr,p22,p23,hb⟩:=hI
 have hrow1:Row w1 L2 [sv0]:=hrow.kept (hb.block _ hLlt)
 have hwk:=zeu k (by omega)
 have slots: ∀ {ρ':Val} {x y:Int} {hg hw:Bool} {bl:List (Nat×Nat)},TqD ρ' ρ k x y hg hw a→hg=(b0&&(l.take k).all tpIn)→jOf bl 1=some ⟨L2.blk,L2.off,0,none⟩→
   ∀ t∈ [(2,AV.sx 4 (lnv 7) 1 [(lnv 6,1)]),(21,.int .i64 (lnv 6)),(22,.bool (.var 11)),(23,.int .i64 (lnv 20))]++zmb [0,3,4,11,12,13,15,16,17,18,19,20],Dw.R ρ' (jOf bl) t.2 (a1.tmps.getD t.1 undef):=fun {ρ' x y hg hw bl} D hgd hj1 t ht=>by
  simp only [zmb,List.map_cons,List.map_nil,List.cons_append,List.nil_append,List.mem_cons,List.not_mem_nil,or_false] at ht
  rcases ht with rfl|rfl|rfl|rfl|ht
  ·rw [pr 2 (by simp),hv2]
   exact ⟨by rw [D.v4,←e2,hv2],_,_,_,rfl,by rw [D.n7];exact hl2,⟨b2b,o2,_,i2,hb2e,hj1,hL2b,by rw [D.n6];exact hd6,hi2,hL2o⟩,trivial⟩
  ·rw [pr 21 (by simp),g21];exact zac D.n6
  ·rw [p22];exact zap (D.good.trans hgd)
  ·rw [p23];exact zac D.k
  ·rcases ht with rfl|rfl|rfl|rfl|rfl|rfl|rfl|rfl|rfl|rfl|rfl|rfl
   all_goals
    show Dw.R ρ' _ (.cst _ none) _
    rw [pr _ (by simp)]
    exact za5 (D.p _) (hone _ (by simp))
 by_cases hk:k<l.length
 ·rcases hsr with h0|⟨R,o,rfl,_,hsr⟩
  ·rw [h0] at hk;simp at hk
  have hne:l≠ []:=fun h=>by rw [h] at hk;simp at hk
  have hRw0:=zcF hsr hne
  have hRw:w1.heap[R]? =w0.heap[R]? :=(hb.block R (by omega)).trans (hold R hRw0 (hR hne R o sc (by rw [hsve])))
  have hx:=zb0 (zaV hsr hRw) k hk
  have hxo:=hok l[k] (List.getElem_mem hk)
  have hat:=ztF hk
  generalize l[k]=C at hx hxo hat
  obtain ⟨c1,c2,c3,c4⟩:=hxo
  have D:=tqD (ρ:=ρ) (k:=k) (a:=C.at1) (n:=C.len) (good:=b0&&(l.take k).all tpIn) (wr:=C.wr) (act:=a) (by omega) ⟨c1,c2⟩ ⟨c3,c4⟩
  generalize zGl ρ k C.at1 C.len (b0&&(l.take k).all tpIn) C.wr a=ρ' at D
  have hj1:jOf [(L2.blk,L2.off),(R,o+3*k)] 1=some ⟨L2.blk,L2.off,0,none⟩:=rfl
  have hj2':jOf [(L2.blk,L2.off),(R,o+3*k)] 2=some ⟨R,o+3*k,0,none⟩:=rfl
  refine wp_mono (zaz (ρ:=ρ') (K:=fun _=>False) (g:=Gho.none) (bl:= [(L2.blk,L2.off),(R,o+3*k)]) mixed zGy zI9 (fun b h=>h.elim)
   ⟨zf7 hrow1 (by simp) (zab ⟨by rw [D.v1,hv1],_,_,_,hsve,by rw [D.n4,hn];rfl,⟨R,o,_,k,rfl,hj2',rfl,D.k,hk,rfl⟩,trivial⟩ RL.nil) (fun h=>h),zba hx (by simp [Sg.cells]) (zab (zac D.a) (zab (zac D.n) (zab (zap D.wr) RL.nil))) (fun h=>h),trivial⟩ ⟨fun h=>(by cases h),fun h=>(by cases h),trivial⟩ zaO trivial trivial trivial q0 qd (slots D rfl hj1) (zaa.2 ⟨by rw [zaY,D.k,D.n4,hn];simp only [decide_eq_true_eq];omega,zae.2 trivial⟩)) fun ex a2 w2 hh=> ?_
  obtain ⟨q,hq,hto,lf,hlf,rfl,hsz2,j2,hdf2,he⟩:=hh
  have hb3:=zar he (fun _ h=>h)
  have hb4:=hb.trans (hb3.mono hb.size)
  have hw4:C.at1≤4000→IntKind.wrap .u64 (4000-C.at1)=4000-C.at1:=fun h=>zbE (by omega) (by omega)
  have step: ∀ {b:Bool},a2.defers= []→([2,21,22,23,0,3,4,11,12,13,15,16,17,18,19,20].map fun t=>a2.tmps.getD t undef)= [a.tmps.getD 2 undef,a.tmps.getD 21 undef,.bool b,.int .i64 (k+1:Nat),ρ'.v 100,ρ'.v 103,ρ'.v 104,ρ'.v 111,ρ'.v 112,ρ'.v 113,ρ'.v 115,ρ'.v 116,ρ'.v 117,ρ'.v 118,ρ'.v 119,ρ'.v 120]→b=(b0&&(l.take (k+1)).all tpIn)→
    ∃ x':Nat,l.length-x'<l.length-k∧x'≤l.length∧a2.tmps.size=361∧a2.defers= []∧(∀t∈ [2,21,0,3,4,11,12,13,15,16,17,18,19,20],a2.tmps.getD t undef=a.tmps.getD t undef)∧a2.tmps.getD 22 undef= .bool (b0&&(l.take x').all tpIn)∧a2.tmps.getD 23 undef= .int .i64 x'∧Below w.heap.size w w2:=fun {b} hdf2 z hbb=>by
   simp only [List.map_cons,List.map_nil,List.cons.injEq,and_true] at z
   obtain ⟨r2,r21,r22,r23,r0,r3,r4,r11,r12,r13,r15,r16,r17,r18,r19,r20⟩:=z
   refine ⟨k+1,by omega,hk,hsz2,hdf2,fun t ht=> ?_,by rw [r22,hbb],r23,hb4⟩
   simp only [List.mem_cons,List.not_mem_nil,or_false] at ht
   rcases ht with rfl|rfl|rfl|rfl|rfl|rfl|rfl|rfl|rfl|rfl|rfl|rfl|rfl|rfl
   ·exact r2
   ·exact r21
   ·exact r0.trans (D.p 0)
   ·exact r3.trans (D.p 3)
   ·exact r4.trans (D.p 4)
   ·exact r11.trans (D.p 11)
   ·exact r12.trans (D.p 12)
   ·exact r13.trans (D.p 13)
   ·exact r15.trans (D.p 15)
   ·exact r16.trans (D.p 16)
   ·exact r17.trans (D.p 17)
   ·exact r18.trans (D.p 18)
   ·exact r19.trans (D.p 19)
   ·exact r20.trans (D.p 20)
  unfold zFc at hq
  simp only [List.mem_cons,List.not_mem_nil,or_false] at hq
  rcases hq with rfl|rfl|rfl
  all_goals
   simp only [zaa,zae,zaA,zkC,zad,D.good,D.a,decide_eq_true_eq,decide_eq_false_iff_not,and_true] at hto
   cases hlf
   have hs2:=zaB he.ret
   simp only [AV.valL,AV.val,D.v4,D.n6,D.k,D.p,den_add,zad,hwk,zJ7,zaA,zkC,zbs,D.good,D.a,D.n,zbN] at hs2
  ·refine step (b:=(b0&&(l.take k).all tpIn)&&decide (C.at1≤4000)&&decide (C.len≤IntKind.wrap .u64 (4000-C.at1))) hdf2 (hs2.trans ?_) ?_
   ·rw [←e2,←g21]
   ·rw [hat,hw4 hto.2,Bool.and_assoc,Bool.and_assoc,←Bool.decide_and]
    rfl
  ·refine step (b:=false) hdf2 (hs2.trans ?_) ?_
   ·rw [←e2,←g21]
   ·rw [hat]
    have:tpIn C=false:=decide_eq_false fun h=>hto.2 h.1
    rw [this,Bool.and_false,Bool.and_false]
  ·refine step (b:=false) hdf2 (hs2.trans ?_) ?_
   ·rw [←e2,←g21]
   ·rw [hat,←Bool.and_assoc,hto,Bool.false_and]
 ·have hkk:k=l.length:=by omega
  subst hkk
  have D:=tqD (ρ:=ρ) (k:=(l.length:Int)) (a:=0) (n:=0) (good:=b0&&(l.take l.length).all tpIn) (wr:=false) (act:=a) (by omega) (by omega) (by omega)
  generalize zGl ρ (l.length:Int) 0 0 (b0&&(l.take l.length).all tpIn) false a=ρ' at D
  have hj1:jOf [(L2.blk,L2.off)] 1=some ⟨L2.blk,L2.off,0,none⟩:=rfl
  refine wp_mono (zaz (ρ:=ρ') (K:=fun _=>False) (g:=Gho.none) (bl:= [(L2.blk,L2.off)]) mixed zGw zI8 (fun b h=>h.elim)
   ⟨zf7 hrow1 (by simp) (zab ⟨by rw [D.v1,hv1],_,_,_,hsve,by rw [D.n4,hn];rfl,trivial⟩ RL.nil) (fun h=>h),trivial⟩ ⟨fun h=>(by cases h),trivial⟩ zaO trivial trivial trivial q0 qd (slots D rfl hj1) (zaa.2 ⟨by rw [zaY,D.k,D.n4,hn];simp,zae.2 trivial⟩)) fun ex a2 w2 hh=> ?_
  obtain ⟨q,hq,hto,lf,hlf,rfl,hsz2,j2,hdf2,he⟩:=hh
  have hb3:=zar he (fun _ h=>h)
  unfold zFa at hq
  simp only [List.mem_cons,List.not_mem_nil,or_false] at hq
  subst hq
  cases hlf
  have hs2:=zaB he.ret
  simp only [AV.valL,AV.val,D.v4,D.n6,D.p,zaA,D.good,List.map_cons,List.map_nil,List.cons.injEq,and_true] at hs2
  obtain ⟨r2,r21,r22,r0,r3,r4,r11,r12,r13,r15,r16,r17,r18,r19,r20⟩:=hs2
  refine ⟨_,hend,rfl,hsz2,hdf2,(fun t ht=>by cases ht),fun s hs=> ?_,hb.trans (hb3.mono hb.size)⟩
  simp only [zbn,List.cons_append,List.nil_append,List.mem_cons,List.not_mem_nil,or_false] at hs
  rcases hs with rfl|rfl|rfl|rfl|rfl|rfl|rfl|rfl|rfl|rfl|rfl|rfl|rfl|rfl|rfl
  ·rw [r2,←e2];exact (hsl (2,zc0) (by simp [za1])).2
  ·rw [r20.trans (D.p 20)];exact (hsl (20,.int .i64 (lnv 13)) (by simp [za1])).2
  ·rw [r21,←g21];exact (hsl (21,.int .i64 (lnv 6)) (by simp [za1])).2
  ·rw [r22,List.take_length];exact zap rfl
  ·rw [r0.trans (D.p 0)];exact (hsl (0,.int .i64 (szv 0)) (by simp [za1,zbn])).2
  ·rw [r3.trans (D.p 3)];exact (hsl (3,.cst 103 none) (by simp [za1,zbn])).2
  ·rw [r4.trans (D.p 4)];exact (hsl (4,.cst 104 none) (by simp [za1,zbn])).2
  ·rw [r11.trans (D.p 11)];exact (hsl (11,.cst 0 none) (by simp [za1,zbn])).2
  ·rw [r12.trans (D.p 12)];exact (hsl (12,.cst 2 none) (by simp [za1,zbn])).2
  ·rw [r13.trans (D.p 13)];exact (hsl (13,.ptr 1 0) (by simp [za1,zbn])).2
  ·rw [r15.trans (D.p 15)];exact (hsl (15,.ptr 2 0) (by simp [za1,zbn])).2
  ·rw [r16.trans (D.p 16)];exact (hsl (16,.cst 116 none) (by simp [za1,zbn])).2
  ·rw [r17.trans (D.p 17)];exact (hsl (17,.cst 5 (some (lnv 5))) (by simp [za1,zbn])).2
  ·rw [r18.trans (D.p 18)];exact (hsl (18,.cst 6 (some (lnv 5))) (by simp [za1,zbn])).2
  ·rw [r19.trans (D.p 19)];exact (hsl (19,.cst 7 (some (lnv 5))) (by simp [za1,zbn])).2
theorem Tryz.zyL {ρ:Val} {w0:World} {K:Nat→Prop} {g:Gho} {l:List Sg} {sv:Value} {segs:AV} {g0:SB} {b0:Bool}
  (hn:(lnv 4).den ρ=l.length) (hnl:l.length<4000000000000000) (hv1:ρ.v 1=sv) (hsx: ∀j x,Dw.R ρ j segs x→x=sv) (hsv:SegV (fun _=>False) w0 sv l) (hR:l≠ []→ ∀R o' c',sv= .slice (some ⟨R,o',none⟩) l.length c'→ ¬K R) (hg0:g0.den ρ=b0) (hb3:ρ.b 3=(b0&&l.all tpIn)):
  zkT prog ρ w0 K g (zlk segs g0):=by
 have hge: ∀d∈(zlk segs g0).ends,d.gs=0:=fun d hd=>by
  simp only [zlk,List.mem_cons,List.not_mem_nil,or_false] at hd
  rcases hd with rfl|rfl<;>rfl
 cases hb:(b0&&l.all tpIn) with
 | true=>exact zna hn hnl hv1 hsx hsv hR hg0 hge (cnd:= .var 3) (by rw [hb];exact (zb7 _ _).trans (if_pos (by rw [zaA,hb3,hb])))
 | false=>exact zna hn hnl hv1 hsx hsv hR hg0 hge (cnd:= .lit true) (by rw [hb];exact (zb7 _ _).trans ((if_neg (by rw [zaA,hb3,hb];decide)).trans ((zb7 _ _).trans (if_pos rfl))))
theorem Tryz.zCI {ρ:Val} {w0:World} {K:Nat→Prop} {g:Gho} {l:List Sg} {sv:Value} {segs:AV}
  (hn:(lnv 4).den ρ=l.length) (hnl:l.length<4000000000000000) (hv1:ρ.v 1=sv) (hsx: ∀j x,Dw.R ρ j segs x→x=sv) (hsv:SegV (fun _=>False) w0 sv l) (hR:l≠ []→ ∀R o' c',sv= .slice (some ⟨R,o',none⟩) l.length c'→ ¬K R):
  zkT prog ρ w0 K g (ziP segs):=
 zna hn hnl hv1 hsx hsv hR (b0:=false) rfl (fun d hd=>by
  simp only [ziP,List.mem_singleton] at hd
  subst hd;rfl) (cnd:= .lit true) ((zb7 _ _).trans (if_pos rfl))
end Go.Proofs
end
