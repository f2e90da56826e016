/-
  Proved: laws on the way to 'PserveEndsProof' (texts PsS PsT PsU PsX PsY PtA0 PtA PtB PtC PtD PsV PsW PtE0 PtE PtF PtG PtH PtI PtJ PtK PtL PtM PtN PuA0 PuA PuB PuC PuD PuE PuF PuG PuH PuI PuI2 PuJ); no condition.
-/
import Derived.Test.YtfoggkodmjnmcaaGreatM4
import Derived.Deep.RegionWith
import Derived.Deep.RegionHeld3
set_option linter.unusedSimpArgs false
set_option linter.unusedVariables false
set_option maxHeartbeats 4000000
noncomputable section
namespace Go.Proofs
open Go.Dw Go.RowKit Go.Maps Go.Sort
theorem Tryz.zC9 (M:Nat) (w:World):(binOp .neq 117 (.map (some M)) (.map none)).run prog w= .ok (.bool true) w:=by
 rw [run_neq_map_nil w 117 3 122 (some M) underlying117]
 rfl
section
variable {A:Nat→Prop} {w:World} {S P L Bs B M N:Nat} {r:Tryz.Rg} {s:Tryz.PS} {g:Nat→Int}
set_option maxRecDepth 100000 in
theorem Tryz.zkd (h:PW A w S P L Bs B M N r s g):Calls prog 56 #[.pointer (some ⟨S,0,none⟩)] w fun e w'=>e= .returned (.bool true)∧w'=w:=by
 obtain ⟨sv,ho,hsv⟩:=h.obj
 have c1:=zb9 ho (i:=13) rfl
 have hq:=zC9 M
 clear ho
 go_enter func56,ntmps56
 go_wp2
 go_ret
 exact ⟨rfl,rfl⟩
set_option maxRecDepth 100000 in
theorem Tryz.zvy (h:PW A w S P L Bs B M N r s g):Calls prog 28 #[.pointer (some ⟨S,0,none⟩)] w fun e w'=>e= .returned (.int .i64 (if s.br then 4 else 0))∧w'=w:=by
  have hm:=zkd h
  obtain ⟨sv,ho,hsv⟩:=h.obj
  have c1:=zb9 ho (i:=23) rfl
  clear ho
  cases hb:s.br<;>rw [hb] at c1
  all_goals
    go_enter func28,ntmps28
    go_wp2_with (first
      | (go_at_call 56;refine hm.mono ?_;rintro e w' ⟨rfl,hw⟩;have hw:=hw.symm;subst hw)
      | go_in)
    go_ret
    exact ⟨rfl,rfl⟩
set_option maxRecDepth 100000 in
theorem Tryz.zro (h:PW A w S P L Bs B M N r s g):Calls prog 26 #[.pointer (some ⟨S,0,none⟩)] w fun e w'=>e= .returned (.bool (decide (s.ph≠0)))∧w'=w:=by
  have hm:=zkd h
  obtain ⟨sv,ho,hsv⟩:=h.obj
  have c1:=zb9 ho (i:=15) rfl
  clear ho
  by_cases h0:s.ph=0
  · rw [decide_eq_false (fun hh=>hh h0)]
    rw [h0] at c1
    go_enter func26,ntmps26
    go_wp2_with (first
      | (go_at_call 56;refine hm.mono ?_;rintro e w' ⟨rfl,hw⟩;have hw:=hw.symm;subst hw)
      | go_in)
    go_ret
    exact ⟨rfl,rfl⟩
  · rw [decide_eq_true h0]
    have hne:((s.ph:Int) !=0)=true:=by rw [bne_iff_ne];omega
    go_enter func26,ntmps26
    go_wp2_with (first
      | (go_at_call 56;refine hm.mono ?_;rintro e w' ⟨rfl,hw⟩;have hw:=hw.symm;subst hw)
      | go_in)
    go_ret
    exact ⟨rfl,rfl⟩
set_option maxRecDepth 100000 in
theorem Tryz.zlk (h:PW A w S P L Bs B M N r s g) (hnr:s.br=true∨s.ph≠0):Calls prog 55 #[.pointer (some ⟨S,0,none⟩)] w fun e w'=>e= .returned (.int .i64 (if s.br then 4 else 8))∧w'=w:=by
  have he:=zvy h
  have hi:=zro h
  cases hb:s.br with
  | true=>
    rw [hb,if_pos rfl] at he
    go_enter func55,ntmps55
    go_wp2_with (first
      | (go_at_call 28;refine he.mono ?_;rintro e w' ⟨rfl,hw⟩;have hw:=hw.symm;subst hw)
      | go_in)
    go_ret
    exact ⟨rfl,rfl⟩
  | false=>
    rw [hb,if_neg (by decide)] at he
    have h0:s.ph≠0:=hnr.resolve_left (by rw [hb];decide)
    rw [decide_eq_true h0] at hi
    go_enter func55,ntmps55
    go_wp2_with (first
      | (go_at_call 28;refine he.mono ?_;rintro e w' ⟨rfl,hw⟩;have hw:=hw.symm;subst hw)
      | (go_at_call 26;refine hi.mono ?_;rintro e w' ⟨rfl,hw⟩;have hw:=hw.symm;subst hw)
      | go_in)
    go_ret
    exact ⟨rfl,rfl⟩
set_option maxRecDepth 100000 in
theorem Tryz.zCU (h:PW A w S P L Bs B M N r s g) (hnr:s.br=true∨s.ph≠0):Calls prog 12 #[.pointer (some ⟨S,0,none⟩)] w fun e w'=>e= .returned (.int .i64 (if s.br then 4 else 8))∧w'=w:=by
  have he:=zlk h hnr
  cases hb:s.br<;>rw [hb] at he
  all_goals
    simp only [if_true,Bool.false_eq_true,if_false] at he
    go_enter func12,ntmps12
    go_wp2_with (first
      | (go_at_call 55;refine he.mono ?_;rintro e w' ⟨rfl,hw⟩;have hw:=hw.symm;subst hw)
      | go_in)
    go_ret
    exact ⟨rfl,rfl⟩
set_option maxRecDepth 100000 in
theorem Tryz.zGG (h:PW A w S P L Bs B M N r s g) (hnr:s.br=true∨s.ph≠0) (hd wr:Int):Calls prog 16 #[.pointer (some ⟨S,0,none⟩),.int .i64 hd,.int .u32 wr] w fun e w'=>e= .returned (.int .i64 (if s.br then 4 else 8))∧w'=w:=by
  have he:=zlk h hnr
  cases hb:s.br<;>rw [hb] at he
  all_goals
    simp only [if_true,Bool.false_eq_true,if_false] at he
    go_enter func16,ntmps16
    go_wp2_with (first
      | (go_at_call 55;refine he.mono ?_;rintro e w' ⟨rfl,hw⟩;have hw:=hw.symm;subst hw)
      | go_in)
    go_ret
    exact ⟨rfl,rfl⟩
theorem Tryz.PW.same (h:PW A w S P L Bs B M N r s g) {w':World} (hm:Dw.Mv (fun b=>b=S∨b=M) w w') (ho: ∃sv,Own w' S (s.row r P M sv)∧SegV A w' sv s.sg) (hM: ∃arr clock arr0 clock0,w'.heap[M]? =some (.map arr clock)∧w.heap[M]? =some (.map arr0 clock0)∧(zdp arr∧Born arr clock)∧ ∀k,zbf arr k=zbf arr0 k):PW A w' S P L Bs B M N r s g:=by
 have hmv:Dw.Mv (sK S M B) w w':=hm.mono fun b hb=>hb.imp_right .inl
 have hgm:=h.mem.kept (fun k hk hk'=>hm.block k hk (h.kmem k hk')) hm.size
 exact h.next hmv hgm ho (h.tk.same (h.kA hmv) hM) h.pb
theorem Tryz.zwA (h:PW A w S P L Bs B M N r s g) (hb:s.br=false) (hp:s.ph=0):
  Calls prog 27 #[.pointer (some ⟨S,0,none⟩)] w fun e w'=>e= .returned (.tuple #[.agg #[.int .i64 0,.int .i64 0,.int .i64 0],.int .i64 8])∧PW A w' S P L Bs B M N r s g∧Dw.Mv (sK S M B) w w':=by
 obtain ⟨sv,ho,hsv⟩:=h.obj
 have hd:=zbc h.rg h.pb (by rw [h.pb.ou.1];exact zbd h.tk.rng) [] [] (vp P) sv undef
 generalize prho r s [] [] (vp P) sv undef=ρ at*
 have hj2:jOf [(S,0),(M,0)] 2=some ⟨M,0,0,none⟩:=rfl
 have hj1:jOf [(S,0),(M,0)] 1=some ⟨S,0,0,none⟩:=rfl
 refine Calls.mono (zaF (ρ:=ρ) (K:=fun b=>b=S∨b=M) (g:=Gho.none) (bl:= [(S,0),(M,0)]) (vals:= [.pointer (some ⟨S,0,none⟩)]) mixed zwC zy4 (fun b hb=>h.kold b (hb.imp_right .inl))
  ⟨za1 ho (zb2 hd hb (by rw [hp];rfl) hsv.one hj2) (.inl rfl),zcc h.tk (.inr rfl),trivial⟩ h.apart zaK trivial (zab (zca hj1) RL.nil) (zae.2 trivial)) fun e w' hh=> ?_
 obtain ⟨_,j,he⟩:=zcg hh
 have hj1':=he.sub _ _ hj1
 have hj2':=he.sub _ _ hj2
 have lc1:=zag hj1'
 have lc2:=zag hj2'
 have hO:=(he.rows.1 _ hj1').2 (.inr (.inl rfl)) rfl
 have hM:=he.maps.1 _ hj2'
 simp only [AV.val,AV.valL,lc1,lc2,hd.n,hd.d,hd.v,hd.c,hd.nx,hd.us,hd.hd,hd.wr,hd.ou,hd.p,hd.sv,zat,zad,zaA,zbO,hd.op,hd.b0,hd.b1,hd.b2,hd.b3,hd.b4,hd.b5,hd.b6] at hO
 have hO':Own w' S (s.row r P M sv):=by
  unfold PS.row
  rw [hb,hp]
  exact hO
 have hkA: ∀k,k<w.heap.size→ ¬A k→w'.heap[k]? =w.heap[k]? :=fun k hk ha=>he.mv.block k hk (by rintro (rfl|rfl);exact ha h.aS;exact ha h.aM)
 exact ⟨he.ret,h.same he.mv ⟨_,hO',hsv.kept hkA⟩ hM,he.mv.mono fun b hb=>hb.imp_right .inl⟩
theorem Tryz.zo9 (h:PW A w S P L Bs B M N r s g) (hb:s.br=true):
  Calls prog 27 #[.pointer (some ⟨S,0,none⟩)] w fun e w'=>e= .returned (.tuple #[.agg #[.int .i64 0,.int .i64 0,.int .i64 0],.int .i64 4])∧PW A w' S P L Bs B M N r s g∧Dw.Mv (sK S M B) w w':=by
 obtain ⟨sv,ho,hsv⟩:=h.obj
 have hd:=zbc h.rg h.pb (by rw [h.pb.ou.1];exact zbd h.tk.rng) [0,0,0,0,0,0,0,0,0,0,s.ph] [] (vp P) sv undef
 have hph:(prho r s [0,0,0,0,0,0,0,0,0,0,s.ph] [] (vp P) sv undef).i 20=s.ph:=rfl
 generalize prho r s [0,0,0,0,0,0,0,0,0,0,s.ph] [] (vp P) sv undef=ρ at*
 have hj2:jOf [(S,0),(M,0)] 2=some ⟨M,0,0,none⟩:=rfl
 have hj1:jOf [(S,0),(M,0)] 1=some ⟨S,0,0,none⟩:=rfl
 have hrow:RL ρ (jOf [(S,0),(M,0)]) (zIU (.var 20) (.lit true)) (s.row r P M sv):=by
  refine zab (zaR hd.p rfl) (zab (zaq rfl) (zab (zac hd.n) (zab (zac hd.d) (zab (zac hd.v) (zab (zac hd.c) (zab (zaq hd.b0) (zab (zaq hd.b1) (zab (zaq rfl) (zab (zac hd.nx) (zab (zaq hd.b2) (zab (zac hd.us) (zab (zaq hd.b6) (zab (zJD hj2) (zab (zac hd.ou) (zab (zac hph)
   (zab (zac hd.op) (zab (zaq hd.b3) (zab (zac hd.hd) (zab (zaR hd.sv hsv.one) (zab (zac hd.wr) (zab (zaq hd.b4) (zab (zaq hd.b5) (zab (zaq ?_) RL.nil)))))))))))))))))))))))
  exact hb.symm
 refine Calls.mono (zaF (ρ:=ρ) (K:=fun b=>b=S∨b=M) (g:=Gho.none) (bl:= [(S,0),(M,0)]) (vals:= [.pointer (some ⟨S,0,none⟩)]) mixed zwE zy6 (fun b hb=>h.kold b (hb.imp_right .inl))
  ⟨za1 ho hrow (.inl rfl),zcc h.tk (.inr rfl),trivial⟩ h.apart zaK trivial (zab (zca hj1) RL.nil) (zae.2 trivial)) fun e w' hh=> ?_
 obtain ⟨_,j,he⟩:=zcg hh
 have hj1':=he.sub _ _ hj1
 have hj2':=he.sub _ _ hj2
 have lc1:=zag hj1'
 have lc2:=zag hj2'
 have hO:=(he.rows.1 _ hj1').2 (.inr (.inl rfl)) rfl
 have hM:=he.maps.1 _ hj2'
 simp only [AV.val,AV.valL,lc1,lc2,hd.n,hd.d,hd.v,hd.c,hd.nx,hd.us,hd.hd,hd.wr,hd.ou,hd.p,hd.sv,zat,zad,zaA,zbO,hd.op,hd.b0,hd.b1,hd.b2,hd.b3,hd.b4,hd.b5,hd.b6] at hO
 have hO':Own w' S (s.row r P M sv):=by
  rw [hph] at hO
  unfold PS.row
  rw [hb]
  exact hO
 have hkA: ∀k,k<w.heap.size→ ¬A k→w'.heap[k]? =w.heap[k]? :=fun k hk ha=>he.mv.block k hk (by rintro (rfl|rfl);exact ha h.aS;exact ha h.aM)
 exact ⟨he.ret,h.same he.mv ⟨_,hO',hsv.kept hkA⟩ hM,he.mv.mono fun b hb=>hb.imp_right .inl⟩
theorem Tryz.zzh (h:PW A w S P L Bs B M N r s g):
  Calls prog 12 #[.pointer (some ⟨S,0,none⟩)] w fun e w'=>e= .returned (.int .i64 (zbh s).1)∧PW A w' S P L Bs B M N r (zbh s).2 g∧Dw.Mv (sK S M B) w w':=by
 by_cases hno:s.br=true∨s.ph≠0
 ·have e:zbh s=((if s.br=true then 4 else 8),s):=by
   unfold zbh
   by_cases hb:s.br=true
   ·rw [if_pos hb,if_pos hb]
   ·rw [if_neg hb,if_neg hb,if_pos (hno.resolve_left hb)]
  rw [e]
  exact (zCU h hno).mono fun en w' hh=>⟨hh.1,hh.2▸h,hh.2▸Dw.Mv.refl _ _⟩
 have hb:s.br=false:=by
  cases hb:s.br with
  | false=>rfl
  | true=>exact absurd (.inl hb) hno
 have hp:s.ph=0:=Decidable.byContradiction fun hp=>hno (.inr hp)
 have e:zbh s=(0,({ s with op:=3,nn:=false,hd:=0,sg:= [],wr:=0,it:=false }:PS).goto 1):=by
  unfold zbh;rw [if_neg (by rw [hb];decide),if_neg (fun hh=>hh hp)]
 rw [e]
 obtain ⟨sv,ho,hsv⟩:=h.obj
 have hd:=zbc h.rg h.pb (by rw [h.pb.ou.1];exact zbd h.tk.rng) [] [] (vp P) sv undef
 generalize prho r s [] [] (vp P) sv undef=ρ at*
 have hj2:jOf [(S,0),(M,0)] 2=some ⟨M,0,0,none⟩:=rfl
 have hj1:jOf [(S,0),(M,0)] 1=some ⟨S,0,0,none⟩:=rfl
 refine Calls.mono (zaF (ρ:=ρ) (K:=fun b=>b=S∨b=M) (g:=Gho.none) (bl:= [(S,0),(M,0)]) (vals:= [.pointer (some ⟨S,0,none⟩)]) mixed zwH zzj (fun b hb=>h.kold b (hb.imp_right .inl))
  ⟨za1 ho (zb2 hd hb (by rw [hp];rfl) hsv.one hj2) (.inl rfl),zcc h.tk (.inr rfl),trivial⟩ h.apart zaK trivial (zab (zca hj1) RL.nil) (zae.2 trivial)) fun e w' hh=> ?_
 obtain ⟨_,j,he⟩:=zcg hh
 have hj1':=he.sub _ _ hj1
 have hj2':=he.sub _ _ hj2
 have lc1:=zag hj1'
 have lc2:=zag hj2'
 have hO:=(he.rows.1 _ hj1').2 (.inr (.inl rfl)) rfl
 have hM:=he.maps.1 _ hj2'
 simp only [AV.val,AV.valL,lc1,lc2,hd.n,hd.d,hd.v,hd.c,hd.nx,hd.us,hd.hd,hd.wr,hd.ou,hd.p,hd.sv,zat,zad,zaA,zbO,hd.op,hd.b0,hd.b1,hd.b2,hd.b3,hd.b4,hd.b5,hd.b6] at hO
 have hmv:Dw.Mv (sK S M B) w w':=he.mv.mono fun b hb=>hb.imp_right .inl
 have hgm:=h.mem.kept (fun k hk hk'=>he.mv.block k hk (h.kmem k hk')) he.mv.size
 exact ⟨he.ret,h.next hmv hgm ⟨_,hO,SegV.none⟩ (h.tk.same (h.kA hmv) hM) ⟨h.pb.nx,h.pb.us,h.pb.ou,z16,z32,by show 1≤11;decide,fun h7=>absurd h7 (by show¬7≤1;decide)⟩,hmv⟩
theorem Tryz.zCM (h:PW A w S P L Bs B M N r s g) (head wr:Int) (hw:0≤wr∧wr<4294967296) (hlen: ∀e∈s.tk,e.2.sg.length≤1000000):
  Calls prog 16 #[.pointer (some ⟨S,0,none⟩),.int .i64 head,.int .u32 wr] w fun e w'=>e= .returned (.int .i64 (zci s head wr).1)∧PW A w' S P L Bs B M N r (zci s head wr).2 g∧Dw.Mv (sK S M B) w w':=by
 by_cases hno:s.br=true∨s.ph≠0
 ·have e:zci s head wr=((if s.br=true then 4 else 8),s):=by
   unfold zci
   by_cases hb:s.br=true
   ·rw [if_pos hb,if_pos hb]
   ·rw [if_neg hb,if_neg hb,if_pos (hno.resolve_left hb)]
  rw [e]
  exact (zGG h hno head wr).mono fun en w' hh=>⟨hh.1,hh.2▸h,hh.2▸Dw.Mv.refl _ _⟩
 have hb:s.br=false:=by
  cases hb:s.br with
  | false=>rfl
  | true=>exact absurd (.inl hb) hno
 have hp:s.ph=0:=Decidable.byContradiction fun hp=>hno (.inr hp)
 obtain ⟨sv,ho,hsv⟩:=h.obj
 have hj2:jOf [(S,0),(M,0)] 2=some ⟨M,0,0,none⟩:=rfl
 have hj1:jOf [(S,0),(M,0)] 1=some ⟨S,0,0,none⟩:=rfl
 obtain ⟨arr1,clock1,g1,g2,g3⟩:=h.tk.map
 have key: ∀(tv:Value) (ct t1 t2:Int),(0≤ct∧ct≤16)→(0≤t1∧t1<18446744073709551616)→(0≤t2∧t2<18446744073709551616)→ ∃ρ:Val,PDen ρ r s (vp P) sv∧ρ.v 2=tv∧(lnv 19).den ρ=ct∧ρ.i 20=head∧(u32v 21).den ρ=wr∧(u64v 22).den ρ=t1∧(u64v 23).den ρ=t2:=fun tv ct t1 t2 b0 b1 b2=>
  ⟨prho r s [0,0,0,0,0,0,0,0,0,ct,head,wr,t1,t2] [] (vp P) sv tv,zbc h.rg h.pb (by rw [h.pb.ou.1];exact zbd h.tk.rng) _ _ _ _ _,rfl,zaw (by show 0≤ct;omega) (by show ct<_;omega),rfl,zbw hw.1 hw.2,zaJ b1.1 b1.2,zaJ b2.1 b2.2⟩
 cases htk:zbQ head s.tk with
 | none=>
  have e:zci s head wr=(6,s):=by unfold zci;rw [if_neg (by rw [hb];decide),if_neg (fun hh=>hh hp),htk]
  rw [e]
  obtain ⟨ρ,hd,_,_,h20,h21,_,_⟩:=key undef 0 0 0 (by decide) (by decide) (by decide)
  refine Calls.mono (zaF (ρ:=ρ) (K:=fun b=>b=S∨b=M) (g:=Gho.none) (bl:= [(S,0),(M,0)]) (vals:= [.pointer (some ⟨S,0,none⟩),.int .i64 head,.int .u32 wr]) mixed zzd zCP (fun b hb=>h.kold b (hb.imp_right .inl))
   ⟨za1 ho (zb2 hd hb (by rw [hp];rfl) hsv.one hj2) (.inl rfl),⟨.inr rfl,rfl,arr1,clock1,[(head,none)],g1,g2,⟨head,none,[],rfl,zac h20,rfl,rfl⟩,fun k o hm=> ?_⟩,trivial⟩ h.apart zaK trivial (zab (zca hj1) (zab (zac h20) (zab (zac h21) RL.nil))) (zae.2 trivial)) fun e w' hh=> ?_
  ·simp only [List.mem_cons,Prod.mk.injEq,List.not_mem_nil,or_false] at hm
   obtain ⟨rfl,rfl⟩:=hm
   exact (g3 _).1 htk
  ·obtain ⟨_,j,he⟩:=zcg hh
   have hj1':=he.sub _ _ hj1
   have hj2':=he.sub _ _ hj2
   have lc1:=zag hj1'
   have lc2:=zag hj2'
   have hO:=(he.rows.1 _ hj1').2 (.inr (.inl rfl)) rfl
   have hM:=he.maps.1 _ hj2'
   simp only [AV.val,AV.valL,lc1,lc2,hd.n,hd.d,hd.v,hd.c,hd.nx,hd.us,hd.hd,hd.wr,hd.ou,hd.p,hd.sv,zat,zad,zaA,zbO,hd.op,hd.b0,hd.b1,hd.b2,hd.b3,hd.b4,hd.b5,hd.b6] at hO
   have hO':Own w' S (s.row r P M sv):=by
    unfold PS.row
    rw [hb,hp]
    exact hO
   have hkA: ∀k,k<w.heap.size→ ¬A k→w'.heap[k]? =w.heap[k]? :=fun k hk ha=>he.mv.block k hk (by rintro (rfl|rfl);exact ha h.aS;exact ha h.aM)
   exact ⟨he.ret,h.same he.mv ⟨_,hO',hsv.kept hkA⟩ hM,he.mv.mono fun b hb=>hb.imp_right .inl⟩
 | some t=>
  obtain ⟨tv,hv1,hv2⟩:=(g3 head).2 t htk
  have hmem:=zcs htk
  have hll:t.sg.length≤1000000:=hlen _ hmem
  have hrng:=h.tk.rng _ hmem
  have hn16:=h.rg.bnd
  have hhd:0≤head∧head<r.n:=hrng.1
  have hct:1≤t.ct∧t.ct≤r.n:=hrng.2
  obtain ⟨sa,c,rfl,hok,hr⟩:=hv2
  obtain ⟨b1,b2,b3,b4⟩:=zoy hok
  have hv2:SegV A w (.slice sa t.sg.length c) t.sg:=⟨sa,c,rfl,hok,hr⟩
  obtain ⟨ρ,hd,hv,h19,h20,h21,h22,h23⟩:=key (.slice sa t.sg.length c) t.ct (zbW t.sg).1 (zbW t.sg).2 ⟨by omega,by omega⟩ ⟨b1,b2⟩ ⟨b3,b4⟩
  have hG:(segG sa t.sg).G 0 (jOf [(S,0),(M,0)]) w:=by
   rcases hr with h0|⟨R,o,e,hA,hr⟩
   ·exact ⟨fun _=>False,fun _ h=>h.elim,.inl h0⟩
   ·by_cases h0:t.sg= []
    ·exact ⟨fun _=>False,fun _ h=>h.elim,.inl h0⟩
    ·refine ⟨fun b=>b=R,fun b hb=>⟨by rw [hb];exact zdu hr h0,fun hm=> ?_⟩,.inr ⟨R,o,e,rfl,hr⟩⟩
     have:=zde hm
     simp only [List.map_cons,List.map_nil,List.mem_cons,List.not_mem_nil,or_false] at this
     rw [hb] at this
     rcases this with e|e
     ·exact hA (e▸h.aS)
     ·exact hA (e▸h.aM)
  refine Calls.mono (zaF (ρ:=ρ) (K:=fun b=>b=S∨b=M) (g:=segG sa t.sg) (bl:= [(S,0),(M,0)]) (vals:= [.pointer (some ⟨S,0,none⟩),.int .i64 head,.int .u32 wr]) mixed zzb zCN (fun b hb=>h.kold b (hb.imp_right .inl))
   ⟨za1 ho (zb2 hd hb (by rw [hp];rfl) hsv.one hj2) (.inl rfl),⟨.inr rfl,rfl,arr1,clock1,[(head,some (.agg #[.int .i64 head,.int .i64 t.ct,.slice sa t.sg.length c]))],g1,g2,⟨head,some (.agg #[.int .i64 head,.int .i64 t.ct,.slice sa t.sg.length c]),[],rfl,zac h20,⟨_,rfl,zbj (zab (zac h20) (zab (zac h19) (zab (zaR hv rfl) RL.nil)))⟩,rfl⟩,fun k o hm=> ?_⟩,trivial⟩ h.apart hG
   ⟨zay (Dw.enters_of (by kernel_rfl)) (by decide) [.slice sa t.sg.length c] (.tuple #[.int .u64 (zbW t.sg).1,.int .u64 (zbW t.sg).2]) (fun j=>zab (zaR hv rfl) RL.nil) (fun j=>zc5 (zab (zac h22) (zab (zac h23) RL.nil))) fun w F q hf=>zoz (SegF.v hf hok c) (by omega),trivial⟩ (zab (zca hj1) (zab (zac h20) (zab (zac h21) RL.nil))) (zae.2 trivial)) fun e w' hh=> ?_
  ·simp only [List.mem_cons,Prod.mk.injEq,List.not_mem_nil,or_false] at hm
   obtain ⟨rfl,rfl⟩:=hm
   exact hv1
  ·obtain ⟨p,hpm,hto,lf,hlf,j,he⟩:=hh
   unfold zuh at hpm
   simp only [List.mem_cons,List.not_mem_nil,or_false] at hpm
   have hj1':=he.sub _ _ hj1
   have hj2':=he.sub _ _ hj2
   have lc1:=zag hj1'
   have lc2:=zag hj2'
   have hmv:Dw.Mv (sK S M B) w w':=he.mv.mono fun b hb=>hb.imp_right .inl
   have hgm:=h.mem.kept (fun k hk hk'=>he.mv.block k hk (h.kmem k hk')) he.mv.size
   have hkA:=h.kA hmv
   rcases hpm with rfl|rfl
   all_goals
    simp only [zaa,zae,zaY,h21,h23,decide_eq_true_eq,decide_eq_false_iff_not,and_true] at hto
    cases hlf
    have hO:=(he.rows.1 _ hj1').2 (.inr (.inl rfl)) rfl
    have hM:=he.maps.1 _ hj2'
    simp only [AV.val,AV.valL,lc1,lc2,hd.n,hd.d,hd.v,hd.c,hd.nx,hd.us,hd.hd,hd.wr,hd.ou,hd.p,hd.sv,zat,zad,zaA,zbO,hd.op,hd.b0,hd.b1,hd.b2,hd.b3,hd.b4,hd.b5,hd.b6,h20,h21] at hO
   ·have e:zci s head wr=(2,s):=by unfold zci;rw [if_neg (by rw [hb];decide),if_neg (fun hh=>hh hp),htk];simp only;rw [if_pos (by omega)]
    rw [e]
    have hO':Own w' S (s.row r P M sv):=by
     unfold PS.row
     rw [hb,hp]
     exact hO
    exact ⟨he.ret,h.same he.mv ⟨_,hO',hsv.kept hkA⟩ hM,hmv⟩
   ·have e:zci s head wr=(0,({ s with op:=4,nn:=false,hd:=head,sg:= [],wr:=wr,it:=false }:PS).goto 7):=by unfold zci;rw [if_neg (by rw [hb];decide),if_neg (fun hh=>hh hp),htk];simp only;rw [if_neg (by omega)]
    rw [e]
    exact ⟨he.ret,h.next hmv hgm ⟨_,hO,SegV.none⟩ (h.tk.same hkA hM) ⟨h.pb.nx,h.pb.us,h.pb.ou,⟨hhd.1,by show head<65536;omega⟩,hw,by show 7≤11;decide,fun _=>⟨t,htk⟩⟩,hmv⟩
theorem Tryz.zy2 (h:PW A w S P L Bs B M N r s g):
  Calls prog 27 #[.pointer (some ⟨S,0,none⟩)] w fun e w'=>e= .returned (.tuple #[(zba N r s g).1,.int .i64 (zba N r s g).2.1])∧PW A w' S P L Bs B M N r (zba N r s g).2.2.1 (zba N r s g).2.2.2∧Dw.Mv (sK S M B) w w':=by
 cases hb:s.br with
 | true=>
  have e:zba N r s g=(.agg #[.int .i64 0,.int .i64 0,.int .i64 0],4,s,g):=by unfold zba;rw [if_pos hb]
  rw [e];exact zo9 h hb
 | false=>
  have e0: ¬s.br=true:=by rw [hb];decide
  by_cases h0:s.ph=0
  ·have e:zba N r s g=(.agg #[.int .i64 0,.int .i64 0,.int .i64 0],8,s,g):=by unfold zba;rw [if_neg e0,if_pos h0]
   rw [e];exact zwA h hb h0
  have e:zba N r s g=zdc N r s g s.ph:=by unfold zba;rw [if_neg e0,if_neg h0]
  rw [e]
  have h11:=h.pb.ph
  have hph:s.ph=1∨s.ph=2∨s.ph=3∨s.ph=4∨s.ph=5∨s.ph=6∨s.ph=7∨s.ph=8∨s.ph=9∨s.ph=10∨s.ph=11:=by omega
  rcases hph with hp|hp|hp|hp|hp|hp|hp|hp|hp|hp|hp
  ·rw [hp];exact zzF h hb hp
  ·rw [hp];exact zw0 h hb hp
  ·rw [hp];exact zsu h hb hp
  ·rw [hp];exact zxb h hb hp
  ·rw [hp];exact zst h hb hp
  ·rw [hp];exact zw4 h hb hp
  ·rw [hp];exact zp6 h hb hp
  ·rw [hp];exact zsq h hb hp
  ·rw [hp]
   unfold zdc
   simp only
   by_cases hw:0<s.wr
   ·rw [if_pos hw];exact zsk h hb hp hw
   ·rw [if_neg hw];exact zsn h hb hp hw
  ·rw [hp];exact zp0 h hb hp
  ·rw [hp]
   obtain ⟨t,ht⟩:=h.pb.ret (by omega)
   unfold zdc
   simp only [ht]
   by_cases w0:zap g r.v.toNat 4/65536%4=0
   ·exact zwz h hb hp ht w0
   ·by_cases w2:zap g r.v.toNat 4/65536%4=2
    ·by_cases w3:r.n≤zap g r.v.toNat 4%32768
     ·exact zr5 h hb hp ht w0 w2 w3
     ·exact zr8 h hb hp ht w0 w2 (by omega)
    ·exact zwu h hb hp ht w0 w2
end
end Go.Proofs
namespace Go.Proofs
open Go.Dw Go.RowKit Go.Maps Go.Sort Go.Shelf
theorem Tryz.zzC {A:Nat→Prop} {w:World} {M:Nat} {n:Int} {tk:List (Int×PTk)} (h:PtW A w M n tk) {arr:Array MapEntry} {clock:Nat} (hb:w.heap[M]? =some (.map arr clock)):
  MapKept.Stamped arr clock∧ ∃ks:List Int,arr.toList.map (·.key)=ks.map encZ∧ks.Perm (tk.map (·.1)):=by
 obtain ⟨arr',clock',h1,⟨h2,h3⟩,h4⟩:=h.map
 rw [hb] at h1;cases h1
 obtain ⟨ks,g1,g2⟩:=zqO h2.keys
 have hnd:ks.Nodup:=by
  have:(ks.map encZ).Nodup:=by
   rw [←g1,List.Nodup,List.pairwise_map]
   exact h2.once
  exact (List.pairwise_map.1 this).imp fun h e=>h (congrArg encZ e)
 refine ⟨(MapKept.stamped_iff _ _).2 ⟨h3.1,h3.2,h2.once⟩,ks,g1,(List.perm_ext_iff_of_nodup hnd h.keys).2 fun x=> ?_⟩
 rw [g2]
 constructor
 ·rintro ⟨e,he,hk⟩
  have hv:=zcI h2 he hk
  cases hg:zbQ x tk with
  | none=>rw [(h4 x).1 hg] at hv;cases hv
  | some l=>exact List.mem_map.2 ⟨_,zcs hg,rfl⟩
 ·intro hx
  cases hg:zbQ x tk with
  | none=>exact absurd hx (zdX.1 hg)
  | some l=>
   obtain ⟨v,hv,_⟩:=(h4 x).2 l hg
   obtain ⟨e,he,hk,_⟩:=zgG hv
   exact ⟨e,he,hk⟩
set_option maxRecDepth 100000 in
theorem Tryz.zwN (M:Nat) (w:World):
  Calls prog 65 #[.map (some M)] w fun e w'=> ∃t,e= .returned (.func (.func 90) #[] #[.pointer (some ⟨w.heap.size,0,none⟩)])∧w'=w.alloc (.cells #[.map (some M)] t):=by
 have hmf: ∀(fn:Fn) (first cap:Array Value) (w:World),(Instr.makeFunc fn first cap).run prog w= .ok (.func fn first cap) w:=fun _ _ _ _=>rfl
 go_enter func65,ntmps65
 go_wp2
 go_ret
 exact ⟨_,rfl,rfl⟩
def Tryz.zbt (s:PS):List Int:=(s.tk.map (·.1)).mergeSort leI
set_option maxRecDepth 100000 in
theorem Tryz.zmx {A:Nat→Prop} {w:World} {S P L Bs B M N:Nat} {r:Rg} {s:PS} {g:Nat→Int} (h:PW A w S P L Bs B M N r s g) (hl:s.tk.length≤1000000):
    Calls prog 21 #[.pointer (some ⟨S,0,none⟩)] w fun e w'=> ∃(v:Value) (t:TypeId),e= .returned v∧w'.ownsRow w.heap.size t 1 v s.tk.length ((zbt s).map encZ)∧Below w.heap.size w w':=by
  have hm:=zkd h
  obtain ⟨sv,ho,hsv⟩:=h.obj
  have c1:=zb9 ho (i:=13) rfl
  clear ho hsv
  have hn16:=h.rg.bnd
  obtain ⟨arr,clock,hb,_⟩:=h.tk.map
  obtain ⟨hst,ks,hk1,hk2⟩:=zzC h.tk hb
  have hlt:=h.ltM
  have hS: ∀t,Calls prog 64 #[.func (.func 90) #[] #[.pointer (some ⟨w.heap.size,0,none⟩)]] (w.alloc (.cells #[.map (some M)] t)) fun e w'=> ∃v ss t',e= .returned v∧ss.Perm ks∧w'.ownsRow (w.alloc (.cells #[.map (some M)] t)).heap.size t' 1 v ss.length ((ss.mergeSort leI).map encZ)∧(v= .slice none 0 0↔ss= [])∧RowKit.Below (w.alloc (.cells #[.map (some M)] t)).heap.size (w.alloc (.cells #[.map (some M)] t)) w':=fun t=>
    sortedOk90.sorted _ w.heap.size M arr clock ks (by simp) (by rw [cell_of_row _ _ 0 _ _ (0,0) (heap_alloc_last w _)];rfl) (by rw [←hb];exact MapKept.heap_alloc w _|>.2 _ hlt) hst hk1
      (fun x hx=>by
        obtain ⟨e,he,rfl⟩:=List.mem_map.1 (hk2.subset hx)
        have this1:0≤e.1:=(h.tk.rng e he).1.1
        have this2:e.1<r.n:=(h.tk.rng e he).1.2
        generalize e.1=x at this1 this2
        have e1:IntKind.i64.min= -9223372036854775808:=by decide
        have e2:IntKind.i64.max=9223372036854775807:=by decide
        simp only [Lit.wf,e1,e2,Bool.and_eq_true,decide_eq_true_eq]
        omega)
      (by rw [hk2.length_eq,List.length_map];exact hl)
  go_enter func21,ntmps21
  go_wp2_with (first
    | (go_at_call 56;refine hm.mono ?_;rintro e w' ⟨rfl,hw⟩;have hw:=hw.symm;subst hw)
    | (go_at_call 65;refine (zwN M _).mono ?_;rintro e w' ⟨t,rfl,hw⟩;subst hw)
    | (go_at_call 64;refine (hS _).mono ?_;rintro e w' ⟨v,ss,t,rfl,hss,hrow,_,hb⟩)
    | go_in)
  go_ret
  have hss:=hss.trans hk2
  rw [hss.length_eq,List.length_map,mergeSort_of_perm_i hss] at hrow
  exact ⟨v,t,rfl,zCu hrow (by simp),((Below.refl _ w).alloc (Nat.le_refl _) _).trans (hb.mono (by simp))⟩
end Go.Proofs
namespace Go.Proofs
open Go.RowKit Go.Maps Go.Sort
def Tryz.zcT (n:Nat):Rg:=⟨n,4096,4096+16*n,4100+16*n⟩
theorem Tryz.zwG {n:Nat} (h:1≤n∧n≤16):PgOk (zcT n):=⟨⟨by show (1:Int)≤n;omega,by show (n:Int)≤16;omega⟩,rfl,rfl,rfl⟩
def Tryz.zy9 (n:Nat):Dw.AV:= .agg [.bool (.lit true),.int .i64 (.lit n),.int .u64 (.lit 4096),.int .u64 (.lit (4096+16*n)),.int .u64 (.lit (4100+16*n))]
def Tryz.sizes16:List Nat:= [1,2,3,4,5,6,7,8,9,10,11,12,13,14,15,16]
theorem Tryz.zEq {n:Nat} (h:1≤n∧n≤16):n∈sizes16:=by unfold sizes16;simp;omega
noncomputable def Tryz.zDq (n:Nat):Bool:=(Dw.ev prog Dw.zsF 100000 (.call 29 [.bool (.lit true),.int .i64 (.lit n),.int .u64 (.lit 4096)] Dw.heap0 (Dw.isAV (.tup [zy9 n,.int .u64 (.lit (8+16*n)),.int .i64 (.lit 0)])))).good
theorem Tryz.zse:(sizes16.all fun n=>zDq n)=true:=by kernel_rfl
theorem Tryz.zwJ (n:Nat) (hn:1≤n∧n≤16) (w:World):
  Calls prog 29 #[.bool true,.int .i64 n,.int .u64 4096] w fun e w'=>e= .returned (.tuple #[(zcT n).pval,.int .u64 (8+16*n),.int .i64 0])∧Below w.heap.size w w':=by
 have h1:=List.all_eq_true.1 zse n (zEq hn)
 exact Dw.zm5 (by kernel_rfl) rfl (Dw.znT (Dw.zkJ (Dw.zkJ Dw.RL.nil))) h1 w
noncomputable def Tryz.zDr (n:Nat):Bool:=(Dw.ev prog Dw.zsF 100000 (.call 23 [zy9 n] Dw.heap0 (Dw.isAV (.tup [.int .u64 (.lit (16*n)),.int .u64 (.lit 4),.int .u64 (.lit 4)])))).good
theorem Tryz.zsf:(sizes16.all fun n=>zDr n)=true:=by kernel_rfl
theorem Tryz.zwK (n:Nat) (hn:1≤n∧n≤16) (w:World):
  Calls prog 23 #[(zcT n).pval] w fun e w'=>e= .returned (.tuple #[.int .u64 (16*n),.int .u64 4,.int .u64 4])∧Below w.heap.size w w':=by
 have h1:=List.all_eq_true.1 zsf n (zEq hn)
 exact Dw.zm5 (by kernel_rfl) rfl (Dw.zJE (Dw.znT (Dw.zkJ (Dw.zkJ (Dw.zkJ (Dw.zkJ Dw.RL.nil))))) Dw.RL.nil) h1 w
noncomputable def Tryz.zDp (f:Nat):Bool:=(Dw.ev prog Dw.zsF 100000 (.call f [] Dw.heap0 (Dw.isAV (.agg [.int .i64 (.lit 0),.bool (.lit true)])))).good
theorem Tryz.zsa:([76,9].all fun f=>zDp f)=true:=by kernel_rfl
theorem Tryz.zlG (f:Nat) (hf:f=76∨f=9) (w:World):
  Calls prog f #[] w fun e w'=>e= .returned (.agg #[.int .i64 0,.bool true])∧Below w.heap.size w w':=by
 have h1:=List.all_eq_true.1 zsa f (by simpa using hf)
 exact Dw.zm5 (by kernel_rfl) rfl Dw.RL.nil h1 w
end Go.Proofs
namespace Go.Proofs
open Go.Dw Go.RowKit
def Tryz.PS.fresh (ev tb:Bool):PS:=⟨ev,tb,0,true,0,true,[],0,0,0,false,0,[],0,false,false,false⟩
theorem Tryz.zm7 {w wx:World} {r:Rg} {ev tb:Bool} {P M:Nat} {T:TypeId} (hb:Below w.heap.size w wx) (hm:wx.heap[M]? =some (.map #[] 0)):
  Own (wx.alloc (.cells (((PS.fresh ev tb).row r P M (.slice none 0 0)).toArray) T)) wx.heap.size ((PS.fresh ev tb).row r P M (.slice none 0 0))∧(wx.alloc (.cells (((PS.fresh ev tb).row r P M (.slice none 0 0)).toArray) T)).heap[M]? =some (.map #[] 0)∧
   Below w.heap.size w (wx.alloc (.cells (((PS.fresh ev tb).row r P M (.slice none 0 0)).toArray) T)):=by
 have hlt:M<wx.heap.size:=by
  rcases Nat.lt_or_ge M wx.heap.size with h|h
  ·exact h
  ·rw [Array.getElem?_eq_none h] at hm;cases hm
 exact ⟨⟨_,T,heap_alloc_last wx _,fun i y h=>by rw [List.getElem?_toArray];exact h⟩,((MapKept.heap_alloc _ _).2 _ hlt).trans hm,hb.alloc hb.size _⟩
theorem Tryz.za9 {w w':World} {p:Addr} {v:Value} (hb:Below w.heap.size w w') (h:w.cell? p=some v):w'.cell? p=some v:=(hb.cell (World.block_lt_of_cell? _ _ h)).trans h
set_option maxRecDepth 100000 in
theorem Tryz.zDu {w:World} {P L Bs B N:Nat} {g:Nat→Int} {r:Rg} {ev tb:Bool} (st:GM w P L Bs B N g) (hr:PgOk r):
    Calls prog 32 #[.pointer (some ⟨P,0,none⟩),r.pval,.agg #[.bool ev,.bool tb,.bool true]] w fun e w'=> ∃S M,e= .returned (.tuple #[.pointer (some ⟨S,0,none⟩),.int .i64 0])∧w.heap.size≤S∧w.heap.size≤M∧S≠M∧
      Own w' S ((PS.fresh ev tb).row r P M (.slice none 0 0))∧w'.heap[M]? =some (.map #[] 0)∧Below w.heap.size w w':=by
  have hst2: ∀x y tx ty,GM ((w.alloc (.cells x tx)).alloc (.cells y ty)) P L Bs B N g:=fun x y tx ty=>(st.below ((Below.refl _ w).alloc (Nat.le_refl _) _)).below ((Below.refl _ _).alloc (Nat.le_refl _) _)
  have hck:=zmg hr
  have hps:=zlG 76 (.inl rfl)
  have hmk: ∀(t:TypeId) (w:World),(Instr.makeMap t none).run prog w= .ok (.map (some w.heap.size)) (w.alloc (.map #[] 0)):=fun _ _=>rfl
  unfold Rg.pval at*
  go_enter func32,ntmps32
  go_wp2_with (first
    | (go_at_call 17;refine (zoH P L Bs B N 0 g _ (hst2 _ _ _ _)).mono ?_;rintro e w' ⟨rfl,hw⟩;have hw:=hw.symm;subst hw)
    | (go_at_call 75;refine (hck _).mono ?_;rintro e w' ⟨rfl,hb⟩
       have ka:=((Cl.new w _ _).alloc _).below hb (by simp<;>omega)
       have kb:=(Cl.new (w.alloc _) _ _).below hb (by simp<;>omega)
       rw [zbm] at kb
       have x0:=ka.cell 0 _ rfl;have x1:=ka.cell 1 _ rfl;have x2:=ka.cell 2 _ rfl;have x3:=ka.cell 3 _ rfl;have x4:=ka.cell 4 _ rfl
       have y0:=kb.cell 0 _ rfl;have y1:=kb.cell 1 _ rfl;have y2:=kb.cell 2 _ rfl)
    | go_in)
  go_region_held3 (fun w'=>w'.cell? ⟨w.heap.size,0,none⟩=some (.bool true)∧w'.cell? ⟨w.heap.size,1,none⟩=some (.int .i64 r.n)∧w'.cell? ⟨w.heap.size,2,none⟩=some (.int .u64 r.d)∧w'.cell? ⟨w.heap.size,3,none⟩=some (.int .u64 r.v)∧w'.cell? ⟨w.heap.size,4,none⟩=some (.int .u64 r.c)∧w'.cell? ⟨w.heap.size+1,0,none⟩=some (.bool ev)∧w'.cell? ⟨w.heap.size+1,1,none⟩=some (.bool tb)∧w'.cell? ⟨w.heap.size+1,2,none⟩=some (.bool true)) (go_keep)
    (first
      | (go_at_call 76;have hz:=hb5;refine (hps _).mono ?_;rintro e w6 ⟨rfl,hb6⟩;have t0:w6.cell? ⟨w.heap.size,0,none⟩=some (.bool true):=za9 hb6 (by go_keep);have t1:w6.cell? ⟨w.heap.size,1,none⟩=some (.int .i64 r.n):=za9 hb6 (by go_keep);have t2:w6.cell? ⟨w.heap.size,2,none⟩=some (.int .u64 r.d):=za9 hb6 (by go_keep);have t3:w6.cell? ⟨w.heap.size,3,none⟩=some (.int .u64 r.v):=za9 hb6 (by go_keep);have t4:w6.cell? ⟨w.heap.size,4,none⟩=some (.int .u64 r.c):=za9 hb6 (by go_keep);have t5:w6.cell? ⟨w.heap.size+1,0,none⟩=some (.bool ev):=za9 hb6 (by go_keep);have t6:w6.cell? ⟨w.heap.size+1,1,none⟩=some (.bool tb):=za9 hb6 (by go_keep);have t7:w6.cell? ⟨w.heap.size+1,2,none⟩=some (.bool true):=za9 hb6 (by go_keep))
      | (go_at_call 76;refine (hps _).mono ?_;rintro e w5 ⟨rfl,hb5⟩;have z0:w5.cell? ⟨w.heap.size,0,none⟩=some (.bool true):=za9 hb5 (by go_keep);have z1:w5.cell? ⟨w.heap.size,1,none⟩=some (.int .i64 r.n):=za9 hb5 (by go_keep);have z2:w5.cell? ⟨w.heap.size,2,none⟩=some (.int .u64 r.d):=za9 hb5 (by go_keep);have z3:w5.cell? ⟨w.heap.size,3,none⟩=some (.int .u64 r.v):=za9 hb5 (by go_keep);have z4:w5.cell? ⟨w.heap.size,4,none⟩=some (.int .u64 r.c):=za9 hb5 (by go_keep);have z5:w5.cell? ⟨w.heap.size+1,0,none⟩=some (.bool ev):=za9 hb5 (by go_keep);have z6:w5.cell? ⟨w.heap.size+1,1,none⟩=some (.bool tb):=za9 hb5 (by go_keep);have z7:w5.cell? ⟨w.heap.size+1,2,none⟩=some (.bool true):=za9 hb5 (by go_keep)))
  all_goals (go_wp2_with fail;go_ret2)
  all_goals
    have hW:Below w.heap.size w w':=(((Below.refl _ w).alloc (Nat.le_refl _) _).alloc (by simp) _).trans (hb.mono (by simp<;>omega))
    have hD:Below w.heap.size w w'.drew:=hW.drew
    have hs1:=hW.size
    have hd1:w'.drew.heap.size=w'.heap.size:=rfl
    have hs5:=hb5.size
    have hs6:=hb6.size
    try simp only [zbm] at hs5 hs6
  · have h6:Below w.heap.size w w6:=(hD.trans (hb5.mono (by omega))).trans (hb6.mono (by omega))
    have hm:=heap_alloc_last w6 (.map #[] 0)
    obtain ⟨f1,f2,f3⟩:=zm7 (r:=r) (ev:=ev) (tb:=tb) (P:=P) (T:=119) (h6.alloc h6.size (.map #[] 0)) hm
    rw [zbm] at f1
    exact ⟨w6.heap.size+1,w6.heap.size,rfl,by omega,by omega,by omega,f1,f2,f3⟩
  · have h5:Below w.heap.size w w5:=hD.trans (hb5.mono (by omega))
    have h6:Below w.heap.size w w6:=(h5.alloc h5.size (.map #[] 0)).trans (hb6.mono (by simp only [zbm];omega))
    have hm:w6.heap[w5.heap.size]? =some (.map #[] 0):=(hb6.block w5.heap.size (by simp)).trans (heap_alloc_last w5 _)
    obtain ⟨f1,f2,f3⟩:=zm7 (r:=r) (ev:=ev) (tb:=tb) (P:=P) (T:=119) h6 hm
    exact ⟨w6.heap.size,w5.heap.size,rfl,by omega,by omega,by omega,f1,f2,f3⟩
  · have hX:Below w.heap.size w (w'.alloc (.map #[] 0)).drew:=(hW.alloc hW.size (.map #[] 0)).drew
    have hsx:(w'.alloc (.map #[] 0)).drew.heap.size=w'.heap.size+1:=by show (w'.alloc (.map #[] 0)).heap.size=_;simp
    have h5:Below w.heap.size w w5:=hX.trans (hb5.mono (by omega))
    have h6:Below w.heap.size w w6:=h5.trans (hb6.mono (by omega))
    have hm5:w5.heap[w'.heap.size]? =some (.map #[] 0):=(hb5.block w'.heap.size (by omega)).trans (heap_alloc_last w' _)
    have hm:w6.heap[w'.heap.size]? =some (.map #[] 0):=(hb6.block w'.heap.size (by have:=hb5.size;omega)).trans hm5
    obtain ⟨f1,f2,f3⟩:=zm7 (r:=r) (ev:=ev) (tb:=tb) (P:=P) (T:=119) h6 hm
    have hb5s:=hb5.size
    exact ⟨w6.heap.size,w'.heap.size,rfl,by omega,by omega,by omega,f1,f2,f3⟩
open Go.Maps
set_option maxRecDepth 100000 in
theorem Tryz.zpc {n:Nat} (hn:1≤n∧n≤16) (ev tb pk:Bool) (w:World):
    Calls prog 8 #[.int .i64 n,.agg #[.bool ev,.bool tb,.bool pk]] w fun e w'=> ∃S P L Bs B M,e= .returned (.tuple #[.pointer (some ⟨P,0,none⟩),.pointer (some ⟨S,0,none⟩),(zcT n).pval,.bool true])∧
      PW (sK S M B) w' S P L Bs B M 20000 (zcT n) (PS.fresh ev tb) (fun _=>0)∧Below w.heap.size w w'∧w.heap.size≤S∧w.heap.size≤M∧w.heap.size≤B∧w.heap.size≤P∧w.heap.size≤L∧w.heap.size≤Bs:=by
  have hpl:=zwJ n hn
  have hnew:=fun R w (c:Cl w R [.int .u64 0,.int .u64 20000])=>zHx R 20000 1 w (c.cell 0 _ rfl) (c.cell 1 _ rfl) (by decide) (by decide)
  have hrk:=zwG hn
  obtain ⟨r,hr⟩: ∃r,r=zcT n:=⟨_,rfl⟩
  rw [←hr] at hpl hrk ⊢
  clear hr
  unfold Rg.pval at hpl ⊢
  go_enter func8,ntmps8
  go_wp2_with (first
    | (go_at_call 29;refine (hpl _).mono ?_;rintro e w1 ⟨rfl,hb1⟩
       have ka:=((Cl.new w _ _).alloc _).below hb1 (by simp<;>omega)
       have kb:=(Cl.new (w.alloc _) _ _).below hb1 (by simp<;>omega)
       rw [zbm] at kb)
    | (go_at_call 30;refine (hnew (w1.heap.size+1) _ (Cl.new2 (zbm _ _))).mono ?_;rintro e w2 ⟨P,L,Bs,B,rfl,hg,hb2,hP,hL,hBs,hB⟩
       have kc:=((Cl.new w1 _ _).alloc _).below hb2 (by simp<;>omega)
       replace ka:=((ka.alloc _).alloc _).below hb2 (by have:=ka.lt;simp<;>omega)
       replace kb:=((kb.alloc _).alloc _).below hb2 (by have:=kb.lt;simp<;>omega)
       have x0:=ka.cell 0 _ rfl;have x1:=ka.cell 1 _ rfl;have x2:=ka.cell 2 _ rfl
       have y0:=kc.cell 0 _ rfl;have y1:=kc.cell 1 _ rfl;have y2:=kc.cell 2 _ rfl;have y3:=kc.cell 3 _ rfl;have y4:=kc.cell 4 _ rfl)
    | (go_at_call 32;refine (zDu (r:=r) hg hrk).mono ?_;rintro e w3 ⟨S,M,rfl,hS,hM,hSM,hso,hsm,hb3⟩
       clear x0 x1 x2 y0 y1 y2 y3 y4
       replace kb:=kb.below hb3 kb.lt
       replace kc:=kc.below hb3 kc.lt
       have y0:=kc.cell 0 _ rfl;have y1:=kc.cell 1 _ rfl;have y2:=kc.cell 2 _ rfl;have y3:=kc.cell 3 _ rfl;have y4:=kc.cell 4 _ rfl
       have z0:=kb.cell 0 _ rfl;have z1:=kb.cell 1 _ rfl;have z2:=kb.cell 2 _ rfl;have z3:=kb.cell 3 _ rfl;have z4:=kb.cell 4 _ rfl
       have f0:=kb.free 0;have f1:=kb.free 1;have f2:=kb.free 2;have f3:=kb.free 3;have f4:=kb.free 4)
    | go_in)
  have l1:=kb.lt
  have hkb:=kb
  clear ka kb kc
  go_region
  go_wp2_with fail
  have k0:=((((hkb.set 0 (.bool true) (show 0<5 by decide)).set 1 (.int .i64 r.n) (show 1<5 by decide)).set 2 (.int .u64 r.d) (show 2<5 by decide)).set 3 (.int .u64 r.v) (show 3<5 by decide)).set 4 (.int .u64 r.c) (show 4<5 by decide)
  have hmv:=(((((Mv.refl (· =w.heap.size+1) w3).setCell (w.heap.size+1) 0 (.bool true) (.inl rfl)).setCell (w.heap.size+1) 1 (.int .i64 r.n) (.inl rfl)).setCell (w.heap.size+1) 2 (.int .u64 r.d) (.inl rfl)).setCell (w.heap.size+1) 3 (.int .u64 r.v) (.inl rfl)).setCell (w.heap.size+1) 4 (.int .u64 r.c) (.inl rfl)
  generalize (((((w3.setCell ⟨w.heap.size+1,0,none⟩ (.bool true)).setCell ⟨w.heap.size+1,1,none⟩ (.int .i64 r.n)).setCell ⟨w.heap.size+1,2,none⟩ (.int .u64 r.d)).setCell ⟨w.heap.size+1,3,none⟩ (.int .u64 r.v)).setCell ⟨w.heap.size+1,4,none⟩ (.int .u64 r.c))=w4 at k0 hmv ⊢
  have hsz1:=hb1.size
  have hsz2:=hb2.size
  have hsz3:=hb3.size
  simp only [zbm] at hsz1 hsz2 hsz3 hP hL hBs hB
  have hbw:Below w.heap.size w w3:=(((((Below.refl _ w).alloc (Nat.le_refl _) _).alloc (by simp only [zbm];omega) _).trans (hb1.mono (by simp only [zbm];omega))).alloc (by omega) _).alloc (by simp only [zbm];omega) _|>.trans (hb2.mono (by simp only [zbm];omega))|>.trans (hb3.mono (by omega))
  have hbl:=hbw.trans (hmv.below (base:=w.heap.size) (fun k hk=>by omega) hbw.size)
  refine bodyPost_ret (zCv rfl _ _ (w.heap.size+1) [.bool true,.int .i64 r.n,.int .u64 r.d,.int .u64 r.v,.int .u64 r.c] _ rfl (fun j v hv=>by rw [Nat.zero_add];exact k0.cell j v hv) underlying31 rfl (by kernel_rfl)) rfl ?_
  obtain ⟨sarr,sty,hs0,hs1⟩:=hso
  have hlS:S<w3.heap.size:=(Array.getElem?_eq_some_iff.1 hs0).1
  have hlM:M<w3.heap.size:=(Array.getElem?_eq_some_iff.1 hsm).1
  have hg3:=hg.below hb3
  have hgp:=hg.pl
  have hgl:=hg.ll
  have hgs:=hg.sl
  have hgb:=hg.bl
  have hgm:=hg3.kept (fun k hk hk'=>hmv.block k hk (by omega)) hmv.size
  have hn2:r.n≤16:=hrk.bnd.2
  have hn1:1≤r.n:=hrk.bnd.1
  refine ⟨S,P,L,Bs,B,M,rfl,⟨⟨_,⟨sarr,sty,(hmv.block S hlS (by omega)).trans hs0,hs1⟩,SegV.none⟩,⟨⟨#[],0,(hmv.block M hlM (by omega)).trans hsm,⟨⟨fun e he=>by simp at he,by simp⟩,⟨fun e he=>by simp at he,by simp⟩⟩,fun k=>⟨fun _=>rfl,fun l hl=>by cases hl⟩⟩,by simp [PS.fresh],fun e he=>by cases he⟩,hSM,.inl rfl,.inr (.inl rfl),hrk,
    ⟨⟨Int.le_refl 0,by show (0:Int)<r.n;omega⟩,⟨Int.le_refl 0,by show (0:Int)<r.n;omega⟩,⟨rfl,by show (0:Int)≤r.n;omega⟩,z16,z32,by show 0≤11;decide,fun h7=>absurd h7 (by show¬7≤0;decide)⟩,hgm.drewN 1,by decide,⟨by omega,by omega,by omega,by omega⟩,⟨by omega,by omega,by omega,by omega⟩,.inr (.inr rfl),fun b hb=> ?_,?_⟩,hbl.drew,by omega,by omega,by omega,by omega,by omega,by omega⟩
  · have:=hmv.size
    show b<w4.heap.size
    rcases hb with rfl|rfl|rfl<;>omega
  · show 4104+16*r.n≤((20000:Nat):Int);omega
end Go.Proofs
namespace Go.Proofs
open Go.Dw Go.RowKit
def Tryz.zhg:List (Nat×AV):= [(1,.int .i64 (lnv 2)),(2,.int .i64 (u16v 5)),(3,sl1 [(lnv 1,2)]),(4,.ptr 1 0),(11,.cst 2 none),(12,.int .i64 (lnv 1))]
def Tryz.zC1:List Sh:= [.own [.int .i64 (lnv 6),.bool (.var 1)],ckEl 3 4 0]
def Tryz.ppMk (f:Int):Ent:=⟨37,[.int .u16 (.lit f),.bool (.var 1),.bool (.lit false)],1,0,0,.int .u16 (u16v 8),1⟩
def Tryz.ppGo:Ent:=⟨20,[.agg [.int .i64 (lnv 6),.bool (.var 1)],.int .i64 (.lit 1),.int .i64 (lnv 2)],2,0,0,.tup [.agg [.int .i64 (lnv 9),.bool (.var 2)],.int .i64 (.lit 0)],2⟩
def Tryz.ppA (base:Nat):AEnt:=⟨103,.cst 2 none,1,[.int .i64 (lnv 6),.int .u64 (u64v 3),.int .u32 (u32v 4),.int .u16 (u16v 5),.int .u16 (u16v 8)],1,base,1,.opq base none,2⟩
end Go.Proofs
namespace Go.Proofs
open Go.Dw
def Tryz.zlM:List Ent:= [ppMk 3,ppGo]
def Tryz.zpl:List Sh:=zC1
def Tryz.zfJ:List (Nat×AV):=zhg
def Tryz.zjo:List LEnt:= []
def Tryz.zjp:List AEnt:= [ppA 4]
def Tryz.zpm:Option AV:=none
def Tryz.zzl:List (SB×Bool):= [(.cmp .lss (lnv 1) (lnv 0),true),(.var 0,true),(.cmp .lss (.bin .add .i64 (lnv 1) (.lit 1)) (lnv 0),true)]
def Tryz.zuo:List zbg:= [
 ⟨.normal,[1,2,3,4,11,12],none,⟨.tup [.int .i64 (lnv 2),.int .i64 (u16v 5),.sx 1 ((lnv 0)) 3 [((lnv 1),2)],.ptr 1 0,.opq 4 none,.int .i64 (.bin .add .i64 (lnv 1) (.lit 1))],[(1,[.int .i64 (lnv 9),.bool (.var 2)])],[],2,[1]⟩⟩]
def Tryz.zun:List (List (SB×Bool)×Nat):= [
 ([], 0)]
theorem Tryz.zzk:(evL prog (zau zlM) (zaD zjo) (zaC zjp) 100000 (.code (zaI prog [0,0,1,0,1,1,1,1,1,42]) [0,0,1,0,1,1,1,1,1,42] 86 (envS 86 zfJ zpm) (zas 1 zpl) (zaH zuo 0))).ways zzl=some zun:=by kernel_rfl
theorem Tryz.zCV:(zah zpl&&zaf zlM&&zak zjo&&zal zjp&&zan zfJ&&zai zuo&&zaG 86 zfJ&&Nat.ble 86 zaL&&zaB zpm)=true:=by kernel_rfl
def Tryz.zlN:List Ent:= [ppMk 1,ppGo]
def Tryz.zpn:List Sh:=zC1
def Tryz.zfK:List (Nat×AV):=zhg
def Tryz.zjq:List LEnt:= []
def Tryz.zjr:List AEnt:= [ppA 4]
def Tryz.zpo:Option AV:=none
def Tryz.zzn:List (SB×Bool):= [(.cmp .lss (lnv 1) (lnv 0),true),(.var 0,false),(.cmp .lss (.bin .add .i64 (lnv 1) (.lit 1)) (lnv 0),true)]
def Tryz.zuq:List zbg:= [
 ⟨.normal,[1,2,3,4,11,12],none,⟨.tup [.int .i64 (lnv 2),.int .i64 (u16v 5),.sx 1 ((lnv 0)) 3 [((lnv 1),2)],.ptr 1 0,.opq 4 none,.int .i64 (.bin .add .i64 (lnv 1) (.lit 1))],[(1,[.int .i64 (lnv 9),.bool (.var 2)])],[],2,[1]⟩⟩]
def Tryz.zup:List (List (SB×Bool)×Nat):= [
 ([], 0)]
theorem Tryz.zzm:(evL prog (zau zlN) (zaD zjq) (zaC zjr) 100000 (.code (zaI prog [0,0,1,0,1,1,1,1,1,42]) [0,0,1,0,1,1,1,1,1,42] 86 (envS 86 zfK zpo) (zas 1 zpn) (zaH zuq 0))).ways zzn=some zup:=by kernel_rfl
theorem Tryz.zCW:(zah zpn&&zaf zlN&&zak zjq&&zal zjr&&zan zfK&&zai zuq&&zaG 86 zfK&&Nat.ble 86 zaL&&zaB zpo)=true:=by kernel_rfl
def Tryz.zlO:List Ent:= [ppMk 2,ppGo]
def Tryz.zpp:List Sh:=zC1
def Tryz.zfL:List (Nat×AV):=zhg
def Tryz.zjs:List LEnt:= []
def Tryz.zjt:List AEnt:= [ppA 4]
def Tryz.zpq:Option AV:=none
def Tryz.zzp:List (SB×Bool):= [(.cmp .lss (lnv 1) (lnv 0),true),(.var 0,true),(.cmp .lss (.bin .add .i64 (lnv 1) (.lit 1)) (lnv 0),false)]
def Tryz.zus:List zbg:= [
 ⟨.normal,[1,2,3,4,11,12],none,⟨.tup [.int .i64 (lnv 2),.int .i64 (u16v 5),.sx 1 ((lnv 0)) 3 [((lnv 1),2)],.ptr 1 0,.opq 4 none,.int .i64 (.bin .add .i64 (lnv 1) (.lit 1))],[(1,[.int .i64 (lnv 9),.bool (.var 2)])],[],2,[1]⟩⟩]
def Tryz.zur:List (List (SB×Bool)×Nat):= [
 ([], 0)]
theorem Tryz.zzo:(evL prog (zau zlO) (zaD zjs) (zaC zjt) 100000 (.code (zaI prog [0,0,1,0,1,1,1,1,1,42]) [0,0,1,0,1,1,1,1,1,42] 86 (envS 86 zfL zpq) (zas 1 zpp) (zaH zus 0))).ways zzp=some zur:=by kernel_rfl
theorem Tryz.zCX:(zah zpp&&zaf zlO&&zak zjs&&zal zjt&&zan zfL&&zai zus&&zaG 86 zfL&&Nat.ble 86 zaL&&zaB zpq)=true:=by kernel_rfl
def Tryz.zlP:List Ent:= [ppMk 0,ppGo]
def Tryz.zpr:List Sh:=zC1
def Tryz.zfM:List (Nat×AV):=zhg
def Tryz.zju:List LEnt:= []
def Tryz.zjv:List AEnt:= [ppA 4]
def Tryz.zps:Option AV:=none
def Tryz.zzr:List (SB×Bool):= [(.cmp .lss (lnv 1) (lnv 0),true),(.var 0,false),(.cmp .lss (.bin .add .i64 (lnv 1) (.lit 1)) (lnv 0),false)]
def Tryz.zuu:List zbg:= [
 ⟨.normal,[1,2,3,4,11,12],none,⟨.tup [.int .i64 (lnv 2),.int .i64 (u16v 5),.sx 1 ((lnv 0)) 3 [((lnv 1),2)],.ptr 1 0,.opq 4 none,.int .i64 (.bin .add .i64 (lnv 1) (.lit 1))],[(1,[.int .i64 (lnv 9),.bool (.var 2)])],[],2,[1]⟩⟩]
def Tryz.zut:List (List (SB×Bool)×Nat):= [
 ([], 0)]
theorem Tryz.zzq:(evL prog (zau zlP) (zaD zju) (zaC zjv) 100000 (.code (zaI prog [0,0,1,0,1,1,1,1,1,42]) [0,0,1,0,1,1,1,1,1,42] 86 (envS 86 zfM zps) (zas 1 zpr) (zaH zuu 0))).ways zzr=some zut:=by kernel_rfl
theorem Tryz.zCY:(zah zpr&&zaf zlP&&zak zju&&zal zjv&&zan zfM&&zai zuu&&zaG 86 zfM&&Nat.ble 86 zaL&&zaB zps)=true:=by kernel_rfl
def Tryz.zpt:List Ent:= []
def Tryz.zuv:List Sh:= [.own [.int .i64 (lnv 6),.bool (.var 1)]]
def Tryz.zfc:List (Nat×AV):= [(1,.int .i64 (lnv 2)),(2,.int .i64 (u16v 5)),(3,sl1 []),(4,.ptr 1 0),(11,.cst 2 none),(12,.int .i64 (lnv 1))]
def Tryz.zlQ:List LEnt:= []
def Tryz.zlR:List AEnt:= []
def Tryz.zuw:Option AV:=none
def Tryz.zC0:List (SB×Bool):= [(.cmp .lss (lnv 1) (lnv 0),false)]
def Tryz.zzt:List zbg:= [
 ⟨(.exit 0),[11],none,⟨.tup [.cst 2 none],[],[],0,[]⟩⟩]
def Tryz.zzs:List (List (SB×Bool)×Nat):= [
 ([], 0)]
theorem Tryz.zCZ:(evL prog (zau zpt) (zaD zlQ) (zaC zlR) 100000 (.code (zaI prog [0,0,1,0,1,1,1,1,1,42]) [0,0,1,0,1,1,1,1,1,42] 86 (envS 86 zfc zuw) (zas 0 zuv) (zaH zzt 0))).ways zC0=some zzs:=by kernel_rfl
theorem Tryz.zGN:(zah zuv&&zaf zpt&&zak zlQ&&zal zlR&&zan zfc&&zai zzt&&zaG 86 zfc&&Nat.ble 86 zaL&&zaB zuw)=true:=by kernel_rfl
open Go.RowKit Go.Maps Go.Sort
def Tryz.zkV (f:Int) (wr:Bool):Int:=f+if wr then 128 else 32768
noncomputable def Tryz.zHt (f:Nat) (wr:Bool):Bool:=(Dw.ev prog Dw.zsF 100000 (.call 37 [.int .u16 (.lit f),.bool (.lit wr),.bool (.lit false)] Dw.heap0 (Dw.isAV (.int .u16 (.lit (zkV f wr)))))).good
theorem Tryz.zxh:([0,1,2,3].all fun f=> [true,false].all fun wr=>zHt f wr)=true:=by kernel_rfl
theorem Tryz.zgI (f:Nat) (hf:f=0∨f=1∨f=2∨f=3) (wr:Bool) (w:World):
  Calls prog 37 #[.int .u16 f,.bool wr,.bool false] w fun e w'=>e= .returned (.int .u16 (zkV f wr))∧Below w.heap.size w w':=by
 have h1:=List.all_eq_true.1 (List.all_eq_true.1 zxh f (by simp;omega)) wr (by cases wr<;>simp)
 exact Dw.zm5 (by kernel_rfl) rfl (Dw.zkJ (Dw.znT (Dw.znT Dw.RL.nil))) h1 w
def Tryz.posN (n a:Int) (x:Bool):Nat→Int×Bool
 | 0=>(a,x)
 | k+1=>zaW n (posN n a x k).1 (posN n a x k).2 1
theorem Tryz.zjw {n a:Int} {x:Bool} (ha:0≤a∧a<n): ∀k,0≤(posN n a x k).1∧(posN n a x k).1<n
 | 0=>ha
 | k+1=>zgq (zjw ha k) ⟨by decide,by have:=zjw ha k (x:=x);omega⟩
def Tryz.ppAt (n id a:Int) (x:Bool) (l:List Sg) (k:Nat):Pt:=
 ⟨(posN n a x k).1,(l.getD k ⟨0,0,false⟩).at1,(l.getD k ⟨0,0,false⟩).len,id,zkV ((if (l.getD k ⟨0,0,false⟩).wr then 2 else 0)+(if k+1<l.length then 1 else 0)) (posN n a x k).2⟩
def Tryz.ppTo (n id a:Int) (x:Bool) (l:List Sg) (k:Nat):List Pt:=(List.range k).map (ppAt n id a x l)
theorem Tryz.zzu (n id a:Int) (x:Bool) (l:List Sg) (k:Nat):ppTo n id a x l (k+1)=ppTo n id a x l k++ [ppAt n id a x l k]:=by simp [ppTo,List.range_succ]
theorem Tryz.zgp (n id a:Int) (x:Bool) (l:List Sg) (k:Nat):(ppTo n id a x l k).length=k:=by simp [ppTo]
def Tryz.znU (w:World) (b2:Nat) (v:Value) (ps:List Pt):Prop:=OwnR 107 5 w b2 v ps.length (zcS ps)
def Tryz.zIW (b2:Nat) (v:Value) (ps:List Pt) (F:Nat→Prop) (w:World):Prop:=znU w b2 v ps∧ ∀b,v.ownBlock=some b→F b
def Tryz.ppG (b2 base:Nat) (v:Value) (p1 p2:List Pt):Gho where
 fact k q F w:=match k with|0=>True|1=>zIW b2 v p1 F w|_=> ∃u,q base=some u∧zIW b2 u p2 F w
 loc:=fun k q q' F w w' h hq hb hs=>by
  match k,h with
  | 0,_=>trivial
  | 1,⟨h7,h8⟩=>exact ⟨OwnR.kept h7 fun b e=>hb b (h8 b e),h8⟩
  | k+2,⟨u,h7,h8,h9⟩=>exact ⟨u,hq _ _ h7,OwnR.kept h8 fun b e=>hb b (h9 b e),h9⟩
theorem Tryz.zJn:(prog.info? 107).map (fun i=>(i.zero.isSome,i.size,i.bytes))=some (true,5,24):=by kernel_rfl
theorem Tryz.zHI:((prog.info? 107).bind (·.zero)).map (·.cells.size)=some 5:=by kernel_rfl
set_option maxRecDepth 10000 in
theorem Tryz.zux {ρ:Val} {w0:World} {K:Nat→Prop} {b2 base:Nat} {v:Value} {p1:List Pt} {p:Pt} (hv2:ρ.v 2=v) (h9:(lnv 6).den ρ=p.at0) (h3:(u64v 3).den ρ=p.a) (h4:(u32v 4).den ρ=p.ln) (hf:(u16v 5).den ρ=p.f) (hnx:(u16v 8).den ρ=p.nx)
  (hb2:b2≤w0.heap.size) (hK: ∀b,v.ownBlock=some b→K b) (hl:p1.length≤100000):zIl prog ρ w0 K (ppG b2 base v p1 (p1++ [p])) (ppA base):=by
 intro j w F n us bb o cap vals ty hus hcells hxs hnone hbase hF hsz hfa
 have hb:n=base:=hbase (by show (1:Nat)≠0;decide)
 subst hb
 obtain ⟨f5,f6⟩:=hfa
 have hus:=R_val rfl hus
 have hus:us=v:=by rw [hus];exact hv2
 subst hus
 obtain ⟨x0,_,rfl,e0,hxs⟩:=hxs
 obtain ⟨x1,_,rfl,e1,hxs⟩:=hxs
 obtain ⟨x2,_,rfl,e2,hxs⟩:=hxs
 obtain ⟨x3,_,rfl,e3,hxs⟩:=hxs
 obtain ⟨x4,_,rfl,e4,hxs⟩:=hxs
 have hxs:_= []:=hxs
 subst hxs
 have e0:x0= .int .i64 p.at0:=by rw [show x0= .int .i64 (SE.den ρ (lnv 6)) from e0,h9]
 have e1:x1= .int .u64 p.a:=by rw [show x1= .int .u64 (SE.den ρ (u64v 3)) from e1,h3]
 have e2:x2= .int .u32 p.ln:=by rw [show x2= .int .u32 (SE.den ρ (u32v 4)) from e2,h4]
 have e3:x3= .int .u16 p.f:=by rw [show x3= .int .u16 (SE.den ρ (u16v 5)) from e3,hf]
 have e4:x4= .int .u16 p.nx:=by rw [show x4= .int .u16 (SE.den ρ (u16v 8)) from e4,hnx]
 subst e0 e1 e2 e3 e4
 have hinfo:=zJn
 have hinfoZ:=zHI
 cases hi:prog.info? 107 with
 | none=>rw [hi] at hinfo;cases hinfo
 | some i=>
 rw [hi] at hinfo hinfoZ
 simp only [Option.map_some,Option.some.injEq,Prod.mk.injEq] at hinfo
 obtain ⟨i1,i2,i3⟩:=hinfo
 obtain ⟨z,hz⟩:=Option.isSome_iff_exists.1 i1
 simp only [Option.bind_some,hz,Option.map_some,Option.some.injEq] at hinfoZ
 obtain ⟨u,w',h1,h2,h3,h4,h5⟩:=run_append_own_at (P:=prog) w b2 103 ty 107 i z 5 24 (by kernel_rfl) hi hz i2 i3 hinfoZ (by decide) us p1.length (zcS p1) f5 ⟨bb,o,none⟩ 1 cap p.cells rfl
  (fun q y hy=>by rw [Dw.addr_add];exact hcells q y hy) (fun y hy=>by simp only [Pt.cells,List.mem_cons,List.not_mem_nil,or_false] at hy;rcases hy with rfl|rfl|rfl|rfl|rfl<;>rfl) (by unfold maxLen;omega) (by omega) (by omega)
 have hseg:zcS p1++p.cells=zcS (p1++ [p]):=by simp [zcS]
 have hown:znU w' b2 u (p1++ [p]):=by
  unfold znU OwnR
  rw [←hseg,List.length_append]
  exact h2
 have hub:=OwnR.lt hown
 have hub1: ∀b,u.ownBlock=some b→us.ownBlock=some b∨w.heap.size≤b:=fun b hb=>by
  rcases h5 with h5|h5
  ·exact .inl (h5▸hb)
  ·rw [hb] at h5;cases h5;exact .inr (Nat.le_refl _)
 have hmv:Dw.Mv (fun b=>us.ownBlock=some b) w w':=⟨h3.os,h3.tape,h3.output,h3.size,fun b hb hn=>h3.block b hb (fun e=>hn e.symm)⟩
 refine ⟨u,w',[u],fun b=>F b∨u.ownBlock=some b,h1,rfl,⟨⟨⟨0,0,0,some u⟩,?_,rfl⟩,OwnR.one hown,fun _ h=>(by cases h)⟩,⟨u,zb5,hown,fun b hb=> .inr hb⟩,?_,hmv.mono fun b hb=>⟨f6 b hb,.inr (hK b hb)⟩⟩
 ·show jq j n _ n=_
  unfold jq
  rw [if_pos ⟨Nat.le_refl _,by simp⟩]
  simp
 ·rintro b (hb|hb)
  ·exact ⟨Nat.lt_of_lt_of_le (hF b hb) hmv.size,.inl hb⟩
  ·refine ⟨(hub b hb).2,?_⟩
   rcases hub1 b hb with h|h
   ·exact .inl (f6 b h)
   ·exact .inr h
structure Tryz.PpD (ρ:Val) (m k n id a fl na:Int) (s:Sg) (x nx:Bool) (sv ov:Value):Prop where
 d0:(lnv 0).den ρ=m
 d1:(lnv 1).den ρ=k
 d2:(lnv 2).den ρ=n
 d3:(u64v 3).den ρ=s.at1
 d4:(u32v 4).den ρ=s.len
 d5:(u16v 5).den ρ=id
 d6:(lnv 6).den ρ=a
 d8:(u16v 8).den ρ=fl
 d9:(lnv 9).den ρ=na
 b0:ρ.b 0=s.wr
 b1:ρ.b 1=x
 b2:ρ.b 2=nx
 v1:ρ.v 1=sv
 v2:ρ.v 2=ov
theorem Tryz.ppD {m k n id a fl na:Int} {s:Sg} {x nx:Bool} {sv ov:Value} (hm:0≤m∧m<64000) (hk:0≤k∧k<64000) (hn:0≤n∧n<64000) (hid:0≤id∧id<65536) (ha:0≤a∧a<64000) (hf:0≤fl∧fl<65536) (hna:0≤na∧na<64000) (hs:s.ok):
  ∃ ρ,PpD ρ m k n id a fl na s x nx sv ov:=
 ⟨vof [m,k,n,s.at1,s.len,id,a,0,fl,na] [s.wr,x,nx] [undef,sv,ov],zaw hm.1 (by show m<_;omega),zaw hk.1 (by show k<_;omega),zaw hn.1 (by show n<_;omega),zaJ hs.1 hs.2.1,zbw hs.2.2.1 hs.2.2.2,zbq hid.1 hid.2,zaw ha.1 (by show a<_;omega),zbq hf.1 hf.2,zaw hna.1 (by show na<_;omega),rfl,rfl,rfl,rfl,rfl⟩
set_option maxRecDepth 100000 in
theorem Tryz.zrU {A:Nat→Prop} {w:World} {v:Value} {l:List Sg} {n id a:Int} {x:Bool} (h:SegV A w v l) (hm:zfC l=0) (hln:(l.length:Int)≤n) (hn:1≤n∧n≤32768) (ha:0≤a∧a<n) (hid:0≤id∧id<n):
    Calls prog 42 #[posV a x,.int .i64 n,.int .i64 id,v] w fun e w'=>(∃u,e= .returned (.tuple #[u,.int .i64 0])∧znU w' w.heap.size u (ppTo n id a x l l.length))∧Below w.heap.size w w':=by
  have hmay:=fun w1 (hb:Below w.heap.size w w1)=>zAE (h.below hb) (by omega)
  rw [hm] at hmay
  obtain ⟨sa,cs,rfl,hok,hr⟩:=h
  have hA:=(Below.refl w.heap.size w).alloc (Nat.le_refl _)
  have i1: ¬id<0:=by omega
  have i2: ¬n≤id:=by omega
  have i3: ¬n<(l.length:Int):=by omega
  have i4: ¬a<0:=by omega
  have i5: ¬n≤a:=by omega
  have i6:1≤n:=hn.1
  have i7:n≤32768:=hn.2
  unfold posV
  go_enter func42,ntmps42
  go_wp2_with (first
    | (go_at_call 54;refine (hmay _ (hA _)).mono ?_;rintro e w1 ⟨rfl,hb1⟩
       have kp:=(Cl.new w _ _).below hb1 (by simp)
       have c0:=kp.cell 0 _ rfl;have c1:=kp.cell 1 _ rfl)
    | go_in)
  rename_i K hK
  obtain ⟨R0,hR0⟩: ∃R0,R0=w.heap.size:=⟨_,rfl⟩
  obtain ⟨W,hW⟩: ∃W,W=w1.alloc (Obj.cells #[.int .i64 a,.bool x] 35):=⟨_,rfl⟩
  have hbW:Below R0 w W:=by rw [hW,hR0];exact ((hA _).trans (hb1.mono (by simp))).alloc (Nat.le_trans (by simp) hb1.size) _
  have oW:Own W R0 [.int .i64 a,.bool x]:=by
    rw [hW,hR0]
    have e1:=hb1.size
    simp only [zbm] at e1
    exact ((zho w _ _).kept (hb1.block w.heap.size (by simp))).kept (heap_alloc_old w1 _ (h:=by omega))
  have hWs:R0+1≤W.heap.size:=by
    have e1:=hb1.size
    simp only [zbm] at e1
    rw [hW,zbm];omega
  rw [←hW]
  clear hW hmay hA c0 c1 kp hb1
  have hrs:l= []∨ ∃R o,sa=some ⟨R,o,none⟩∧w.rangeAt R o (zaP l):=hr.imp_right fun ⟨R,o,e,_,h⟩=>⟨R,o,e,h⟩
  rw [←hR0]
  have tail: ∀ {a2:Act} {w2:World} {u:Value},a2.tmps.size=86→a2.defers= []→a2.tmps.getD 11 undef=u→znU w2 (R0+1) u (ppTo n id a x l l.length)→Below R0 w w2→K a2 w2:=fun {a2 w2 u} z1 z2 z3 z4 z5=>by
    refine hK _ _ ?_
    clear hK
    obtain ⟨tmps,dfr⟩:=a2
    have z2:dfr= []:=z2
    have z1:tmps.size=86:=z1
    have z3:tmps.getD 11 undef=u:=z3
    subst z2
    go_wp2_with fail
    refine bodyPost_ret (v:= .tuple #[u,.int .i64 0]) ?_ rfl ⟨⟨u,rfl,OwnR.mono z4 (by omega)⟩,hR0▸z5⟩
    rw [Array.getD_eq_getD_getElem?,Array.getElem?_eq_getElem (by omega)] at z3
    simp [results,results42,z1]
    try exact z3
  refine zbr (c':= .loop (zaI prog [0,0,1,0,1,1,1,1,1,42])) (by kernel_rfl) ?_
  refine zbT (fun (y:Nat×Value) a' w'=>y.1≤l.length∧a'.tmps.size=86∧a'.defers= []∧([1,2,3,4,11,12].map fun t=>a'.tmps.getD t undef)= [.int .i64 n,.int .i64 id,.slice sa l.length cs,.pointer (some ⟨R0,0,none⟩),y.2,.int .i64 y.1]∧
      Own w' R0 [.int .i64 (posN n a x y.1).1,.bool (posN n a x y.1).2]∧znU w' (R0+1) y.2 (ppTo n id a x l y.1)∧Below R0 w w'∧R0+1≤w'.heap.size)
    (fun y=>l.length-y.1) (fun y a1 w1 hI=> ?_) (0,.slice none 0 0) _ _ ⟨Nat.zero_le _,rfl,rfl,rfl,oW,OwnR.nil _ _ _ _,hbW,hWs⟩
  obtain ⟨k,vk⟩:=y
  obtain ⟨hk,q0,qd,hsl,oP,hov,hbl,hsz⟩:=hI
  simp only at hk hsl oP hov
  simp only [List.map_cons,List.map_nil,List.cons.injEq,and_true] at hsl
  obtain ⟨s1,s2,s3,s4,s11,s12⟩:=hsl
  have hvo:=OwnR.one hov
  have hvlt:=OwnR.lt hov
  have hpk:=zjw (x:=x) ha k
  have hpk1:=zjw (x:=x) ha (k+1)
  have hwk:=zcN k (by omega)
  have hKw: ∀b,(b=R0∨vk.ownBlock=some b)→b<w1.heap.size:=fun b hb=>by
    rcases hb with rfl|hb
    · omega
    · exact (hvlt b hb).2
  by_cases hkl:k<l.length
  · rcases hrs with h0|⟨R,p,rfl,hrs⟩
    · rw [h0] at hkl;simp at hkl
    have hRl:=zdu hrs (by intro h0;rw [h0] at hkl;simp at hkl)
    have hrs1:=zaN hrs (hbl.block R (by omega))
    have hxs:=zcP hrs1 k hkl
    have hxo:=hok l[k] (List.getElem_mem hkl)
    have hnR: ¬(R=R0∨vk.ownBlock=some R):=by
      rintro (e|e)
      · omega
      · have:=(hvlt R e).1;omega
    have hsx:l.getD k ⟨0,0,false⟩=l[k]:=by simp [List.getD_eq_getElem?_getD,hkl]
    have ha0:(ppAt n id a x l k).a=l[k].at1:=by simp only [ppAt,hsx]
    have hl0:(ppAt n id a x l k).ln=l[k].len:=by simp only [ppAt,hsx]
    have hff:(ppAt n id a x l k).nx=zkV ((if l[k].wr then 2 else 0)+(if k+1<l.length then 1 else 0)) (posN n a x k).2:=by simp only [ppAt,hsx]
    have hfb:0≤(ppAt n id a x l k).nx∧(ppAt n id a x l k).nx<65536:=by
      rw [hff];unfold zkV
      repeat' split
      all_goals decide
    have hj1:jOf [(R0,0),(R,p+3*k)] 1=some ⟨R0,0,0,none⟩:=rfl
    have hj2:jOf [(R0,0),(R,p+3*k)] 2=some ⟨R,p+3*k,0,none⟩:=rfl
    have hG:(ppG (R0+1) 4 vk (ppTo n id a x l k) (ppTo n id a x l k++ [ppAt n id a x l k])).G 1 (jOf [(R0,0),(R,p+3*k)]) w1:=
      ⟨fun b=>vk.ownBlock=some b,fun b hb'=>⟨(hvlt b hb').2,fun hmn=>by
        have:=zde hmn
        simp only [List.map_cons,List.map_nil,List.mem_cons,List.not_mem_nil,or_false] at this
        have h1:=(hvlt b hb').1
        rcases this with e|e<;>omega⟩,hov,fun b hb'=>hb'⟩
    obtain ⟨ρ,D⟩:=ppD (m:=l.length) (k:=k) (n:=n) (id:=id) (a:=(posN n a x k).1) (fl:=(ppAt n id a x l k).nx) (na:=(posN n a x (k+1)).1) (s:=l[k]) (x:=(posN n a x k).2) (nx:=(posN n a x (k+1)).2) (sv:= .slice (some ⟨R,p,none⟩) l.length cs) (ov:=vk) (by omega) (by omega) (by omega) (by omega) (by omega) hfb (by omega) hxo
    have dk1: ∀ {ρ:Val},PpD ρ l.length k n id (posN n a x k).1 (ppAt n id a x l k).nx (posN n a x (k+1)).1 l[k] (posN n a x k).2 (posN n a x (k+1)).2 (.slice (some ⟨R,p,none⟩) l.length cs) vk→(SE.bin .add .i64 (lnv 1) (.lit 1)).den ρ=((k+1:Nat):Int):=fun D=>by rw [den_add,D.d1,zad,hwk]
    have hGo: ∀ {ρ:Val} {w0:World} {K:Nat→Prop} {g:Gho},PpD ρ l.length k n id (posN n a x k).1 (ppAt n id a x l k).nx (posN n a x (k+1)).1 l[k] (posN n a x k).2 (posN n a x (k+1)).2 (.slice (some ⟨R,p,none⟩) l.length cs) vk→zaO prog ρ w0 K g ppGo:=fun D=>
      zay (Dw.enters_of (by kernel_rfl)) (by rfl) [posV (posN n a x k).1 (posN n a x k).2,.int .i64 1,.int .i64 n] (.tuple #[posV (posN n a x (k+1)).1 (posN n a x (k+1)).2,.int .i64 0]) (fun j=>zab (zbj (zab (zac D.d6) (zab (zaq D.b1) RL.nil))) (zab (zac rfl) (zab (zac D.d2) RL.nil))) (fun j=>zc5 (zab (zbj (zab (zac D.d9) (zab (zaq D.b2) RL.nil))) (zab (zac rfl) RL.nil))) (fun w F q hf=>zyt hn hpk ⟨by decide,hn.1⟩ w)
    have slots: ∀ {ρ:Val},PpD ρ l.length k n id (posN n a x k).1 (ppAt n id a x l k).nx (posN n a x (k+1)).1 l[k] (posN n a x k).2 (posN n a x (k+1)).2 (.slice (some ⟨R,p,none⟩) l.length cs) vk→ ∀t∈zhg,Dw.R ρ (jOf [(R0,0),(R,p+3*k)]) t.2 (a1.tmps.getD t.1 undef):=fun {ρ} D t ht=>by
      simp only [zhg,List.mem_cons,List.not_mem_nil,or_false] at ht
      rcases ht with rfl|rfl|rfl|rfl|rfl|rfl
      · rw [s1];exact zac D.d2
      · rw [s2];exact zac D.d5
      · rw [s3];exact ⟨D.v1.symm,_,_,_,rfl,D.d0.symm,⟨R,p,_,k,rfl,hj2,rfl,D.d1,hkl,rfl⟩,trivial⟩
      · rw [s4];exact ⟨_,hj1,rfl⟩
      · rw [s11];exact zaR D.v2 hvo
      · rw [s12];exact zac D.d1
    have fin: ∀ {ρ:Val} {j2:J} {a2:Act} {w2:World},PpD ρ l.length k n id (posN n a x k).1 (ppAt n id a x l k).nx (posN n a x (k+1)).1 l[k] (posN n a x k).2 (posN n a x (k+1)).2 (.slice (some ⟨R,p,none⟩) l.length cs) vk→a2.tmps.size=86→a2.defers= []→Dw.Mv (fun b=>b=R0∨vk.ownBlock=some b) w1 w2→
        (ppG (R0+1) 4 vk (ppTo n id a x l k) (ppTo n id a x l k++ [ppAt n id a x l k])).G 2 j2 w2→Own w2 R0 (AV.valL ρ (lcOf j2) [.int .i64 (lnv 9),.bool (.var 2)])→([1,2,3,4,11,12].map fun t=>a2.tmps.getD t undef)= [.int .i64 n,.int .i64 id,.slice (some ⟨R,p,none⟩) l.length cs,.pointer (some ⟨R0,0,none⟩),(AV.opq 4 none).val ρ (lcOf j2),.int .i64 (k+1:Nat)]→
        ∃ y':Nat×Value,l.length-y'.1<l.length-k∧y'.1≤l.length∧a2.tmps.size=86∧a2.defers= []∧([1,2,3,4,11,12].map fun t=>a2.tmps.getD t undef)= [.int .i64 n,.int .i64 id,.slice (some ⟨R,p,none⟩) l.length cs,.pointer (some ⟨R0,0,none⟩),y'.2,.int .i64 y'.1]∧
          Own w2 R0 [.int .i64 (posN n a x y'.1).1,.bool (posN n a x y'.1).2]∧znU w2 (R0+1) y'.2 (ppTo n id a x l y'.1)∧Below R0 w w2∧R0+1≤w2.heap.size:=fun {ρ j2 a2 w2} D r1 r2 r3 r4 r5 r6=>by
      obtain ⟨F2,_,u,hu,hou,_⟩:=r4
      rw [zd2 hu] at r6
      simp only [AV.valL,AV.val,D.d9,zaA,D.b2] at r5
      refine ⟨(k+1,u),by simp only;omega,hkl,r1,r2,r6,r5,?_,⟨r3.os.trans hbl.os,r3.tape.trans hbl.tape,r3.output.trans hbl.output,Nat.le_trans hbl.size r3.size,fun b hb'=>(r3.block b (by have:=hbl.size;omega) fun e=>by
        rcases e with e|e
        · omega
        · have:=(hvlt b e).1;omega).trans (hbl.block b hb')⟩,Nat.le_trans hsz r3.size⟩
      rw [zzu];exact hou
    cases hwr:l[k].wr
    · by_cases hk1:k+1<l.length
      · refine wp_mono (zaz (ρ:=ρ) (K:=fun b=>b=R0∨vk.ownBlock=some b) (g:=ppG (R0+1) 4 vk (ppTo n id a x l k) (ppTo n id a x l k++ [ppAt n id a x l k])) (bl:= [(R0,0),(R,p+3*k)]) mixed zzm zCW hKw
          ⟨za1 oP (zab (zac D.d6) (zab (zaq D.b1) RL.nil)) (.inl rfl),zaX hxs (by unfold Sg.cells;simp) (zab (zac D.d3) (zab (zac D.d4) (zab (zaq D.b0) RL.nil))) hnR,trivial⟩
          (zbV (by simp;omega)) hG ⟨zay (Dw.enters_of (by kernel_rfl)) (by rfl) [.int .u16 1,.bool (posN n a x k).2,.bool false] (.int .u16 (zkV 1 (posN n a x k).2)) (fun j=>zab (zac rfl) (zab (zaq D.b1) (zab (zaq rfl) RL.nil))) (fun j=>zac (D.d8.trans (by rw [hff,hwr];rw [if_pos hk1];rfl))) (fun w F q hf=>zgI 1 (by decide) _ w),hGo D,trivial⟩ trivial ⟨zux D.v2 D.d6 (D.d3.trans ha0.symm) (D.d4.trans hl0.symm) D.d5 (D.d8.trans rfl) (by omega) (fun b hb=> .inr hb) (by rw [zgp];omega),trivial⟩ q0 qd (slots D)
          (zaa.2 ⟨by rw [zaQ,D.d0,D.d1];exact decide_eq_true (by omega),zaa.2 ⟨by rw [zaA,D.b0];exact hwr,zaa.2 ⟨by rw [zaQ,D.d0,dk1 D];exact decide_eq_true (by omega),zae.2 trivial⟩⟩⟩)) fun ex a2 w2 hh=> ?_
        obtain ⟨q,hq,hto,lf,hlf,rfl,hsz2,j2,hdf2,he⟩:=hh
        unfold zup at hq
        simp only [List.mem_cons,List.not_mem_nil,or_false] at hq
        subst hq
        cases hlf
        have hs2:=zav he.ret
        refine fin D hsz2 hdf2 he.mv he.gho ((he.rows.1 _ (he.sub _ _ hj1)).2 (.inr (.inl rfl)) rfl) ?_
        rw [hs2]
        simp only [AV.valL,AV.val,D.v1,D.d2,D.d5,dk1 D,zag (he.sub _ _ hj1)]
      · refine wp_mono (zaz (ρ:=ρ) (K:=fun b=>b=R0∨vk.ownBlock=some b) (g:=ppG (R0+1) 4 vk (ppTo n id a x l k) (ppTo n id a x l k++ [ppAt n id a x l k])) (bl:= [(R0,0),(R,p+3*k)]) mixed zzq zCY hKw
          ⟨za1 oP (zab (zac D.d6) (zab (zaq D.b1) RL.nil)) (.inl rfl),zaX hxs (by unfold Sg.cells;simp) (zab (zac D.d3) (zab (zac D.d4) (zab (zaq D.b0) RL.nil))) hnR,trivial⟩
          (zbV (by simp;omega)) hG ⟨zay (Dw.enters_of (by kernel_rfl)) (by rfl) [.int .u16 0,.bool (posN n a x k).2,.bool false] (.int .u16 (zkV 0 (posN n a x k).2)) (fun j=>zab (zac rfl) (zab (zaq D.b1) (zab (zaq rfl) RL.nil))) (fun j=>zac (D.d8.trans (by rw [hff,hwr];rw [if_neg hk1];rfl))) (fun w F q hf=>zgI 0 (by decide) _ w),hGo D,trivial⟩ trivial ⟨zux D.v2 D.d6 (D.d3.trans ha0.symm) (D.d4.trans hl0.symm) D.d5 (D.d8.trans rfl) (by omega) (fun b hb=> .inr hb) (by rw [zgp];omega),trivial⟩ q0 qd (slots D)
          (zaa.2 ⟨by rw [zaQ,D.d0,D.d1];exact decide_eq_true (by omega),zaa.2 ⟨by rw [zaA,D.b0];exact hwr,zaa.2 ⟨by rw [zaQ,D.d0,dk1 D];exact decide_eq_false (by omega),zae.2 trivial⟩⟩⟩)) fun ex a2 w2 hh=> ?_
        obtain ⟨q,hq,hto,lf,hlf,rfl,hsz2,j2,hdf2,he⟩:=hh
        unfold zut at hq
        simp only [List.mem_cons,List.not_mem_nil,or_false] at hq
        subst hq
        cases hlf
        have hs2:=zav he.ret
        refine fin D hsz2 hdf2 he.mv he.gho ((he.rows.1 _ (he.sub _ _ hj1)).2 (.inr (.inl rfl)) rfl) ?_
        rw [hs2]
        simp only [AV.valL,AV.val,D.v1,D.d2,D.d5,dk1 D,zag (he.sub _ _ hj1)]
    · by_cases hk1:k+1<l.length
      · refine wp_mono (zaz (ρ:=ρ) (K:=fun b=>b=R0∨vk.ownBlock=some b) (g:=ppG (R0+1) 4 vk (ppTo n id a x l k) (ppTo n id a x l k++ [ppAt n id a x l k])) (bl:= [(R0,0),(R,p+3*k)]) mixed zzk zCV hKw
          ⟨za1 oP (zab (zac D.d6) (zab (zaq D.b1) RL.nil)) (.inl rfl),zaX hxs (by unfold Sg.cells;simp) (zab (zac D.d3) (zab (zac D.d4) (zab (zaq D.b0) RL.nil))) hnR,trivial⟩
          (zbV (by simp;omega)) hG ⟨zay (Dw.enters_of (by kernel_rfl)) (by rfl) [.int .u16 3,.bool (posN n a x k).2,.bool false] (.int .u16 (zkV 3 (posN n a x k).2)) (fun j=>zab (zac rfl) (zab (zaq D.b1) (zab (zaq rfl) RL.nil))) (fun j=>zac (D.d8.trans (by rw [hff,hwr];rw [if_pos hk1];rfl))) (fun w F q hf=>zgI 3 (by decide) _ w),hGo D,trivial⟩ trivial ⟨zux D.v2 D.d6 (D.d3.trans ha0.symm) (D.d4.trans hl0.symm) D.d5 (D.d8.trans rfl) (by omega) (fun b hb=> .inr hb) (by rw [zgp];omega),trivial⟩ q0 qd (slots D)
          (zaa.2 ⟨by rw [zaQ,D.d0,D.d1];exact decide_eq_true (by omega),zaa.2 ⟨by rw [zaA,D.b0];exact hwr,zaa.2 ⟨by rw [zaQ,D.d0,dk1 D];exact decide_eq_true (by omega),zae.2 trivial⟩⟩⟩)) fun ex a2 w2 hh=> ?_
        obtain ⟨q,hq,hto,lf,hlf,rfl,hsz2,j2,hdf2,he⟩:=hh
        unfold zun at hq
        simp only [List.mem_cons,List.not_mem_nil,or_false] at hq
        subst hq
        cases hlf
        have hs2:=zav he.ret
        refine fin D hsz2 hdf2 he.mv he.gho ((he.rows.1 _ (he.sub _ _ hj1)).2 (.inr (.inl rfl)) rfl) ?_
        rw [hs2]
        simp only [AV.valL,AV.val,D.v1,D.d2,D.d5,dk1 D,zag (he.sub _ _ hj1)]
      · refine wp_mono (zaz (ρ:=ρ) (K:=fun b=>b=R0∨vk.ownBlock=some b) (g:=ppG (R0+1) 4 vk (ppTo n id a x l k) (ppTo n id a x l k++ [ppAt n id a x l k])) (bl:= [(R0,0),(R,p+3*k)]) mixed zzo zCX hKw
          ⟨za1 oP (zab (zac D.d6) (zab (zaq D.b1) RL.nil)) (.inl rfl),zaX hxs (by unfold Sg.cells;simp) (zab (zac D.d3) (zab (zac D.d4) (zab (zaq D.b0) RL.nil))) hnR,trivial⟩
          (zbV (by simp;omega)) hG ⟨zay (Dw.enters_of (by kernel_rfl)) (by rfl) [.int .u16 2,.bool (posN n a x k).2,.bool false] (.int .u16 (zkV 2 (posN n a x k).2)) (fun j=>zab (zac rfl) (zab (zaq D.b1) (zab (zaq rfl) RL.nil))) (fun j=>zac (D.d8.trans (by rw [hff,hwr];rw [if_neg hk1];rfl))) (fun w F q hf=>zgI 2 (by decide) _ w),hGo D,trivial⟩ trivial ⟨zux D.v2 D.d6 (D.d3.trans ha0.symm) (D.d4.trans hl0.symm) D.d5 (D.d8.trans rfl) (by omega) (fun b hb=> .inr hb) (by rw [zgp];omega),trivial⟩ q0 qd (slots D)
          (zaa.2 ⟨by rw [zaQ,D.d0,D.d1];exact decide_eq_true (by omega),zaa.2 ⟨by rw [zaA,D.b0];exact hwr,zaa.2 ⟨by rw [zaQ,D.d0,dk1 D];exact decide_eq_false (by omega),zae.2 trivial⟩⟩⟩)) fun ex a2 w2 hh=> ?_
        obtain ⟨q,hq,hto,lf,hlf,rfl,hsz2,j2,hdf2,he⟩:=hh
        unfold zur at hq
        simp only [List.mem_cons,List.not_mem_nil,or_false] at hq
        subst hq
        cases hlf
        have hs2:=zav he.ret
        refine fin D hsz2 hdf2 he.mv he.gho ((he.rows.1 _ (he.sub _ _ hj1)).2 (.inr (.inl rfl)) rfl) ?_
        rw [hs2]
        simp only [AV.valL,AV.val,D.v1,D.d2,D.d5,dk1 D,zag (he.sub _ _ hj1)]
  · have hkk:k=l.length:=by omega
    obtain ⟨ρ,D⟩:=ppD (m:=l.length) (k:=k) (n:=n) (id:=id) (a:=(posN n a x k).1) (fl:=0) (na:=0) (s:=⟨0,1,false⟩) (x:=(posN n a x k).2) (nx:=false) (sv:= .slice sa l.length cs) (ov:=vk) (by omega) (by omega) (by omega) (by omega) (by omega) (by omega) (by omega) zJf
    have hj1:jOf [(R0,0)] 1=some ⟨R0,0,0,none⟩:=rfl
    refine wp_mono (zaz (ρ:=ρ) (K:=fun b=>b=R0) (g:=Gho.none) (bl:= [(R0,0)]) mixed zCZ zGN (fun b hb=>hKw b (.inl hb)) ⟨za1 oP (zab (zac D.d6) (zab (zaq D.b1) RL.nil)) rfl,trivial⟩ (zbV (by simp)) zaK trivial trivial trivial q0 qd ?_ (zaa.2 ⟨by rw [zaQ,D.d0,D.d1];exact decide_eq_false (by omega),zae.2 trivial⟩)) fun ex a2 w2 hh=> ?_
    · intro t ht
      simp only [zfc,List.mem_cons,List.not_mem_nil,or_false] at ht
      rcases ht with rfl|rfl|rfl|rfl|rfl|rfl
      · rw [s1];exact zac D.d2
      · rw [s2];exact zac D.d5
      · rw [s3];exact ⟨D.v1.symm,_,_,_,rfl,D.d0.symm,trivial⟩
      · rw [s4];exact ⟨_,hj1,rfl⟩
      · rw [s11];exact zaR D.v2 hvo
      · rw [s12];exact zac D.d1
    · obtain ⟨q,hq,hto,lf,hlf,rfl,hsz2,j2,hdf2,he⟩:=hh
      unfold zzs at hq
      simp only [List.mem_cons,List.not_mem_nil,or_false] at hq
      subst hq
      cases hlf
      have hs2:=zav he.ret
      have hmv:=he.mv
      simp only [AV.valL,AV.val,D.v2,List.map_cons,List.map_nil,List.cons.injEq,and_true] at hs2
      have hb2:Below R0 w w2:=⟨hmv.os.trans hbl.os,hmv.tape.trans hbl.tape,hmv.output.trans hbl.output,Nat.le_trans hbl.size hmv.size,fun b hb'=>(hmv.block b (by have:=hbl.size;omega) fun e=>by omega).trans (hbl.block b hb')⟩
      show K a2 w2
      exact tail hsz2 hdf2 hs2 (hkk▸OwnR.kept hov fun b e=>hmv.block b (hvlt b e).2 fun e'=>by have:=(hvlt b e).1;omega) hb2
set_option maxRecDepth 100000 in
theorem Tryz.zwo {A:Nat→Prop} {w:World} {v:Value} {l:List Sg} {n id a:Int} {x:Bool} (h:SegV A w v l) (hl:l.length≤60000) (hm:zfC l≠0∨n<l.length) (hn:1≤n∧n≤32768) (ha:0≤a∧a<n) (hid:0≤id∧id<n):
    Calls prog 42 #[posV a x,.int .i64 n,.int .i64 id,v] w fun e w'=>e= .returned (.tuple #[.slice none 0 0,.int .i64 (if zfC l=0 then 2 else zfC l)])∧Below w.heap.size w w':=by
  have hmay:=fun w1 (hb:Below w.heap.size w w1)=>zAE (h.below hb) hl
  obtain ⟨sa,cs,rfl,hok,hr⟩:=h
  have hA:=(Below.refl w.heap.size w).alloc (Nat.le_refl _)
  obtain ⟨er,her⟩: ∃er,er=zfC l:=⟨_,rfl⟩
  rw [←her] at hm hmay ⊢
  clear her
  unfold posV
  by_cases h0:er=0
  · subst h0
    rw [if_pos rfl]
    have i3:n<(l.length:Int):=hm.resolve_left (fun h=>h rfl)
    clear hm
    have i1: ¬id<0:=by omega
    have i2: ¬n≤id:=by omega
    have i4: ¬a<0:=by omega
    have i5: ¬n≤a:=by omega
    have i6:1≤n:=hn.1
    have i7:n≤32768:=hn.2
    go_enter func42,ntmps42
    go_wp2_with (first
      | (go_at_call 54;refine (hmay _ (hA _)).mono ?_;rintro e w1 ⟨rfl,hb1⟩
         have kp:=(Cl.new w _ _).below hb1 (by simp)
         have c0:=kp.cell 0 _ rfl;have c1:=kp.cell 1 _ rfl)
      | go_in)
    go_ret2
    exact ⟨rfl,((hA _).trans (hb1.mono (by simp))).alloc (Nat.le_trans (by simp) hb1.size) _⟩
  · clear hm
    rw [if_neg h0]
    go_enter func42,ntmps42
    go_wp2_with (first
      | (go_at_call 54;refine (hmay _ (hA _)).mono ?_;rintro e w1 ⟨rfl,hb1⟩)
      | go_in)
    go_ret2
    exact ⟨rfl,(hA _).trans (hb1.mono (by simp))⟩
end Go.Proofs
namespace Go.Proofs
open Go.Dw
def Tryz.zpi:List Ent:=zIF
def Tryz.zul:List Sh:= []
def Tryz.zpj:List AV:= [.agg [.int .u64 (u64v 3),.int .u32 (u32v 4),.int .u16 (u16v 5),.int .u16 (u16v 6)]]
def Tryz.zCT:List (SB×Bool):= []
def Tryz.zzg:List Leaf:= [
 ⟨.opq 5 none,[],[],4,[]⟩]
def Tryz.zGJ:List (List (SB×Bool)×Nat):= [
 ([], 0)]
theorem Tryz.zCS:(ev prog (zau zpi) 100000 (.call 38 zpj (zas 0 zul) (zaM zzg 0))).ways zCT=some zGJ:=by kernel_rfl
theorem Tryz.zGK:(zah zul&&zaf zpi&&AV.smallL zpj&&zam zzg)=true:=by kernel_rfl
open Go.RowKit Go.Maps Go.Sort
theorem Tryz.zsd (p:Pt) (hp:p.ok) (w:World):
  Calls prog 38 #[.agg #[.int .u64 p.a,.int .u32 p.ln,.int .u16 p.f,.int .u16 p.nx]] w fun e w'=> ∃u,e= .returned u∧OwnR 5 1 w' w.heap.size u p.bytes.length (zbB p.bytes)∧Below w.heap.size w w':=by
 obtain ⟨ρ,d3,d4,d5,d6⟩: ∃ρ:Val,(u64v 3).den ρ=p.a∧(u32v 4).den ρ=p.ln∧(u16v 5).den ρ=p.f∧(u16v 6).den ρ=p.nx:=
  ⟨vof [0,0,0,p.a,p.ln,p.f,p.nx] [] [],zaJ hp.a.1 hp.a.2,zbw hp.ln.1 hp.ln.2,zbq hp.f.1 hp.f.2,zbq hp.nx.1 hp.nx.2⟩
 let L:Nat→List Int:=fun k=>match k with
  | 0=> []|1=>bytesOf p.a 8|2=>bytesOf p.a 8++bytesOf p.ln 4|3=>bytesOf p.a 8++bytesOf p.ln 4++bytesOf p.f 2|_=>p.bytes
 have l1:(L 1).length=8:=by simp [L,zc3]
 have l2:(L 2).length=12:=by simp [L,zc3]
 have l3:(L 3).length=14:=by simp [L,zc3]
 refine Calls.mono (zaF (ρ:=ρ) (K:=fun _=>False) (g:=rbG w.heap.size L) (bl:= []) (vals:= [.agg #[.int .u64 p.a,.int .u32 p.ln,.int .u16 p.f,.int .u16 p.nx]]) mixed zCS zGK (fun b h=>h.elim) trivial trivial ⟨fun _=>False,fun _ h=>h.elim,trivial⟩
  ⟨zt3 (n:=8) (.inl ⟨rfl,rfl⟩) rfl (by rw [d3];rfl) (by decide) (Nat.zero_le _),zt3 (n:=4) (.inr ⟨by decide,rfl⟩) rfl (by rw [d4];rfl) (by decide) (by omega),zt3 (n:=2) (.inr ⟨by decide,rfl⟩) rfl (by rw [d5];rfl) (by decide) (by omega),zt3 (n:=2) (.inr ⟨by decide,rfl⟩) rfl (by rw [d6];rfl) (by decide) (by omega),trivial⟩
  (zab (zbj (zab (zac d3) (zab (zac d4) (zab (zac d5) (zab (zac d6) RL.nil))))) RL.nil) (zae.2 trivial)) fun e w' hh=> ?_
 obtain ⟨_,j,he⟩:=zcg hh
 have hb:=zar he (fun _ h=>h)
 obtain ⟨F2,_,u,hu,hou,_⟩:=he.gho
 exact ⟨u,he.ret.trans (by rw [zd2 hu]),hou,hb⟩
end Go.Proofs
namespace Go.Proofs
open Go.Dw Go.RowKit
def Tryz.zpA:AV:= .sx 1 (lnv 4) 3 []
def Tryz.zc7:List AV:= [.bool (.lit true),.int .i64 (szv 0),.int .u64 (u64v 1),.int .u64 (u64v 2),.int .u64 (u64v 3)]
def Tryz.zC8:AV:= .agg [.int .i64 (lnv 14),.bool (.var 0)]
def Tryz.zIY (q:Nat):Ent:=⟨42,[zC8,.int .i64 (szv 0),.int .i64 (.var 5),zpA],0,q,1,.tup [.opq q (some (lnv 17)),.int .i64 (.var 7)],1⟩
def Tryz.zJJ:Ent:=⟨20,[zC8,.int .i64 (lnv 17),.int .i64 (szv 0)],2,0,0,.tup [.agg [.int .i64 (lnv 15),.bool (.var 1)],.int .i64 (.lit 0)],2⟩
def Tryz.zeC (b q:Nat):LEnt:=⟨[0,1,0,1,1,11],66,1,[(0,.cst 0 none),(6,.ptr b 0),(7,.ptr (b+1) 0),(10,.ptr (b+2) 0),(12,.opq q (some (lnv 17))),(13,.int .i64 (.var 7)),(14,.int .i64 (.lit 0))],[],[(b,zc7)],0,0,[⟨.lit true,.exit 0,[(6,.ptr b 0),(7,.ptr (b+1) 0),(10,.ptr (b+2) 0),(12,.opq q (some (lnv 17))),(13,.int .i64 (.var 7))],2⟩]⟩
def Tryz.poBytesE:Ent:=⟨38,[.agg [.int .u64 (u64v 10),.int .u32 (u32v 11),.int .u16 (u16v 12),.int .u16 (u16v 13)]],0,3,1,.opq 3 none,1⟩
def Tryz.zC7:Ent:=⟨39,[.cst 0 none,.int .u64 (.bin .add .u64 (u64v 1) (.bin .mul .u64 (.lit 16) (.wrap .u64 (.var 8)))),.opq 3 none],1,0,0,.int .i64 (.lit 0),2⟩
end Go.Proofs
namespace Go.Proofs
open Go.Dw
def Tryz.zpx:List Ent:= [poBytesE,zC7]
def Tryz.zuA:List Sh:= [.ro zc7,.ro [.int .i64 (.var 8),.int .u64 (u64v 10),.int .u32 (u32v 11),.int .u16 (u16v 12),.int .u16 (u16v 13)]]
def Tryz.zfd:List (Nat×AV):= [(0,.cst 0 none),(6,.ptr 1 0),(7,.cst 3 none),(10,.cst 4 none),(12,.sx 2 (lnv 17) 5 [(lnv 6,2)]),(13,.int .i64 (.var 7)),(14,.int .i64 (lnv 6))]
def Tryz.zlT:List LEnt:= []
def Tryz.zlU:List AEnt:= []
def Tryz.zuB:Option AV:=none
def Tryz.zC6:List (SB×Bool):= [(.cmp .lss (lnv 6) (lnv 17),true)]
def Tryz.zzA:List zbg:= [
 ⟨.normal,[0,6,7,10,12,13,14],none,⟨.tup [.cst 0 none,.ptr 1 0,.cst 3 none,.cst 4 none,.sx 2 ((lnv 17)) 5 [((lnv 6),2)],.int .i64 (.var 7),.int .i64 (.bin .add .i64 (lnv 6) (.lit 1))],[(1,[.bool (.lit true),.int .i64 (szv 0),.int .u64 (u64v 1),.int .u64 (u64v 2),.int .u64 (u64v 3)])],[],2,[]⟩⟩]
def Tryz.zzz:List (List (SB×Bool)×Nat):= [
 ([], 0)]
theorem Tryz.zC5:(evL prog (zau zpx) (zaD zlT) (zaC zlU) 100000 (.code (zaI prog [0,0,1,0,1,1,11]) [0,0,1,0,1,1,11] 66 (envS 66 zfd zuB) (zas 0 zuA) (zaH zzA 0))).ways zC6=some zzz:=by kernel_rfl
theorem Tryz.zGP:(zah zuA&&zaf zpx&&zak zlT&&zal zlU&&zan zfd&&zai zzA&&zaG 66 zfd&&Nat.ble 66 zaL&&zaB zuB)=true:=by kernel_rfl
def Tryz.zlS:List Ent:= []
def Tryz.zpv:List Sh:= [.ro zc7]
def Tryz.zdY:List (Nat×AV):= [(0,.cst 0 none),(6,.ptr 1 0),(7,.cst 3 none),(10,.cst 4 none),(12,.sx 2 (lnv 17) 5 []),(13,.int .i64 (.var 7)),(14,.int .i64 (lnv 6))]
def Tryz.zjx:List LEnt:= []
def Tryz.zjy:List AEnt:= []
def Tryz.zpw:Option AV:=none
def Tryz.zzy:List (SB×Bool):= [(.cmp .lss (lnv 6) (lnv 17),false)]
def Tryz.zuz:List zbg:= [
 ⟨(.exit 0),[6,7,10,12,13],none,⟨.tup [.ptr 1 0,.cst 3 none,.cst 4 none,.sx 2 ((lnv 17)) 5 [],.int .i64 (.var 7)],[(1,[.bool (.lit true),.int .i64 (szv 0),.int .u64 (u64v 1),.int .u64 (u64v 2),.int .u64 (u64v 3)])],[],0,[]⟩⟩]
def Tryz.zuy:List (List (SB×Bool)×Nat):= [
 ([], 0)]
theorem Tryz.zzx:(evL prog (zau zlS) (zaD zjx) (zaC zjy) 100000 (.code (zaI prog [0,0,1,0,1,1,11]) [0,0,1,0,1,1,11] 66 (envS 66 zdY zpw) (zas 0 zpv) (zaH zuz 0))).ways zzy=some zuy:=by kernel_rfl
theorem Tryz.zC4:(zah zpv&&zaf zlS&&zak zjx&&zal zjy&&zan zdY&&zai zuz&&zaG 66 zdY&&Nat.ble 66 zaL&&zaB zpw)=true:=by kernel_rfl
def Tryz.zuC:List Ent:= [zIY 4,zJJ]
def Tryz.zzB:List Sh:= []
def Tryz.zuD:List AV:= [.cst 0 none,prg,zC8,.int .i64 (.var 5),zpA]
def Tryz.zpy:List LEnt:= [zeC 1 4]
def Tryz.zpz:List AEnt:= []
def Tryz.zGR:List (SB×Bool):= []
def Tryz.zET:List Leaf:= [
 ⟨.tup [.agg [.int .i64 (lnv 15),.bool (.var 1)],.bool (.lit true)],[],[],2,[]⟩,
 ⟨.tup [.agg [.int .i64 (lnv 15),.bool (.var 1)],.bool (.lit false)],[],[],2,[]⟩]
def Tryz.zES:List (List (SB×Bool)×Nat):= [
 ([((.cmp .eql (.var 7) (.lit 0)),true)],0),
 ([((.cmp .eql (.var 7) (.lit 0)),false)],1)]
theorem Tryz.zGQ:(evL prog (zau zuC) (zaD zpy) (zaC zpz) 100000 (.call 11 zuD (zas 0 zzB) (zaM zET 0))).ways zGR=some zES:=by kernel_rfl
theorem Tryz.zIX:(zah zzB&&zaf zuC&&zak zpy&&zal zpz&&AV.smallL zuD&&zam zET)=true:=by kernel_rfl
open Go.RowKit Go.Maps Go.Sort
structure Tryz.PoD (ρ:Val) (r:Rg) (len n5 k e x8:Int) (p:Pt) (x14 x15 l17:Int) (b0 b1:Bool) (mv sv pv c3 c4:Value):Prop where
 n:(szv 0).den ρ=r.n
 d:(u64v 1).den ρ=r.d
 v:(u64v 2).den ρ=r.v
 c:(u64v 3).den ρ=r.c
 d4:(lnv 4).den ρ=len
 i5:ρ.i 5=n5
 d6:(lnv 6).den ρ=k
 i7:ρ.i 7=e
 i8:ρ.i 8=x8
 d10:(u64v 10).den ρ=p.a
 d11:(u32v 11).den ρ=p.ln
 d12:(u16v 12).den ρ=p.f
 d13:(u16v 13).den ρ=p.nx
 d14:(lnv 14).den ρ=x14
 d15:(lnv 15).den ρ=x15
 d17:(lnv 17).den ρ=l17
 b0:ρ.b 0=b0
 b1:ρ.b 1=b1
 v0:ρ.v 0=mv
 v1:ρ.v 1=sv
 v2:ρ.v 2=pv
 v3:ρ.v 3=c3
 v4:ρ.v 4=c4
theorem Tryz.poD {r:Rg} {len n5 k e x8:Int} {p:Pt} {x14 x15 l17:Int} {b0 b1:Bool} {mv sv pv c3 c4:Value} (hr:PgOk r) (h4:0≤len∧len<64000) (h6:0≤k∧k<64000) (hp:p.ok) (h14:0≤x14∧x14<64000) (h15:0≤x15∧x15<64000) (h17:0≤l17∧l17<64000):
  ∃ ρ,PoD ρ r len n5 k e x8 p x14 x15 l17 b0 b1 mv sv pv c3 c4:=by
 obtain ⟨⟨n1,n2⟩,hd,hv,hc⟩:=hr.nums
 exact ⟨vof [r.n,r.d,r.v,r.c,len,n5,k,e,x8,0,p.a,p.ln,p.f,p.nx,x14,x15,0,l17] [b0,b1] [mv,sv,pv,c3,c4],zdo n1 n2,zaJ hd.1 hd.2,zaJ hv.1 hv.2,zaJ hc.1 hc.2,
  zaw h4.1 (by show len<_;omega),rfl,zaw h6.1 (by show k<_;omega),rfl,rfl,zaJ hp.a.1 hp.a.2,zbw hp.ln.1 hp.ln.2,zbq hp.f.1 hp.f.2,zbq hp.nx.1 hp.nx.2,zaw h14.1 (by show x14<_;omega),zaw h15.1 (by show x15<_;omega),zaw h17.1 (by show l17<_;omega),rfl,rfl,rfl,rfl,rfl,rfl,rfl⟩
theorem Tryz.PoD.rgL {ρ:Val} {j:J} {r:Rg} {len n5 k e x8:Int} {p:Pt} {x14 x15 l17:Int} {b0 b1:Bool} {mv sv pv c3 c4:Value} (D:PoD ρ r len n5 k e x8 p x14 x15 l17 b0 b1 mv sv pv c3 c4):RL ρ j zc7 [.bool true,.int .i64 r.n,.int .u64 r.d,.int .u64 r.v,.int .u64 r.c]:=
 zab (zaq rfl) (zab (zac D.n) (zab (zac D.d) (zab (zac D.v) (zab (zac D.c) RL.nil))))
def Tryz.ppC (sa:Option Addr) (ls:List Sg) (b2 qn:Nat) (ps:List Pt):Gho where
 fact k q F w:=match k with|0=>SegF F w sa ls|1=> ∃u,q qn=some u∧znU w b2 u ps∧ ∀b,u.ownBlock=some b→F b|_=>True
 loc:=fun k q q' F w w' h hq hb hs=>by
  match k,h with
  | 0,h=>exact SegF.kept h hb
  | 1,⟨u,h7,h8,h9⟩=>exact ⟨u,hq _ _ h7,OwnR.kept h8 fun b e=>hb b (h9 b e),h9⟩
  | k+2,_=>trivial
set_option maxRecDepth 10000 in
theorem Tryz.zGS {ρ:Val} {w0:World} {P L Bs B N:Nat} {gk:Nat→Nat→Int} {sa:Option Addr} {ls:List Sg} {b qn nl:Nat} {ps:List Pt} {r:Rg} {n5 e x8 x14 x15 l17:Int} {b0 b1:Bool} {sv pv c3 c4:Value} {p0:Pt}
  (D:PoD ρ r nl n5 0 e x8 p0 x14 x15 l17 b0 b1 (.pointer (some ⟨P,0,none⟩)) sv pv c3 c4) (hr:PgOk r) (hN:N≤1048576) (hfit:r.d+16*r.n≤N) (hnl:nl<60000) (hpl:ps.length<60000) (hps: ∀p∈ps,p.ok∧0≤p.at0∧p.at0<r.n)
  (hlo:P<w0.heap.size∧L<w0.heap.size∧Bs<w0.heap.size∧B<w0.heap.size) (hg2:gk 2=zgl r.d ps (gk 1)):
  zrF prog ρ w0 (fun y=>y=B) (memC P L Bs B N gk (ppC sa ls w0.heap.size qn ps)) (zeC b qn):=by
 refine zmq ?_
 intro cc hc j a w F n hsz hdf hsl hrw hnone hbase hF hs0 hf hold
 obtain ⟨⟨fP,fL,fS,fB,hm⟩,u,hq,hou,hFu⟩:=hf
 have hsl0:=(hsl (0,.cst 0 none) (by simp [zeC])).2
 have hsl6:=(hsl (6,.ptr b 0) (by simp [zeC])).2
 have hsl7:=(hsl (7,.ptr (b+1) 0) (by simp [zeC])).2
 have hsl10:=(hsl (10,.ptr (b+2) 0) (by simp [zeC])).2
 have hsl11:=(hsl (12,.opq qn (some (lnv 17))) (by simp [zeC])).2
 have hsl12:=(hsl (13,.int .i64 (.var 7)) (by simp [zeC])).2
 have hsl13:=(hsl (14,.int .i64 (.lit 0)) (by simp [zeC])).2
 have g0:=R_val rfl hsl0
 have g12:=R_val rfl hsl12
 have g13:=R_val rfl hsl13
 simp only [AV.val,D.v0,zad,zat,D.i7] at g0 g12 g13
 obtain ⟨L7,hj7,g7⟩:=hsl7
 obtain ⟨L10,hj10,g10⟩:=hsl10
 obtain ⟨Lb,hjb,g6⟩:=hsl6
 obtain ⟨hLF,vals,hvals,hrow⟩:=hrw (b,zc7) (by simp [zeC]) Lb hjb
 have hvals:=zch (show AV.exactL zc7=true by decide) hvals D.rgL
 subst hvals
 have g11:a.tmps.getD 12 undef=u:=by
  obtain ⟨⟨Lq,hj,hu⟩,_⟩:=hsl11
  unfold opqs at hq
  rw [hj] at hq
  simp only [Option.bind_some] at hq
  rw [hu] at hq
  injection hq
 have hcc:cc=zaI prog [0,0,1,0,1,1,11]:=by
  have:=zhz (P:=prog) (p:= [0,1,0,1,1,11]) (by kernel_rfl)
  have hc:zaI prog [0,1,0,1,1,11]= .loop cc:=hc
  rw [hc] at this
  injection this
 subst hcc
 have hsz:a.tmps.size=66:=hsz
 have hult:=OwnR.lt hou
 obtain ⟨su,cu,rfl,hur⟩:=OwnR.row hou
 have hLlt:Lb.blk<w.heap.size:=ztQ hrow
 have hLB:Lb.blk≠B:=fun e=>hLF (e▸fB)
 refine zbT (fun (k:Nat) a' w'=>k≤ps.length∧a'.tmps.size=66∧a'.defers= []∧a'.tmps.getD 0 undef= .pointer (some ⟨P,0,none⟩)∧a'.tmps.getD 6 undef= .pointer (some ⟨Lb.blk,Lb.off+0,none⟩)∧a'.tmps.getD 7 undef= .pointer (some ⟨L7.blk,L7.off+0,none⟩)∧a'.tmps.getD 10 undef= .pointer (some ⟨L10.blk,L10.off+0,none⟩)∧a'.tmps.getD 12 undef= .slice su ps.length cu∧
   a'.tmps.getD 13 undef= .int .i64 e∧a'.tmps.getD 14 undef= .int .i64 k∧GM w' P L Bs B N (zgl r.d (ps.take k) (gk 1))∧Dw.Mv (fun y=>y=B) w w')
  (fun k=>ps.length-k) (fun k a1 w1 hI=> ?_) 0 a w ⟨Nat.zero_le _,hsz,hdf,g0,g6,g7,g10,g11,g12,by rw [g13];rfl,hm,Dw.Mv.refl _ _⟩
 obtain ⟨hkl,q0,qd,q00,q6,q7,q10,q11,q12,q13,hm1,hmv⟩:=hI
 have hrow1:Row w1 Lb [.bool true,.int .i64 r.n,.int .u64 r.d,.int .u64 r.v,.int .u64 r.c]:=hrow.kept (hmv.block _ hLlt hLB)
 have hwk:=zcN k (by omega)
 have hj1: ∀x,jOf ((Lb.blk,Lb.off)::x) 1=some ⟨Lb.blk,Lb.off,0,none⟩:=fun _=>rfl
 by_cases hk:k<ps.length
 ·rcases hur with h0|⟨G,rfl,hGo,hur⟩
  ·have:=congrArg List.length h0
   rw [zkT] at this
   simp at this
   omega
  have hGlt:=hult G hGo
  have hur1:=zaN hur (hmv.block G hGlt.2 (by omega))
  have hx:=zCK hur1 k hk
  obtain ⟨hpo,ha0,ha1⟩:=hps ps[k] (List.getElem_mem hk)
  have htk:ps.take (k+1)=ps.take k++ [ps[k]]:=by rw [List.take_add_one,List.getElem?_eq_getElem hk];rfl
  generalize hX:ps[k]=X at hx hpo ha0 ha1 htk
  obtain ⟨ρ',D'⟩:=poD (r:=r) (len:=nl) (n5:=n5) (k:=k) (e:=e) (x8:=X.at0) (p:=X) (x14:=0) (x15:=0) (l17:=ps.length) (b0:=false) (b1:=false) (mv:= .pointer (some ⟨P,0,none⟩)) (sv:=undef) (pv:= .slice (some ⟨G,0,none⟩) ps.length cu) (c3:= .pointer (some ⟨L7.blk,L7.off+0,none⟩)) (c4:= .pointer (some ⟨L10.blk,L10.off+0,none⟩)) hr (by omega) (by omega) hpo (by omega) (by omega) (by omega)
  have hj2:jOf [(Lb.blk,Lb.off),(G,0+5*k)] 2=some ⟨G,0+5*k,0,none⟩:=rfl
  have hd0:=hr.d
  have hbn:=hr.bnd
  have hda:(SE.bin .add .u64 (u64v 1) (.bin .mul .u64 (.lit 16) (.wrap .u64 (.var 8)))).den ρ'=((r.d+16*X.at0).toNat:Nat):=by
   have e8:(SE.wrap .u64 (.var 8)).den ρ'=X.at0:=by
    show IntKind.wrap .u64 (ρ'.i 8)=_
    rw [D'.i8];exact zbC (by omega) (by omega)
   rw [den_add,den_mul,e8,zad,D'.d,zbC (k:=16*X.at0) (by omega) (by omega),zbC (by omega) (by omega)]
   omega
  refine wp_mono (zaz (ρ:=ρ') (K:=fun y=>y=B) (g:=memC P L Bs B N (fun k'=>match k' with|2=>zgl r.d (ps.take (k+1)) (gk 1)|_=>zgl r.d (ps.take k) (gk 1)) (byC w1.heap.size X.bytes)) (bl:= [(Lb.blk,Lb.off),(G,0+5*k)]) mixed zC5 zGP (fun y h=>by rw [h];exact hm1.bl)
   ⟨zcO hrow1 (by simp) D'.rgL hLB,zaX hx (by simp [Pt.cells]) (zab (zac D'.i8) (zab (zac D'.d10) (zab (zac D'.d11) (zab (zac D'.d12) (zab (zac D'.d13) RL.nil))))) (by omega),trivial⟩
   ⟨fun h=>(by cases h),fun h=>(by cases h),trivial⟩ ?_ ⟨?_,?_,trivial⟩ trivial trivial q0 qd ?_ (zaa.2 ⟨by rw [zaQ,D'.d6,D'.d17];simp only [decide_eq_true_eq];omega,zae.2 trivial⟩)) fun ex a2 w2 hh=> ?_
  ·refine ⟨fun y=>y=P∨y=L∨y=Bs∨y=B,fun y hy=>⟨?_,fun hmn=> ?_⟩,⟨.inl rfl,.inr (.inl rfl),.inr (.inr (.inl rfl)),.inr (.inr (.inr rfl)),hm1⟩,trivial⟩
   ·rcases hy with rfl|rfl|rfl|rfl
    ·exact hm1.pl
    ·exact hm1.ll
    ·exact hm1.sl
    ·exact hm1.bl
   ·have:=zde hmn
    simp only [List.map_cons,List.map_nil,List.mem_cons,List.not_mem_nil,or_false] at this
    rcases this with e1|e1
    ·rcases hy with h|h|h|h<;>(rw [h] at e1;rw [←e1] at hLF;contradiction)
    ·rcases hy with h|h|h|h<;>omega
  ·refine ⟨Dw.enters_of (by kernel_rfl),fun j' w3 vals' F' m hv hnone' hb' hF' hsz' hf' _=> ?_⟩
   have hb':m=3:=hb' (by show (1:Nat)≠0;decide)
   subst hb'
   have hv:=zch (show AV.exactL poBytesE.args=true by decide) hv (zab (zbj (zab (zac D'.d10) (zab (zac D'.d11) (zab (zac D'.d12) (zab (zac D'.d13) RL.nil))))) RL.nil)
   subst hv
   obtain ⟨⟨f1,f2,f3,f4,hm3⟩,_⟩:=hf'
   refine Calls.mono (zsd X hpo w3) fun en w' hh=> ?_
   obtain ⟨v,rfl,hv,hbl⟩:=hh
   refine ⟨_,[v],fun y=>F' y∨v.ownBlock=some y,rfl,rfl,⟨⟨⟨0,0,0,some v⟩,?_,rfl⟩,OwnR.one hv,fun _ h=>(by cases h)⟩,⟨⟨.inl f1,.inl f2,.inl f3,.inl f4,GM.below (g:=zgl r.d (ps.take k) (gk 1)) hm3 hbl⟩,v,zb5,OwnR.mono hv hsz',fun y h=> .inr h⟩,?_,Dw.Mv.of_below hbl⟩
   ·show jq j' 3 _ 3=_
    unfold jq
    rw [if_pos ⟨Nat.le_refl _,by simp⟩]
    simp
   ·rintro y (h|h)
    ·exact ⟨Nat.lt_of_lt_of_le (hF' y h) hbl.size,.inl h⟩
    ·exact ⟨(OwnR.lt hv y h).2,.inr (OwnR.lt hv y h).1⟩
  ·refine ⟨Dw.enters_of (by kernel_rfl),fun j' w3 vals' F' m hv hnone' hb' hF' hsz' hf' _=> ?_⟩
   obtain ⟨x0,_,rfl,e0,hv⟩:=hv
   obtain ⟨x1,_,rfl,e1,hv⟩:=hv
   obtain ⟨x2,_,rfl,e2,hv⟩:=hv
   have hv:_= []:=hv
   subst hv
   obtain ⟨⟨f1,f2,f3,f4,hm3⟩,v,hq3,hv3,hFv⟩:=hf'
   have hm3:GM w3 P L Bs B N (zgl r.d (ps.take k) (gk 1)):=hm3
   have e0:x0= .pointer (some ⟨P,0,none⟩):=by rw [R_val rfl e0];exact D'.v0
   have e1:x1= .int .u64 ((r.d+16*X.at0).toNat:Nat):=by rw [show x1= .int .u64 (SE.den ρ' (.bin .add .u64 (u64v 1) (.bin .mul .u64 (.lit 16) (.wrap .u64 (.var 8))))) from e1,hda]
   have e2:x2=v:=by
    obtain ⟨⟨Lq,hj,hu⟩,_⟩:=e2
    unfold opqs at hq3
    rw [hj] at hq3
    simp only [Option.bind_some] at hq3
    rw [hu] at hq3
    injection hq3
   subst e0 e1 e2
   have hvl:=OwnR.lt hv3
   obtain ⟨sv',cv,rfl,hvr⟩:=OwnR.row hv3
   rcases hvr with h0|⟨G',rfl,hGo',hvr⟩
   ·have:=congrArg List.length h0
    rw [zbB,List.length_map,Pt.bytes_len] at this
    cases this
   refine Calls.mono (ztj P L Bs B N _ G' 0 cv X.bytes _ w3 hm3 hN (by rw [Pt.bytes_len];decide) (by rw [Pt.bytes_len];omega) X.bytes_bnd hvr (hvl G' hGo').2) fun en w' hh=> ?_
   obtain ⟨rfl,hm4,hmv4⟩:=hh
   refine ⟨_,[],F',rfl,rfl,?_,⟨⟨f1,f2,f3,f4,?_⟩,trivial⟩,fun y h=>⟨Nat.lt_of_lt_of_le (hF' y h) hmv4.size,.inl h⟩,(zJk hmv4).mono fun y h=>by subst h;exact ⟨f4,.inr rfl⟩⟩
   ·exact zac rfl
   ·show GM w' P L Bs B N (zgl r.d (ps.take (k+1)) (gk 1))
    rw [htk,zwr];exact hm4
  ·intro t ht
   simp only [zfd,List.mem_cons,List.not_mem_nil,or_false] at ht
   rcases ht with rfl|rfl|rfl|rfl|rfl|rfl|rfl
   ·rw [q00];exact zaR D'.v0 rfl
   ·rw [q6];exact ⟨_,hj1 _,rfl⟩
   ·rw [q7];exact zaR D'.v3 rfl
   ·rw [q10];exact zaR D'.v4 rfl
   ·rw [q11];exact ⟨D'.v2.symm,_,_,_,rfl,D'.d17.symm,⟨G,0,_,k,rfl,hj2,rfl,D'.d6,hk,rfl⟩,trivial⟩
   ·rw [q12];exact zac D'.i7
   ·rw [q13];exact zac D'.d6
  ·obtain ⟨q,hq',hto,lf,hlf,rfl,hsz2,j2,hdf2,he⟩:=hh
   unfold zzz at hq'
   simp only [List.mem_cons,List.not_mem_nil,or_false] at hq'
   subst hq'
   cases hlf
   obtain ⟨F2,_,⟨_,_,_,_,hm5⟩,_⟩:=he.gho
   have hs2:=zav he.ret
   have lc1:=zag (he.sub _ _ (hj1 [(G,0+5*k)]))
   simp only [AV.valL,AV.val,D'.v0,D'.v2,D'.v3,D'.v4,D'.d6,D'.i7,zat,den_add,zad,hwk,lc1,List.map_cons,List.map_nil,List.cons.injEq,and_true] at hs2
   obtain ⟨p0',p6',p7',p10',p11',p12',p13'⟩:=hs2
   exact ⟨k+1,by omega,hk,hsz2,hdf2,p0',p6',p7',p10',p11',p12',p13',hm5,hmv.trans he.mv⟩
 ·have hkk:k=ps.length:=by omega
  subst hkk
  obtain ⟨ρ',D'⟩:=poD (r:=r) (len:=nl) (n5:=n5) (k:=ps.length) (e:=e) (x8:=0) (p:=okPt0) (x14:=0) (x15:=0) (l17:=ps.length) (b0:=false) (b1:=false) (mv:= .pointer (some ⟨P,0,none⟩)) (sv:=undef) (pv:= .slice su ps.length cu) (c3:= .pointer (some ⟨L7.blk,L7.off+0,none⟩)) (c4:= .pointer (some ⟨L10.blk,L10.off+0,none⟩)) hr (by omega) (by omega) zu9 (by omega) (by omega) (by omega)
  refine wp_mono (zaz (ρ:=ρ') (K:=fun _=>False) (g:=Gho.none) (bl:= [(Lb.blk,Lb.off)]) mixed zzx zC4 (fun y h=>h.elim) ⟨zcO hrow1 (by simp) D'.rgL (fun h=>h),trivial⟩ ⟨fun h=>(by cases h),trivial⟩ zaK trivial trivial trivial q0 qd ?_ (zaa.2 ⟨by rw [zaQ,D'.d6,D'.d17];simp,zae.2 trivial⟩)) fun ex a2 w2 hh=> ?_
  ·intro t ht
   simp only [zdY,List.mem_cons,List.not_mem_nil,or_false] at ht
   rcases ht with rfl|rfl|rfl|rfl|rfl|rfl|rfl
   ·rw [q00];exact zaR D'.v0 rfl
   ·rw [q6];exact ⟨_,hj1 _,rfl⟩
   ·rw [q7];exact zaR D'.v3 rfl
   ·rw [q10];exact zaR D'.v4 rfl
   ·rw [q11];exact ⟨D'.v2.symm,_,_,_,rfl,D'.d17.symm,trivial⟩
   ·rw [q12];exact zac D'.i7
   ·rw [q13];exact zac D'.d6
  ·obtain ⟨q,hq',hto,lf,hlf,rfl,hsz2,j2,hdf2,he⟩:=hh
   have hb3:=zar he (fun _ h=>h)
   unfold zuy at hq'
   simp only [List.mem_cons,List.not_mem_nil,or_false] at hq'
   subst hq'
   cases hlf
   have hs2:=zav he.ret
   have lc1:=zag (he.sub _ _ (hj1 []))
   simp only [AV.valL,AV.val,D'.v2,D'.v3,D'.v4,D'.i7,zat,lc1,List.map_cons,List.map_nil,List.cons.injEq,and_true] at hs2
   obtain ⟨p6',p7',p10',p11',p12'⟩:=hs2
   rw [List.take_length] at hm1
   refine ⟨⟨.lit true,.exit 0,[(6,.ptr b 0),(7,.ptr (b+1) 0),(10,.ptr (b+2) 0),(12,.opq qn (some (lnv 17))),(13,.int .i64 (.var 7))],2⟩,[],F,by unfold zeC;rw [zbA,if_pos (show SB.den ρ (.lit true)=true from rfl)],rfl,hsz2,hdf2,(fun t ht=>by cases ht),rfl,fun s hs=> ?_,⟨⟨fP,fL,fS,fB,?_⟩,trivial⟩,fun y h=>⟨Nat.lt_of_lt_of_le (hF y h) (Nat.le_trans hmv.size hb3.size),.inl h⟩,(hmv.trans (Dw.Mv.of_below hb3)).mono fun y h=>by subst h;exact ⟨fB,.inr rfl⟩⟩
   ·rw [zdg]
    simp only [List.mem_cons,List.not_mem_nil,or_false] at hs
    rcases hs with rfl|rfl|rfl|rfl|rfl
    ·rw [p6'];exact ⟨Lb,hjb,rfl⟩
    ·rw [p7'];exact ⟨L7,hj7,rfl⟩
    ·rw [p10'];exact ⟨L10,hj10,rfl⟩
    ·rw [p11',←g11];exact hsl11
    ·rw [p12',←g12];exact hsl12
   ·rw [hg2];exact hm1.below hb3
def Tryz.ppOk (n:Int) (l:List Sg):Prop:=zfC l=0∧(l.length:Int)≤n
instance (n:Int) (l:List Tryz.Sg):Decidable (Tryz.ppOk n l):=by unfold Tryz.ppOk;infer_instance
def Tryz.zbo (n id a:Int) (x:Bool) (l:List Sg):List Pt:=if ppOk n l then ppTo n id a x l l.length else []
def Tryz.zwL (n:Int) (l:List Sg):Int:=if ppOk n l then 0 else if zfC l=0 then 2 else zfC l
theorem Tryz.zrV {A:Nat→Prop} {w:World} {v:Value} {l:List Sg} {n id a:Int} {x:Bool} (h:SegV A w v l) (hl:l.length≤60000) (hn:1≤n∧n≤32768) (ha:0≤a∧a<n) (hid:0≤id∧id<n):
  Calls prog 42 #[posV a x,.int .i64 n,.int .i64 id,v] w fun e w'=>(∃u,e= .returned (.tuple #[u,.int .i64 (zwL n l)])∧znU w' w.heap.size u (zbo n id a x l))∧Below w.heap.size w w':=by
 unfold zwL zbo
 by_cases hk:ppOk n l
 ·rw [if_pos hk,if_pos hk]
  exact zrU h hk.1 hk.2 hn ha hid
 ·rw [if_neg hk,if_neg hk]
  refine Calls.mono (zwo h hl (by unfold ppOk at hk;omega) hn ha hid) fun e w' hh=> ?_
  obtain ⟨rfl,hb⟩:=hh
  exact ⟨⟨_,rfl,OwnR.nil _ _ _ _⟩,hb⟩
theorem Tryz.zC2 {n:Int} {l:List Sg}:zwL n l=0↔ppOk n l:=by
 unfold zwL
 by_cases hk:ppOk n l
 ·rw [if_pos hk];exact ⟨fun _=>hk,fun _=>rfl⟩
 ·rw [if_neg hk]
  refine ⟨fun h=> ?_,fun h=>absurd h hk⟩
  split at h
  ·cases h
  ·contradiction
theorem Tryz.zGO {n id a:Int} {x:Bool} {l:List Sg} (hok: ∀y∈l,y.ok) (hn:n≤32768) (ha:0≤a∧a<n) (hid:0≤id∧id<n): ∀p∈ppTo n id a x l l.length,p.ok∧0≤p.at0∧p.at0<n:=fun p hp=>by
 obtain ⟨k,hk,rfl⟩:=List.mem_map.1 hp
 have hk:k<l.length:=List.mem_range.1 hk
 have h1:=hok l[k] (List.getElem_mem hk)
 have e1:l.getD k ⟨0,0,false⟩=l[k]:=by simp [List.getD_eq_getElem?_getD,hk]
 refine ⟨⟨?_,?_,?_,?_⟩,zjw ha k⟩
 ·simp only [ppAt,e1];exact ⟨h1.1,h1.2.1⟩
 ·simp only [ppAt,e1];exact ⟨h1.2.2.1,h1.2.2.2⟩
 ·show 0≤id∧id<65536;omega
 ·simp only [ppAt,zkV]
  repeat' split
  all_goals decide
theorem Tryz.zzv {n id a:Int} {x:Bool} {l:List Sg} (hok: ∀y∈l,y.ok) (hn:n≤32768) (ha:0≤a∧a<n) (hid:0≤id∧id<n): ∀p∈zbo n id a x l,p.ok∧0≤p.at0∧p.at0<n:=fun p hp=>by
 unfold zbo at hp
 split at hp
 ·exact zGO hok hn ha hid p hp
 ·cases hp
theorem Tryz.zpu {n id a:Int} {x:Bool} {l:List Sg} (hn:0≤n):((zbo n id a x l).length:Int)≤n:=by
 unfold zbo
 split
 ·rename_i h
  rw [zgp];exact h.2
 ·exact hn
theorem Tryz.zGT {ρ:Val} {w0:World} {K:Nat→Prop} {P L Bs B N:Nat} {gk:Nat→Nat→Int} {sa:Option Addr} {cs qn:Nat} {l:List Sg} {r:Rg} {id a e x8 x15:Int} {x b1:Bool} {p0:Pt} {mv pv c3 c4:Value}
  (D:PoD ρ r l.length id 0 e x8 p0 a x15 (zbo r.n id a x l).length x b1 mv (.slice sa l.length cs) pv c3 c4) (he:e=zwL r.n l) (hr:PgOk r) (hok: ∀y∈l,y.ok) (hl:l.length≤60000) (ha:0≤a∧a<r.n) (hid:0≤id∧id<r.n) (hgk:gk 1=gk 0):
  zaO prog ρ w0 K (memC P L Bs B N gk (ppC sa l w0.heap.size qn (zbo r.n id a x l))) (zIY qn):=by
 refine ⟨Dw.enters_of (by kernel_rfl),fun j w1 vals F m hv hnone hb hF hsz hf hold=> ?_⟩
 have hb:m=qn:=hb (by show (1:Nat)≠0;decide)
 subst hb
 have hbn:=hr.bnd
 obtain ⟨x0,_,rfl,e0,hv⟩:=hv
 obtain ⟨x1,_,rfl,e1,hv⟩:=hv
 obtain ⟨x2,_,rfl,e2,hv⟩:=hv
 obtain ⟨x3,_,rfl,e3,hv⟩:=hv
 have hv:_= []:=hv
 subst hv
 have e0:x0=posV a x:=by rw [R_val rfl e0];simp only [zC8,AV.val,AV.valL,D.d14,zaA,D.b0];rfl
 have e1:x1= .int .i64 r.n:=by rw [R_val rfl e1];simp only [AV.val,D.n]
 have e2:x2= .int .i64 id:=by rw [R_val rfl e2];simp only [AV.val,zat,D.i5]
 have e3:x3= .slice sa l.length cs:=by rw [R_val rfl e3];exact D.v1
 subst e0 e1 e2 e3
 obtain ⟨⟨f1,f2,f3,f4,hm⟩,hsg⟩:=hf
 refine Calls.mono (zrV (SegF.v hsg hok cs) hl ⟨hbn.1,by omega⟩ ha hid) fun en w' hh=> ?_
 obtain ⟨⟨u,rfl,hu⟩,hbl⟩:=hh
 obtain ⟨su,cu,hue,_⟩:=OwnR.row hu
 refine ⟨_,[u],fun b=>F b∨u.ownBlock=some b,rfl,rfl,zc5 (zab ⟨⟨⟨0,0,0,some u⟩,?_,rfl⟩,OwnR.one hu,fun n h=> ?_⟩ (zab (zac (D.i7.trans he)) RL.nil)),⟨⟨.inl f1,.inl f2,.inl f3,.inl f4,?_⟩,u,zb5,OwnR.mono hu hsz,fun b h=> .inr h⟩,?_,Dw.Mv.of_below hbl⟩
 ·show jq j m _ m=_
  unfold jq
  rw [if_pos ⟨Nat.le_refl _,by simp⟩]
  simp
 ·cases h
  exact ⟨su,_,cu,hue,D.d17.symm⟩
 ·show GM w' P L Bs B N (gk 1)
  rw [hgk];exact hm.below hbl
 ·rintro b (h|h)
  ·exact ⟨Nat.lt_of_lt_of_le (hF b h) hbl.size,.inl h⟩
  ·exact ⟨(OwnR.lt hu b h).2,.inr (OwnR.lt hu b h).1⟩
set_option maxRecDepth 10000 in
theorem Tryz.zwM {A:Nat→Prop} {w:World} {P L Bs B N:Nat} {g:Nat→Int} {r:Rg} {sv:Value} {l:List Sg} {id a:Int} {x:Bool} (hm:GM w P L Bs B N g) (hN:N≤1048576) (hr:PgOk r) (hfit:4104+16*r.n≤N)
    (hsv:SegV A w sv l) (hl:l.length<60000) (ha:0≤a∧a<r.n) (hid:0≤id∧id<r.n):
    Calls prog 11 #[.pointer (some ⟨P,0,none⟩),r.pval,posV a x,.int .i64 id,sv] w fun e w'=>
      e= .returned (.tuple #[posV (zaW r.n a x (zbo r.n id a x l).length).1 (zaW r.n a x (zbo r.n id a x l).length).2,.bool (decide (ppOk r.n l))])∧GM w' P L Bs B N (zgl r.d (zbo r.n id a x l) g)∧Dw.Mv (fun b=>b=B) w w':=by
  have h0:=hsv
  obtain ⟨sa,cs,rfl,hok,hrs⟩:=hsv
  have hb:=hr.bnd
  have q1:=hr.d
  have hps:=zzv (x:=x) hok (by omega) ha hid
  have hpl:=zpu (id:=id) (a:=a) (x:=x) (l:=l) (n:=r.n) (by omega)
  have hgo:=zgq (n:=r.n) (a:=a) (c:=(zbo r.n id a x l).length) (x:=x) ha ⟨by omega,hpl⟩
  obtain ⟨ρ,D⟩:=poD (r:=r) (len:=l.length) (n5:=id) (k:=0) (e:=zwL r.n l) (x8:=0) (p:=okPt0) (x14:=a) (x15:=(zaW r.n a x (zbo r.n id a x l).length).1) (l17:=(zbo r.n id a x l).length) (b0:=x) (b1:=(zaW r.n a x (zbo r.n id a x l).length).2) (mv:= .pointer (some ⟨P,0,none⟩)) (sv:= .slice sa l.length cs) (pv:=undef) (c3:=undef) (c4:=undef) hr (by omega) (by omega) zu9 (by omega) (by omega) (by omega)
  have hF: ∀b,(b=P∨b=L∨b=Bs∨b=B∨(l≠ []∧ ∃o',sa=some ⟨b,o',none⟩))→b<w.heap.size:=fun b h=>by
    rcases h with rfl|rfl|rfl|rfl|⟨h,o',e⟩
    · exact hm.pl
    · exact hm.ll
    · exact hm.sl
    · exact hm.bl
    · rcases hrs with h1|⟨R,o,e1,_,h2⟩
      · exact absurd h1 h
      · rw [e] at e1;cases e1
        exact zdu h2 h
  have hSF:SegF (fun b=>b=P∨b=L∨b=Bs∨b=B∨(l≠ []∧ ∃o',sa=some ⟨b,o',none⟩)) w sa l:=by
    by_cases h:l= []
    · exact .inl h
    · rcases hrs with h1|⟨R,o,e1,_,h2⟩
      · exact .inl h1
      · exact .inr ⟨R,o,e1,.inr (.inr (.inr (.inr ⟨h,o,e1⟩))),h2⟩
  refine Calls.mono (zhp (ρ:=ρ) (K:=fun y=>y=B) (g:=memC P L Bs B N (fun k=>match k with|0=>g|1=>g|_=>zgl r.d (zbo r.n id a x l) g) (ppC sa l w.heap.size 4 (zbo r.n id a x l))) (bl:= [])
      (vals:= [.pointer (some ⟨P,0,none⟩),r.pval,posV a x,.int .i64 id,.slice sa l.length cs]) mixed zGQ zIX (fun b h=>by rw [h];exact hm.bl) trivial trivial
      ⟨fun b=>b=P∨b=L∨b=Bs∨b=B∨(l≠ []∧ ∃o',sa=some ⟨b,o',none⟩),fun b h=>⟨hF b h,fun hmn=>by
        have:=zde hmn
        simp at this⟩,⟨.inl rfl,.inr (.inl rfl),.inr (.inr (.inl rfl)),.inr (.inr (.inr (.inl rfl))),hm⟩,hSF⟩
      ⟨zGT D rfl hr hok (by omega) ha hid rfl,
       zay (Dw.enters_of (by kernel_rfl)) (by decide) [posV a x,.int .i64 (zbo r.n id a x l).length,.int .i64 r.n] (.tuple #[posV (zaW r.n a x (zbo r.n id a x l).length).1 (zaW r.n a x (zbo r.n id a x l).length).2,.int .i64 0]) (fun j=>zab (zbj (zab (zac D.d14) (zab (zaq D.b0) RL.nil))) (zab (zac D.d17) (zab (zac D.n) RL.nil))) (fun j=>zc5 (zab (zbj (zab (zac D.d15) (zab (zaq D.b1) RL.nil))) (zab (zac rfl) RL.nil))) (fun w F q hf=>zyt ⟨hb.1,by omega⟩ ha ⟨by omega,hpl⟩ w),trivial⟩
      ⟨zGS D hr hN (by omega) hl (by omega) hps ⟨hm.pl,hm.ll,hm.sl,hm.bl⟩ rfl,trivial⟩ trivial
      (zab (zaR D.v0 rfl) (zab (zbj D.rgL) (zab (zbj (zab (zac D.d14) (zab (zaq D.b0) RL.nil))) (zab (zac D.i5) (zab ⟨D.v1.symm,_,_,_,rfl,D.d4.symm,trivial⟩ RL.nil)))))
      (zae.2 trivial)) fun e w' hh=> ?_
  obtain ⟨p,hpm,hto,lf,hlf,j,he⟩:=hh
  unfold zES at hpm
  simp only [List.mem_cons,List.not_mem_nil,or_false] at hpm
  rcases hpm with rfl|rfl
  all_goals
    simp only [zaa,zae,zbb,zat,zad,D.i7,beq_iff_eq,beq_eq_false_iff_ne,ne_eq,and_true] at hto
    rw [zC2] at hto
    cases hlf
    obtain ⟨F2,_,⟨_,_,_,_,hm2⟩,_⟩:=he.gho
    have hR:=he.ret
    simp only [AV.val,AV.valL,D.d15,zaA,D.b1,zbO] at hR
  · rw [decide_eq_true hto];exact ⟨hR,hm2,he.mv⟩
  · rw [decide_eq_false hto];exact ⟨hR,hm2,he.mv⟩
end Go.Proofs
namespace Go.Proofs
open Go.Dw Go.RowKit
structure Tryz.PE (s:PS) (steps:Nat):Prop where
 brk:s.br=true→s.ph=0
 cnt:s.ph≠0→steps+(if s.ph≤6 then 1 else 7)≤s.ph
 seg: ∀e∈s.tk,e.2.sg.length≤64
theorem Tryz.PE.fresh (ev tb:Bool) (k:Nat):PE (PS.fresh ev tb) k:=⟨fun h=>(by cases h),fun h=>absurd rfl h,fun e he=>by cases he⟩
theorem Tryz.PE.poll {s:PS} {k:Nat} (h:PE s k):PE (zbh s).2 (if (zbh s).1=0 then 0 else k):=by
 unfold zbh
 split
 ·exact h
 ·split
  ·exact h
  ·exact ⟨fun h=>(by cases h),fun _=>(by show 0+1≤1;decide),h.seg⟩
theorem Tryz.PE.ret {s:PS} {k:Nat} (h:PE s k) (hd wr:Int):PE (zci s hd wr).2 (if (zci s hd wr).1=0 then 0 else k):=by
 unfold zci
 split
 ·exact h
 ·split
  ·exact h
  ·split
   ·exact h
   ·split
    ·exact h
    ·exact ⟨fun h=>(by cases h),fun _=>(by show 0+7≤7;decide),h.seg⟩
theorem Tryz.zy0 {h:Int} {tk:List (Int×PTk)} {e:Int×PTk} (he:e∈zcH h tk):e∈tk:=(zfa h tk).subset he
theorem Tryz.PE.goto {s:PS} {k:Nat} (h:PE s k) (hb:s.br=false) (hp:s.ph≠0) {q:Nat} (hq:s.ph<q) (hq2:s.ph≤6→q≤6):PE (s.goto q) (k+1):=by
 have h1:=h.cnt hp
 refine ⟨fun h=>(by cases h),fun _=> ?_,h.seg⟩
 show k+1+(if q≤6 then 1 else 7)≤q
 split at h1
 ·rename_i h6
  rw [if_pos (hq2 h6)];omega
 ·rw [if_neg (by omega)];omega
theorem Tryz.PE.step {N:Nat} {r:Rg} {s:PS} {g:Nat→Int} {k:Nat} (h:PE s k) (hg: ∀j,0≤g j∧g j<256) (hn:1≤r.n) (h11:s.ph≤11):PE (zba N r s g).2.2.1 (k+1):=by
 unfold zba
 split
 ·rename_i hb
  exact ⟨h.brk,fun hp=>absurd (h.brk hb) hp,h.seg⟩
 ·rename_i hb
  have hb:s.br=false:=by simpa using hb
  split
  ·rename_i h0
   exact ⟨h.brk,fun hp=>absurd h0 hp,h.seg⟩
  ·rename_i h0
   have stop: ∀ {t:PS},(∀e∈t.tk,e.2.sg.length≤64)→PE t.stop (k+1):=fun ht=>⟨fun h=>(by cases h),fun h=>absurd rfl h,ht⟩
   have hph:s.ph=1∨s.ph=2∨s.ph=3∨s.ph=4∨s.ph=5∨s.ph=6∨s.ph=7∨s.ph=8∨s.ph=9∨s.ph=10∨s.ph=11:=by omega
   have go:=fun (q:Nat) (h1:s.ph<q) (h2:s.ph≤6→q≤6)=>h.goto hb h0 h1 h2
   rcases hph with hp|hp|hp|hp|hp|hp|hp|hp|hp|hp|hp<;>rw [hp]<;>unfold zdc<;>simp only
   ·split
    ·exact go 5 (by omega) (by omega)
    ·split
     ·exact go 2 (by omega) (by omega)
     ·exact stop h.seg
   ·exact go 3 (by omega) (by omega)
   ·exact go 4 (by omega) (by omega)
   ·split
    ·exact go 5 (by omega) (by omega)
    ·exact stop h.seg
   ·exact go 6 (by omega) (by omega)
   ·split
    ·exact ⟨fun _=>rfl,fun h=>absurd rfl h,h.seg⟩
    ·rename_i hh
     refine stop fun e he=> ?_
     rcases List.mem_append.1 he with he|he
     ·exact h.seg e he
     ·rw [List.mem_singleton] at he;subst he
      exact (zu1 hg hn (Decidable.byContradiction fun e=>hh (.inl e))).2.2.2
   ·exact go 8 (by omega) (by omega)
   ·exact go 9 (by omega) (by omega)
   ·exact go 10 (by omega) (by omega)
   ·exact go 11 (by omega) (by omega)
   ·exact stop fun e he=>h.seg e (zy0 he)
def Tryz.mayW (r:Rg) (j:Nat):Prop:=(r.d≤j∧(j:Int)<r.d+16*r.n)∨(r.c≤j∧(j:Int)<r.c+4)
theorem Tryz.zr9 {N:Nat} {r:Rg} {s:PS} {g:Nat→Int} (hr:PgOk r) (hb:PB r s): ∃a:Nat,(∀j,(zba N r s g).2.2.2 j≠g j→(a≤j∧j<a+6)∧mayW r j):=by
 have hn:=hr.bnd
 have q1:=hr.d
 have q3:=hr.c
 have hu:=hb.us
 have same: ∃a:Nat,∀j,g j≠g j→(a≤j∧j<a+6)∧mayW r j:=⟨0,fun j h=>absurd rfl h⟩
 unfold zba
 split
 ·exact same
 ·split
  ·exact same
  ·rename_i h0
   have h11:=hb.ph
   have hph:s.ph=1∨s.ph=2∨s.ph=3∨s.ph=4∨s.ph=5∨s.ph=6∨s.ph=7∨s.ph=8∨s.ph=9∨s.ph=10∨s.ph=11:=by omega
   rcases hph with hp|hp|hp|hp|hp|hp|hp|hp|hp|hp|hp<;>rw [hp]<;>unfold zdc<;>simp only
   ·exact same
   ·refine ⟨r.c.toNat,fun j hj=> ?_⟩
    have:=ze9 hj
    exact ⟨by omega,.inr (by omega)⟩
   ·exact same
   ·exact same
   ·exact same
   ·split
    ·exact same
    ·exact same
   ·refine ⟨(4096+16*s.us+8).toNat,fun j hj=> ?_⟩
    have:((4096+16*s.us+12).toNat≤j∧j<(4096+16*s.us+12).toNat+2)∨((4096+16*s.us+8).toNat≤j∧j<(4096+16*s.us+8).toNat+4):=by
     by_cases h1:putW (putW g (4096+16*s.us+8).toNat 4 s.wr) (4096+16*s.us+12).toNat 2 s.hd j=putW g (4096+16*s.us+8).toNat 4 s.wr j
     ·exact .inr (ze9 (h1▸hj))
     ·exact .inl (ze9 h1)
    exact ⟨by omega,.inl (by omega)⟩
   ·exact same
   ·refine ⟨(4096+16*s.us+14).toNat,fun j hj=> ?_⟩
    have:=ze9 hj
    exact ⟨by omega,.inl (by omega)⟩
   ·exact same
   ·exact same
theorem Tryz.PtW.set {A A':Nat→Prop} {w:World} {M:Nat} {n:Int} {tk:List (Int×PTk)} (h:PtW A w M n tk) (hA: ∀b,b<w.heap.size→A' b→A b):PtW A' w M n tk:=by
 obtain ⟨arr,clock,h1,h2,h3⟩:=h.map
 refine ⟨⟨arr,clock,h1,h2,fun k=>⟨(h3 k).1,fun t ht=> ?_⟩⟩,h.keys,h.rng⟩
 obtain ⟨v,h4,h5⟩:=(h3 k).2 t ht
 exact ⟨v,h4,h5.set hA⟩
theorem Tryz.PW.set {A A':Nat→Prop} {w:World} {S P L Bs B M N:Nat} {r:Rg} {s:PS} {g:Nat→Int} (h:PW A w S P L Bs B M N r s g) (hA: ∀b,b<w.heap.size→A' b→A b) (aS:A' S) (aM:A' M) (aB:A' B) (hl: ∀b,A' b→b<w.heap.size):PW A' w S P L Bs B M N r s g:=by
 obtain ⟨sv,h1,h2⟩:=h.obj
 exact ⟨⟨sv,h1,h2.set hA⟩,h.tk.set hA,h.ne,aS,aM,h.rg,h.pb,h.mem,h.hN,h.sd,h.md,aB,hl,h.fit⟩
open Go.Maps Go.Sort
structure Tryz.Ob (σ:Type) where
 L:σ→(Nat→Prop)→World→Prop
 T:Nat→Prop
 kept: ∀ {s F w w'},L s F w→(∀b,F b→w'.heap[b]? =w.heap[b]?)→w.heap.size≤w'.heap.size→L s F w'
 leans: ∀ {s F w},L s F w→ ∀b,T b→F b
def Tryz.obG {σ:Type} (O:Ob σ) (X:Nat→Prop) (bX b2:Nat) (sk:Nat→σ) (rows:Nat→List LwR):Gho where
 fact k q F w:=(∀b,F b→X b∨bX≤b)∧ ∃F0:Nat→Prop,(∀b,F0 b→F b)∧O.L (sk k) F0 w∧ ∀e∈rows k,∃(u:Value) (t:TypeId),e.is q u∧OwnR t e.sz w b2 u e.n e.cs∧ ∀b,u.ownBlock=some b→F b∧ ¬F0 b
 loc:=fun k q q' F w w' h hq hb hs=>⟨h.1,by
  obtain ⟨_,F0,h0,h1,h2⟩:=h
  refine ⟨F0,h0,O.kept h1 (fun b h=>hb b (h0 b h)) hs,fun e he=> ?_⟩
  obtain ⟨u,t,q1,q2,q3⟩:=h2 e he
  refine ⟨u,t,?_,OwnR.kept q2 fun b e=>hb b (q3 b e).1,q3⟩
  unfold LwR.is at q1 ⊢
  split at q1
  ·exact hq _ _ q1
  ·exact q1⟩
section
variable {σ:Type} {O:Tryz.Ob σ} {X:Nat→Prop} {bX:Nat} {ρ:Val} {w0:World} {K:Nat→Prop} {b2:Nat} {sk:Nat→σ} {rows:Nat→List Tryz.LwR} {f:FuncId} {args:List AV} {res:AV} {k k':Nat}
theorem Tryz.zAs (he:Dw.Enters prog f) (hx:AV.exactL args=true) (hbX:bX≤w0.heap.size) (V:List Value) (U:Value) (ha: ∀j,RL ρ j args V) (hr: ∀j,Dw.R ρ j res U) (hlt: ∀b,O.T b→b<b2) (hK: ∀b,O.T b→K b) (hrows: ∀e∈rows k',e∈rows k)
  (h: ∀(F0:Nat→Prop) (w:World),(∀b,b<w0.heap.size→ ¬K b→w.heap[b]? =w0.heap[b]?)→O.L (sk k) F0 w→Calls prog f V.toArray w fun e w'=>e= .returned U∧O.L (sk k') (fun b=>F0 b∨(w.heap.size≤b∧b<w'.heap.size)) w'∧Dw.Mv O.T w w'):
  zaO prog ρ w0 K (obG O X bX b2 sk rows) ⟨f,args,k,0,0,res,k'⟩:=by
 refine ⟨he,fun j w vals F n hv hnone _ hF hsz hf hold=> ?_⟩
 have hv:=zch hx hv (ha j)
 subst hv
 obtain ⟨hXF,F0,hF0,h1,h2⟩:=hf
 refine Calls.mono (h _ w hold h1) fun en w' hh=> ?_
 obtain ⟨rfl,hsw,hmv⟩:=hh
 refine ⟨U,[],fun b=>F b∨(w.heap.size≤b∧b<w'.heap.size),rfl,rfl,hr _,⟨fun b hb=> ?_,fun b=>F0 b∨(w.heap.size≤b∧b<w'.heap.size),fun b hb=>hb.imp_left (hF0 b),hsw,fun e he=> ?_⟩,?_,hmv.mono fun b hb=>⟨hF0 b (O.leans h1 b hb),.inr (hK b hb)⟩⟩
 ·rcases hb with hb|⟨hb,_⟩
  ·exact hXF b hb
  ·exact .inr (by omega)
 ·obtain ⟨u,t,q1,q2,q3⟩:=h2 e (hrows e he)
  refine ⟨u,t,by rw [zdg];exact q1,OwnR.kept q2 fun b hb=>hmv.block b (OwnR.lt q2 b hb).2 fun hh=> ?_,fun b hb=>⟨.inl (q3 b hb).1,fun hn=> ?_⟩⟩
  ·have:=(OwnR.lt q2 b hb).1
   have:=hlt b hh
   omega
  ·have:=(OwnR.lt q2 b hb).2
   rcases hn with hn|hn
   ·exact (q3 b hb).2 hn
   ·omega
 ·rintro b (hb|⟨q1,q2⟩)
  ·exact ⟨Nat.lt_of_lt_of_le (hF b hb) hmv.size,.inl hb⟩
  ·exact ⟨q2,.inr q1⟩
theorem Tryz.zFh {q:Nat} {e0:LwR} (he:Dw.Enters prog f) (hx:AV.exactL args=true) (hbX:bX≤w0.heap.size) (V:List Value) (ha: ∀j,RL ρ j args V) (hb2:b2≤w0.heap.size) (hr: ∀j u,j q=some ⟨0,0,0,some u⟩→u.oneCell'=true→(∃sa c,u= .slice sa e0.n c)→Dw.R ρ j res u) (hrows: ∀e∈rows k',e=e0∨e∈rows k) (hq:e0.q=some q) (hs:sk k'=sk k)
  (h: ∀(F0:Nat→Prop) (w:World),O.L (sk k) F0 w→Calls prog f V.toArray w fun e w'=> ∃(u:Value) (t:TypeId),e= .returned u∧OwnR t e0.sz w' w.heap.size u e0.n e0.cs∧Below w.heap.size w w'):
  zaO prog ρ w0 K (obG O X bX b2 sk rows) ⟨f,args,k,q,1,res,k'⟩:=by
 refine ⟨he,fun j w vals F n hv hnone hb hF hsz hf _=> ?_⟩
 have hb:n=q:=hb (by show (1:Nat)≠0;decide)
 subst hb
 have hv:=zch hx hv (ha j)
 subst hv
 obtain ⟨hXF,F0,hF0,h1,h2⟩:=hf
 refine Calls.mono (h _ w h1) fun en w' hh=> ?_
 obtain ⟨u,t,rfl,hu,hbl⟩:=hh
 have hj:jq j n [u] n=some ⟨0,0,0,some u⟩:=by
  unfold jq
  rw [if_pos ⟨Nat.le_refl _,by simp⟩]
  simp
 obtain ⟨sa,c,hsl,_⟩:=OwnR.row hu
 refine ⟨u,[u],fun b=>F b∨u.ownBlock=some b,rfl,rfl,hr _ u hj (OwnR.one hu) ⟨sa,c,hsl⟩,⟨fun b hb=> ?_,F0,fun b hb=> .inl (hF0 b hb),?_,fun e he=> ?_⟩,?_,Dw.Mv.of_below hbl⟩
 ·rcases hb with hb|hb
  ·exact hXF b hb
  ·have:=(OwnR.lt hu b hb).1
   exact .inr (by omega)
 ·rw [hs]
  exact O.kept h1 (fun b hb=>hbl.block b (hF b (hF0 b hb))) hbl.size
 ·rcases hrows e he with rfl|he
  ·refine ⟨u,t,?_,OwnR.mono hu (by omega),fun b hb=>⟨.inr hb,fun hn=> ?_⟩⟩
   ·unfold LwR.is
    rw [hq]
    exact zb5
   ·have:=(OwnR.lt hu b hb).1
    have:=hF b (hF0 b hn)
    omega
  ·obtain ⟨v,t',q1,q2,q3⟩:=h2 e he
   refine ⟨v,t',?_,OwnR.kept q2 fun b hb=>hbl.block b (OwnR.lt q2 b hb).2,fun b hb=>⟨.inl (q3 b hb).1,(q3 b hb).2⟩⟩
   unfold LwR.is at q1 ⊢
   split at q1
   ·rename_i m hm
    unfold opqs jq at*
    by_cases hlt:n≤m
    ·have:=hnone m hlt
     rw [this] at q1;cases q1
    ·rw [if_neg (fun hh=>hlt hh.1)];exact q1
   ·exact q1
 ·rintro b (hb|hb)
  ·exact ⟨Nat.lt_of_lt_of_le (hF b hb) hbl.size,.inl hb⟩
  ·exact ⟨(OwnR.lt hu b hb).2,.inr (OwnR.lt hu b hb).1⟩
theorem Tryz.zFg (he:Dw.Enters prog f) (hx:AV.exactL args=true) (V:List Value) (U:Value) (ha: ∀j,RL ρ j args V) (hr: ∀j,Dw.R ρ j res U)
  (h: ∀(F0:Nat→Prop) (w:World),O.L (sk k) F0 w→Calls prog f V.toArray w fun e w'=>e= .returned U∧Below w.heap.size w w'):
  zaO prog ρ w0 K (obG O X bX b2 sk rows) ⟨f,args,k,0,0,res,k⟩:=
 zay he hx V U ha hr fun w F q hf=>by
  obtain ⟨_,F0,_,h1,_⟩:=hf
  exact h F0 w h1
end
structure Tryz.PwF (S P L Bs B M N:Nat) (r:Rg) (s:PS×(Nat→Int)) (F:Nat→Prop) (w:World):Prop where
 fS:F S
 fM:F M
 fP:F P
 fL:F L
 fs:F Bs
 fB:F B
 sw:PW (AF S M B F w) w S P L Bs B M N r s.1 s.2
section
variable {S P L Bs B M N:Nat} {r:Tryz.Rg} {s s':Tryz.PS×(Nat→Int)} {F F':Nat→Prop} {w w':World}
theorem Tryz.PwF.kept (h:PwF S P L Bs B M N r s F w) (hb: ∀b,F b→w'.heap[b]? =w.heap[b]?) (hs:w.heap.size≤w'.heap.size):PwF S P L Bs B M N r s F w':=by
 obtain ⟨h1,h2,h3,h4,h5,h6,h7⟩:=h
 have l1:=h7.ltS
 have l2:=h7.ltM
 have l3:=h7.mem.bl
 have hk: ∀k,k<w.heap.size→ ¬(¬F k∨k=S∨k=M∨k=B)→w'.heap[k]? =w.heap[k]? :=fun k _ hn=>hb k (Classical.byContradiction fun hF=>hn (.inl hF))
 obtain ⟨sv,o1,o2⟩:=h7.obj
 have s1:=(o2.set (A':=fun b=> ¬F b∨b=S∨b=M∨b=B) (fun b hb hh=>⟨hb,hh⟩)).kept hk
 have t1:=(h7.tk.set (A':=fun b=> ¬F b∨b=S∨b=M∨b=B) (fun b hb hh=>⟨hb,hh⟩)).kept (hb M h2) hk
 exact ⟨h1,h2,h3,h4,h5,h6,⟨⟨sv,o1.kept (hb S h1),s1.set fun b _ hh=>hh.2⟩,t1.set (fun b _ hh=>hh.2),h7.ne,⟨by omega,.inr (.inl rfl)⟩,⟨by omega,.inr (.inr (.inl rfl))⟩,h7.rg,h7.pb,h7.mem.kept (fun k _ hk=>by rcases hk with rfl|rfl|rfl|rfl<;>exact hb _ (by assumption)) hs,h7.hN,h7.sd,h7.md,⟨by omega,.inr (.inr (.inr rfl))⟩,fun b hb=>hb.1,h7.fit⟩⟩
theorem Tryz.PwF.next (h:PwF S P L Bs B M N r s F w) (hsw:PW (AF S M B F w) w' S P L Bs B M N r s'.1 s'.2) (hs:w.heap.size≤w'.heap.size) (hF: ∀b,F b→F' b) (hn: ∀b,w.heap.size≤b→b<w'.heap.size→F' b):PwF S P L Bs B M N r s' F' w':=by
 obtain ⟨h1,h2,h3,h4,h5,h6,h7⟩:=h
 have l1:=h7.ltS
 have l2:=h7.ltM
 have l3:=h7.mem.bl
 refine ⟨hF S h1,hF M h2,hF P h3,hF L h4,hF Bs h5,hF B h6,hsw.set (fun b hb hh=> ?_) ⟨by omega,.inr (.inl rfl)⟩ ⟨by omega,.inr (.inr (.inl rfl))⟩ ⟨by omega,.inr (.inr (.inr rfl))⟩ fun b hb=>hb.1⟩
 obtain ⟨_,hh⟩:=hh
 by_cases hlt:b<w.heap.size
 ·rcases hh with hh|hh
  ·exact ⟨hlt,.inl fun hf=>hh (hF b hf)⟩
  ·exact ⟨hlt,.inr hh⟩
 ·rcases hh with hh|hh
  ·exact absurd (hn b (by omega) hb) hh
  ·rcases hh with rfl|rfl|rfl<;>exact absurd (by assumption) hlt
theorem Tryz.PwF.stored {g':Nat→Int} (h:PwF S P L Bs B M N r s F w) (hm:Dw.Mv (fun b=>b=B) w w') (hg:GM w' P L Bs B N g'):PwF S P L Bs B M N r (s.1,g') F w':=by
 obtain ⟨h1,h2,h3,h4,h5,h6,h7⟩:=h
 have hs:=hm.size
 have l1:=h7.ltS
 have l2:=h7.ltM
 have l3:=h7.mem.bl
 have hB: ∀b,b≠B→b<w.heap.size→w'.heap[b]? =w.heap[b]? :=fun b hb hlt=>hm.block b hlt hb
 have hk: ∀k,k<w.heap.size→ ¬(¬F k∨k=S∨k=M∨k=B)→w'.heap[k]? =w.heap[k]? :=fun k hk hn=>hB k (fun e=>hn (.inr (.inr (.inr e)))) hk
 obtain ⟨sv,o1,o2⟩:=h7.obj
 have s1:=(o2.set (A':=fun b=> ¬F b∨b=S∨b=M∨b=B) (fun b hb hh=>⟨hb,hh⟩)).kept hk
 have t1:=(h7.tk.set (A':=fun b=> ¬F b∨b=S∨b=M∨b=B) (fun b hb hh=>⟨hb,hh⟩)).kept (hB M (fun e=>h7.md.2.2.2 e) l2) hk
 exact ⟨h1,h2,h3,h4,h5,h6,⟨⟨sv,o1.kept (hB S (fun e=>h7.sd.2.2.2 e) l1),s1.set fun b _ hh=>hh.2⟩,t1.set (fun b _ hh=>hh.2),h7.ne,⟨by omega,.inr (.inl rfl)⟩,⟨by omega,.inr (.inr (.inl rfl))⟩,h7.rg,h7.pb,hg,h7.hN,h7.sd,h7.md,⟨by omega,.inr (.inr (.inr rfl))⟩,fun b hb=>hb.1,h7.fit⟩⟩
end
def Tryz.pwO (S P L Bs B M N:Nat) (r:Rg):Ob (PS×(Nat→Int)) where
 L:=PwF S P L Bs B M N r
 T b:=b=S∨b=M∨b=B
 kept h hb hs:=h.kept hb hs
 leans h b hb:=by
  rcases hb with rfl|rfl|rfl
  ·exact h.fS
  ·exact h.fM
  ·exact h.fB
section
variable {X:Nat→Prop} {bX:Nat} {ρ:Val} {w0:World} {K:Nat→Prop} {S P L Bs B M N:Nat} {r:Tryz.Rg} {b2:Nat} {sk:Nat→Tryz.PS×(Nat→Int)} {rows:Nat→List Tryz.LwR} {f:FuncId} {args:List AV} {res:AV} {k k':Nat}
theorem Tryz.zr2 (he:Dw.Enters prog f) (hx:AV.exactL args=true) (hbX:bX≤w0.heap.size) (V:List Value) (U:Value) (ha: ∀j,RL ρ j args V) (hr: ∀j,Dw.R ρ j res U) (hlt:S<b2∧M<b2∧B<b2) (hK:K S∧K M∧K B) (hrows: ∀e∈rows k',e∈rows k)
  (h: ∀(A:Nat→Prop) (w:World),PW A w S P L Bs B M N r (sk k).1 (sk k).2→Calls prog f V.toArray w fun e w'=>e= .returned U∧PW A w' S P L Bs B M N r (sk k').1 (sk k').2∧Dw.Mv (sK S M B) w w'):
  zaO prog ρ w0 K (obG (pwO S P L Bs B M N r) X bX b2 sk rows) ⟨f,args,k,0,0,res,k'⟩:=
 zAs he hx hbX V U ha hr (fun b hb=>by rcases hb with rfl|rfl|rfl;exact hlt.1;exact hlt.2.1;exact hlt.2.2) (fun b hb=>by rcases hb with rfl|rfl|rfl;exact hK.1;exact hK.2.1;exact hK.2.2) hrows fun F0 w hold h1=>Calls.mono (h _ w h1.sw) fun e w' hh=>⟨hh.1,h1.next hh.2.1 hh.2.2.size (fun b hb=> .inl hb) fun b q1 q2=> .inr ⟨q1,q2⟩,hh.2.2⟩
theorem Tryz.zEI (he:Dw.Enters prog f) (hx:AV.exactL args=true) (hbX:bX≤w0.heap.size) (V:List Value) (U:Value) (ha: ∀j,RL ρ j args V) (hr: ∀j,Dw.R ρ j res U) (hlt:S<b2∧M<b2∧B<b2) (hK:K S∧K M∧K B) (hrows: ∀e∈rows k',e∈rows k) (hs:(sk k').1=(sk k).1)
  (h: ∀w:World,(∀b,b<w0.heap.size→ ¬K b→w.heap[b]? =w0.heap[b]?)→GM w P L Bs B N (sk k).2→Calls prog f V.toArray w fun e w'=>e= .returned U∧GM w' P L Bs B N (sk k').2∧Dw.Mv (fun b=>b=B) w w'):
  zaO prog ρ w0 K (obG (pwO S P L Bs B M N r) X bX b2 sk rows) ⟨f,args,k,0,0,res,k'⟩:=
 zAs he hx hbX V U ha hr (fun b hb=>by rcases hb with rfl|rfl|rfl;exact hlt.1;exact hlt.2.1;exact hlt.2.2) (fun b hb=>by rcases hb with rfl|rfl|rfl;exact hK.1;exact hK.2.1;exact hK.2.2) hrows fun F0 w hold h1=>Calls.mono (h w hold h1.sw.mem) fun e w' hh=>⟨hh.1,by
  have h2:=h1.stored hh.2.2 hh.2.1
  have e1:sk k'=((sk k).1,(sk k').2):=by rw [←hs]
  have h3:PwF S P L Bs B M N r (sk k') F0 w':=by rw [e1];exact h2
  exact h3.next (s':=sk k') (F':=fun b=>F0 b∨(w.heap.size≤b∧b<w'.heap.size)) h3.sw (Nat.le_refl _) (fun b hb=> .inl hb) (fun b q1 q2=>absurd q2 (by omega)),hh.2.2.mono fun b hb=> .inr (.inr hb)⟩
end
end Go.Proofs
namespace Go.Proofs
open Go.Dw Go.RowKit
def Tryz.zfu:List AV:= [.int .i64 (.var 8),.int .i64 (.var 9),.int .u32 (u32v 10),.int .u64 (u64v 11),.int .u32 (u32v 12),.int .u16 (u16v 13),.int .u16 (u16v 14),.bool (.var 7),zpA]
def Tryz.zen (l:List Nat):List (Nat×AV):=l.map fun t=>(t,.cst (100+t) none)
def Tryz.zsh:List AV:= [.int .i64 (lnv 5),.bool (.var 5)]
def Tryz.zcA (acts:AV) (steps i:SE):List (Nat×AV):= [(0,.int .i64 (szv 0)),(2,acts),(7,.cst 0 none),(8,.cst 2 none),(9,.ptr 1 0),(11,.int .u64 (u64v 19)),(14,.int .i64 steps),(15,.ptr 2 0),(16,.int .i64 i)]
def Tryz.zdC:AV:= .sx 4 (lnv 7) 9 [(lnv 6,3)]
def Tryz.zdB (k q k':Nat):Ent:=⟨24,[.cst 0 none],k,q,1,.opq q none,k'⟩
def Tryz.zeE (k q n:Nat):Ent:=⟨21,[.cst 2 none],k,q,1,.opq q (some (lnv n)),k⟩
def Tryz.zna (a m:SE) (x:Nat) (k:Nat):Ent:=⟨7,[.int .i64 a,.int .i64 m],k,0,0,.int .i64 (.var x),k⟩
def Tryz.zhi (k:Int):Ent:=⟨7,[.int .i64 (.var 8),.int .i64 (.lit 7)],1,0,0,.int .i64 (.lit k),1⟩
def Tryz.zzL:Ent:=⟨12,[.cst 2 none],1,0,0,.int .i64 (.var 21),2⟩
def Tryz.zzJ:Ent:=⟨27,[.cst 2 none],1,0,0,.tup [.agg [.int .i64 (.var 30),.int .i64 (.var 31),.int .i64 (.var 32)],.int .i64 (.var 21)],2⟩
def Tryz.zeF (k b:Nat):Ent:=⟨26,[.cst 2 none],k,0,0,.bool (.var b),k⟩
def Tryz.zlY (k:Nat):Ent:=⟨28,[.cst 2 none],k,0,0,.int .i64 (.var 23),k⟩
def Tryz.zuG:Ent:=⟨25,[.cst 0 none,.int .u64 (.wrap .u64 (.var 20)),.int .i64 (.lit 4),.int .u64 (u32v 10)],1,0,0,.int .i64 (.lit 0),2⟩
def Tryz.zcd (steps:SE) (hds:AV):List (Nat×AV):= [(0,.int .i64 (szv 0)),(2,zdC),(7,.cst 0 none),(8,.cst 2 none),(14,.int .i64 steps),(15,.ptr 2 0),(16,.int .i64 (lnv 6)),(19,hds)]
def Tryz.zbi (k was now:Nat) (steps:SE) (hds:AV):LEnt:=⟨[0,1,0,1,1,1,1,1,1,0,0,1,0,0,1,0,1,1,1,1,1,1,1,1,4],232,k,[(9,.ptr 1 0),(11,.int .u64 (u64v 19)),(18,.opq was none),(26,.opq now none),(27,.int .i64 (.lit 0)),(28,.int .i64 (.lit 0))]++zcd steps hds,[],[(1,zc7)],0,0,
 [⟨.lit true,.exit 3,[(9,.ptr 1 0),(11,.int .u64 (u64v 19)),(27,.int .i64 (.var 33))]++zcd steps hds,k⟩]⟩
def Tryz.zzN:Ent:=⟨21,[.cst 2 none],1,7,1,.opq 7 (some (lnv 17)),6⟩
def Tryz.zaV:List (Nat×AV):= [(0,.int .i64 (szv 0)),(2,zdC),(7,.cst 0 none),(8,.cst 2 none),(9,.ptr 1 0),(11,.int .u64 (u64v 19)),(15,.ptr 2 0),(16,.int .i64 (lnv 6)),(18,.opq 5 none),(19,.int .i64 (lnv 17))]
def Tryz.zaU:LEnt:=⟨[1,0,1,1,1,0,1,0,1,1,1,0,0,1,0,0,1,0,1,1,1,1,1,1,1,1,4],232,6,[(14,.int .i64 (.var 15)),(17,.ptr 4 0),(20,.opq 7 (some (lnv 17)))]++zaV,[],[(4,zfu)],0,0,
 [⟨.var 3,.normal,(14,.int .i64 (.lit 0))::zaV,2⟩,⟨.lit true,.normal,(14,.int .i64 (.var 15))::zaV,2⟩]⟩
def Tryz.zuH:Ent:=⟨11,[.cst 0 none,prg,.agg [.int .i64 (lnv 5),.bool (.var 5)],.int .i64 (.var 20),zpA],1,0,0,.tup [.agg [.int .i64 (lnv 34),.bool (.var 6)],.bool (.var 2)],2⟩
end Go.Proofs
namespace Go.Proofs
open Go.Dw
def Tryz.zuZ:List Ent:= []
def Tryz.zAi:List Sh:= [.ro zc7,.ro [.int .u8 (.var 27)],.ro [.int .u8 (.var 28)]]
def Tryz.zgB:List (Nat×AV):= [(9,.ptr 1 0),(11,.int .u64 (u64v 19)),(18,.sx 6 (lnv 29) 1 [(lnv 26,2)]),(26,.sx 7 (lnv 29) 1 [(lnv 26,3)]),(27,.int .i64 (lnv 35)),(28,.int .i64 (lnv 26))]++zen [0,2,7,8,14,15,16,19]
def Tryz.zqh:List LEnt:= []
def Tryz.zqi:List AEnt:= []
def Tryz.zAj:Option AV:=none
def Tryz.zHi:List (SB×Bool):= [(.cmp .lss (lnv 26) (lnv 29),true),(.cmp .eql (.var 28) (.var 27),true)]
def Tryz.zE9:List zbg:= [
 ⟨.normal,[9,11,18,26,27,28,0,2,7,8,14,15,16,19],none,⟨.tup [.ptr 1 0,.int .u64 (u64v 19),.sx 6 ((lnv 29)) 1 [((lnv 26),2)],.sx 7 ((lnv 29)) 1 [((lnv 26),3)],.int .i64 (lnv 35),.int .i64 (.bin .add .i64 (lnv 26) (.lit 1)),.cst 100 none,.cst 102 none,.cst 107 none,.cst 108 none,.cst 114 none,.cst 115 none,.cst 116 none,.cst 119 none],[(1,[.bool (.lit true),.int .i64 (szv 0),.int .u64 (u64v 1),.int .u64 (u64v 2),.int .u64 (u64v 3)])],[],0,[]⟩⟩]
def Tryz.zE8:List (List (SB×Bool)×Nat):= [
 ([], 0)]
theorem Tryz.zHh:(evL prog (zau zuZ) (zaD zqh) (zaC zqi) 100000 (.code (zaI prog [0,0,1,0,1,1,1,1,1,1,0,0,1,0,0,1,0,1,1,1,1,1,1,1,1,4]) [0,0,1,0,1,1,1,1,1,1,0,0,1,0,0,1,0,1,1,1,1,1,1,1,1,4] 232 (envS 232 zgB zAj) (zas 0 zAi) (zaH zE9 0))).ways zHi=some zE8:=by kernel_rfl
theorem Tryz.zI8:(zah zAi&&zaf zuZ&&zak zqh&&zal zqi&&zan zgB&&zai zE9&&zaG 232 zgB&&Nat.ble 232 zaL&&zaB zAj)=true:=by kernel_rfl
def Tryz.zuY:List Ent:= []
def Tryz.zAg:List Sh:= [.ro zc7,.ro [.int .u8 (.var 27)],.ro [.int .u8 (.var 28)]]
def Tryz.zgA:List (Nat×AV):= [(9,.ptr 1 0),(11,.int .u64 (u64v 19)),(18,.sx 6 (lnv 29) 1 [(lnv 26,2)]),(26,.sx 7 (lnv 29) 1 [(lnv 26,3)]),(27,.int .i64 (lnv 35)),(28,.int .i64 (lnv 26))]++zen [0,2,7,8,14,15,16,19]
def Tryz.zqf:List LEnt:= []
def Tryz.zqg:List AEnt:= []
def Tryz.zAh:Option AV:=none
def Tryz.zHg:List (SB×Bool):= [(.cmp .lss (lnv 26) (lnv 29),true),(.cmp .eql (.var 28) (.var 27),false),(.cmp .lss (lnv 26) (u64v 1),false),(.cmp .geq (lnv 26) (.bin .add .u64 (u64v 1) (u64v 19)),false)]
def Tryz.zE7:List zbg:= [
 ⟨.normal,[9,11,18,26,27,28,0,2,7,8,14,15,16,19],none,⟨.tup [.ptr 1 0,.int .u64 (u64v 19),.sx 6 ((lnv 29)) 1 [((lnv 26),2)],.sx 7 ((lnv 29)) 1 [((lnv 26),3)],.int .i64 (.bin .add .i64 (lnv 35) (.lit 1)),.int .i64 (.bin .add .i64 (lnv 26) (.lit 1)),.cst 100 none,.cst 102 none,.cst 107 none,.cst 108 none,.cst 114 none,.cst 115 none,.cst 116 none,.cst 119 none],[(1,[.bool (.lit true),.int .i64 (szv 0),.int .u64 (u64v 1),.int .u64 (u64v 2),.int .u64 (u64v 3)])],[],0,[]⟩⟩]
def Tryz.zE6:List (List (SB×Bool)×Nat):= [
 ([], 0)]
theorem Tryz.zHf:(evL prog (zau zuY) (zaD zqf) (zaC zqg) 100000 (.code (zaI prog [0,0,1,0,1,1,1,1,1,1,0,0,1,0,0,1,0,1,1,1,1,1,1,1,1,4]) [0,0,1,0,1,1,1,1,1,1,0,0,1,0,0,1,0,1,1,1,1,1,1,1,1,4] 232 (envS 232 zgA zAh) (zas 0 zAg) (zaH zE7 0))).ways zHg=some zE6:=by kernel_rfl
theorem Tryz.zI7:(zah zAg&&zaf zuY&&zak zqf&&zal zqg&&zan zgA&&zai zE7&&zaG 232 zgA&&Nat.ble 232 zaL&&zaB zAh)=true:=by kernel_rfl
def Tryz.zuX:List Ent:= []
def Tryz.zAe:List Sh:= [.ro zc7,.ro [.int .u8 (.var 27)],.ro [.int .u8 (.var 28)]]
def Tryz.zgz:List (Nat×AV):= [(9,.ptr 1 0),(11,.int .u64 (u64v 19)),(18,.sx 6 (lnv 29) 1 [(lnv 26,2)]),(26,.sx 7 (lnv 29) 1 [(lnv 26,3)]),(27,.int .i64 (lnv 35)),(28,.int .i64 (lnv 26))]++zen [0,2,7,8,14,15,16,19]
def Tryz.zqd:List LEnt:= []
def Tryz.zqe:List AEnt:= []
def Tryz.zAf:Option AV:=none
def Tryz.zHe:List (SB×Bool):= [(.cmp .lss (lnv 26) (lnv 29),true),(.cmp .eql (.var 28) (.var 27),false),(.cmp .lss (lnv 26) (u64v 1),false),(.cmp .geq (lnv 26) (.bin .add .u64 (u64v 1) (u64v 19)),true),(.cmp .lss (lnv 26) (u64v 3),false),(.cmp .geq (lnv 26) (.bin .add .u64 (u64v 3) (.lit 4)),false)]
def Tryz.zE5:List zbg:= [
 ⟨.normal,[9,11,18,26,27,28,0,2,7,8,14,15,16,19],none,⟨.tup [.ptr 1 0,.int .u64 (u64v 19),.sx 6 ((lnv 29)) 1 [((lnv 26),2)],.sx 7 ((lnv 29)) 1 [((lnv 26),3)],.int .i64 (.bin .add .i64 (lnv 35) (.lit 1)),.int .i64 (.bin .add .i64 (lnv 26) (.lit 1)),.cst 100 none,.cst 102 none,.cst 107 none,.cst 108 none,.cst 114 none,.cst 115 none,.cst 116 none,.cst 119 none],[(1,[.bool (.lit true),.int .i64 (szv 0),.int .u64 (u64v 1),.int .u64 (u64v 2),.int .u64 (u64v 3)])],[],0,[]⟩⟩]
def Tryz.zE4:List (List (SB×Bool)×Nat):= [
 ([], 0)]
theorem Tryz.zHd:(evL prog (zau zuX) (zaD zqd) (zaC zqe) 100000 (.code (zaI prog [0,0,1,0,1,1,1,1,1,1,0,0,1,0,0,1,0,1,1,1,1,1,1,1,1,4]) [0,0,1,0,1,1,1,1,1,1,0,0,1,0,0,1,0,1,1,1,1,1,1,1,1,4] 232 (envS 232 zgz zAf) (zas 0 zAe) (zaH zE5 0))).ways zHe=some zE4:=by kernel_rfl
theorem Tryz.zI6:(zah zAe&&zaf zuX&&zak zqd&&zal zqe&&zan zgz&&zai zE5&&zaG 232 zgz&&Nat.ble 232 zaL&&zaB zAf)=true:=by kernel_rfl
def Tryz.zuW:List Ent:= []
def Tryz.zAb:List Sh:= [.ro zc7]
def Tryz.zgy:List (Nat×AV):= [(9,.ptr 1 0),(11,.int .u64 (u64v 19)),(18,.sx 6 (lnv 29) 1 []),(26,.sx 7 (lnv 29) 1 []),(27,.int .i64 (lnv 35)),(28,.int .i64 (lnv 26))]++zen [0,2,7,8,14,15,16,19]
def Tryz.zqb:List LEnt:= []
def Tryz.zqc:List AEnt:= []
def Tryz.zAc:Option AV:=none
def Tryz.zHc:List (SB×Bool):= [(.cmp .lss (lnv 26) (lnv 29),false)]
def Tryz.zE3:List zbg:= [
 ⟨(.exit 3),[9,11,27,0,2,7,8,14,15,16,19],none,⟨.tup [.ptr 1 0,.int .u64 (u64v 19),.int .i64 (lnv 35),.cst 100 none,.cst 102 none,.cst 107 none,.cst 108 none,.cst 114 none,.cst 115 none,.cst 116 none,.cst 119 none],[(1,[.bool (.lit true),.int .i64 (szv 0),.int .u64 (u64v 1),.int .u64 (u64v 2),.int .u64 (u64v 3)])],[],0,[]⟩⟩]
def Tryz.zE2:List (List (SB×Bool)×Nat):= [
 ([], 0)]
theorem Tryz.zHb:(evL prog (zau zuW) (zaD zqb) (zaC zqc) 100000 (.code (zaI prog [0,0,1,0,1,1,1,1,1,1,0,0,1,0,0,1,0,1,1,1,1,1,1,1,1,4]) [0,0,1,0,1,1,1,1,1,1,0,0,1,0,0,1,0,1,1,1,1,1,1,1,1,4] 232 (envS 232 zgy zAc) (zas 0 zAb) (zaH zE3 0))).ways zHc=some zE2:=by kernel_rfl
theorem Tryz.zI5:(zah zAb&&zaf zuW&&zak zqb&&zal zqc&&zan zgy&&zai zE3&&zaG 232 zgy&&Nat.ble 232 zaL&&zaB zAc)=true:=by kernel_rfl
def Tryz.zub:List Ent:= [zdB 0 5 1,zeE 1 6 17,zhi 0,zzL,zdB 2 7 3,zeE 3 8 18,zlY 3,zeF 3 4]
def Tryz.zyO:List Sh:= [.ro zc7,.own zsh,.ro zfu]
def Tryz.zgk:List (Nat×AV):=zcA zdC (.var 15) (lnv 6)
def Tryz.zoV:List LEnt:= [zbi 3 5 7 (.lit 0) (.int .i64 (lnv 17)),zbi 3 5 7 (.var 15) (.int .i64 (lnv 17))]
def Tryz.zoW:List AEnt:= []
def Tryz.zyQ:Option AV:=none
def Tryz.zGv:List (SB×Bool):= [(.cmp .lss (lnv 6) (lnv 7),true),(.cmp .gtr (.var 33) (.lit 6),false),(.cmp .gtr (.bin .sub .i64 (lnv 18) (lnv 17)) (.lit 1),false),(.cmp .lss (.bin .sub .i64 (lnv 18) (lnv 17)) (.lit (-1)),false)]
def Tryz.zEH:List zbg:= [
 ⟨.ret,[],none,⟨.tup [],[(2,[.int .i64 (lnv 5),.bool (.var 5)])],[],3,[2]⟩⟩,
 ⟨.normal,[0,2,7,8,9,11,14,15,16],none,⟨.tup [.int .i64 (szv 0),.sx 4 ((lnv 7)) 9 [((lnv 6),3)],.cst 0 none,.cst 2 none,.ptr 1 0,.int .u64 (u64v 19),.int .i64 (.lit 0),.ptr 2 0,.int .i64 (.bin .add .i64 (lnv 6) (.lit 1))],[(1,[.bool (.lit true),.int .i64 (szv 0),.int .u64 (u64v 1),.int .u64 (u64v 2),.int .u64 (u64v 3)]),(2,[.int .i64 (lnv 5),.bool (.var 5)])],[],3,[2]⟩⟩,
 ⟨.normal,[0,2,7,8,9,11,14,15,16],none,⟨.tup [.int .i64 (szv 0),.sx 4 ((lnv 7)) 9 [((lnv 6),3)],.cst 0 none,.cst 2 none,.ptr 1 0,.int .u64 (u64v 19),.int .i64 (.var 15),.ptr 2 0,.int .i64 (.bin .add .i64 (lnv 6) (.lit 1))],[(1,[.bool (.lit true),.int .i64 (szv 0),.int .u64 (u64v 1),.int .u64 (u64v 2),.int .u64 (u64v 3)]),(2,[.int .i64 (lnv 5),.bool (.var 5)])],[],3,[2]⟩⟩]
def Tryz.zEG:List (List (SB×Bool)×Nat):= [
 ([((.cmp .eql (.var 21) (.lit 0)),true),((.cmp .eql (.var 23) (.lit 4)),true),(.var 4,true)],0),
 ([((.cmp .eql (.var 21) (.lit 0)),true),((.cmp .eql (.var 23) (.lit 4)),true),(.var 4,false)],1),
 ([((.cmp .eql (.var 21) (.lit 0)),true),((.cmp .eql (.var 23) (.lit 4)),false)],1),
 ([((.cmp .eql (.var 21) (.lit 0)),false),((.cmp .eql (.var 23) (.lit 4)),true),(.var 4,true)],0),
 ([((.cmp .eql (.var 21) (.lit 0)),false),((.cmp .eql (.var 23) (.lit 4)),true),(.var 4,false)],2),
 ([((.cmp .eql (.var 21) (.lit 0)),false),((.cmp .eql (.var 23) (.lit 4)),false)],2)]
theorem Tryz.zGu:(evL prog (zau zub) (zaD zoV) (zaC zoW) 100000 (.code (zaI prog [0,0,1,0,1,1,1,1,1,1,1,1,4]) [0,0,1,0,1,1,1,1,1,1,1,1,4] 232 (envS 232 zgk zyQ) (zas 0 zyO) (zaH zEH 0))).ways zGv=some zEG:=by kernel_rfl
theorem Tryz.zIO:(zah zyO&&zaf zub&&zak zoV&&zal zoW&&zan zgk&&zai zEH&&zaG 232 zgk&&Nat.ble 232 zaL&&zaB zyQ)=true:=by kernel_rfl
def Tryz.zua:List Ent:= [zdB 0 5 1,zeE 1 6 17,zhi 1,zzN,zdB 2 8 3,zeE 3 9 18,zlY 3,zeF 3 4]
def Tryz.zyL:List Sh:= [.ro zc7,.own zsh,.ro zfu]
def Tryz.zgj:List (Nat×AV):=zcA zdC (.var 15) (lnv 6)
def Tryz.zoT:List LEnt:= [zaU,zbi 3 5 8 (.lit 0) (.int .i64 (lnv 17)),zbi 3 5 8 (.var 15) (.int .i64 (lnv 17))]
def Tryz.zoU:List AEnt:= []
def Tryz.zyN:Option AV:=none
def Tryz.zGt:List (SB×Bool):= [(.cmp .lss (lnv 6) (lnv 7),true),(.cmp .gtr (.var 33) (.lit 6),false),(.cmp .gtr (.bin .sub .i64 (lnv 18) (lnv 17)) (.lit 1),false),(.cmp .lss (.bin .sub .i64 (lnv 18) (lnv 17)) (.lit (-1)),false)]
def Tryz.zEF:List zbg:= [
 ⟨.ret,[],none,⟨.tup [],[(2,[.int .i64 (lnv 5),.bool (.var 5)])],[],3,[2]⟩⟩,
 ⟨.normal,[0,2,7,8,9,11,14,15,16],none,⟨.tup [.int .i64 (szv 0),.sx 4 ((lnv 7)) 9 [((lnv 6),3)],.cst 0 none,.cst 2 none,.ptr 1 0,.int .u64 (u64v 19),.int .i64 (.lit 0),.ptr 2 0,.int .i64 (.bin .add .i64 (lnv 6) (.lit 1))],[(1,[.bool (.lit true),.int .i64 (szv 0),.int .u64 (u64v 1),.int .u64 (u64v 2),.int .u64 (u64v 3)]),(2,[.int .i64 (lnv 5),.bool (.var 5)])],[],3,[2]⟩⟩,
 ⟨.normal,[0,2,7,8,9,11,14,15,16],none,⟨.tup [.int .i64 (szv 0),.sx 4 ((lnv 7)) 9 [((lnv 6),3)],.cst 0 none,.cst 2 none,.ptr 1 0,.int .u64 (u64v 19),.int .i64 (.var 15),.ptr 2 0,.int .i64 (.bin .add .i64 (lnv 6) (.lit 1))],[(1,[.bool (.lit true),.int .i64 (szv 0),.int .u64 (u64v 1),.int .u64 (u64v 2),.int .u64 (u64v 3)]),(2,[.int .i64 (lnv 5),.bool (.var 5)])],[],3,[2]⟩⟩]
def Tryz.zEE:List (List (SB×Bool)×Nat):= [
 ([(.var 3,true),((.cmp .eql (.var 23) (.lit 4)),true),(.var 4,true)],0),
 ([(.var 3,true),((.cmp .eql (.var 23) (.lit 4)),true),(.var 4,false)],1),
 ([(.var 3,true),((.cmp .eql (.var 23) (.lit 4)),false)],1),
 ([(.var 3,false),((.cmp .eql (.var 23) (.lit 4)),true),(.var 4,true)],0),
 ([(.var 3,false),((.cmp .eql (.var 23) (.lit 4)),true),(.var 4,false)],2),
 ([(.var 3,false),((.cmp .eql (.var 23) (.lit 4)),false)],2)]
theorem Tryz.zGs:(evL prog (zau zua) (zaD zoT) (zaC zoU) 100000 (.code (zaI prog [0,0,1,0,1,1,1,1,1,1,1,1,4]) [0,0,1,0,1,1,1,1,1,1,1,1,4] 232 (envS 232 zgj zyN) (zas 0 zyL) (zaH zEF 0))).ways zGt=some zEE:=by kernel_rfl
theorem Tryz.zIN:(zah zyL&&zaf zua&&zak zoT&&zal zoU&&zan zgj&&zai zEF&&zaG 232 zgj&&Nat.ble 232 zaL&&zaB zyN)=true:=by kernel_rfl
def Tryz.zey (kd:Int):List Ent:= [zdB 0 5 1,zeE 1 6 17,zhi kd,zna (.var 9) (.lit 19996) 20 1,zuG,zdB 2 7 3,zdB 3 8 4,zeE 4 9 18,zlY 4,zeF 4 4]
def Tryz.zt7:List Ent:=zey 4
def Tryz.zhb:List Sh:= [.ro zc7,.own zsh,.ro zfu]
def Tryz.zb0:List (Nat×AV):=zcA zdC (.var 15) (lnv 6)
def Tryz.zdx:List LEnt:= [zbi 4 7 8 (.var 15) (.int .i64 (lnv 17))]
def Tryz.zdy:List AEnt:= []
def Tryz.zhc:Option AV:=none
def Tryz.zr0:List (SB×Bool):= [(.cmp .lss (lnv 6) (lnv 7),true),(.cmp .gtr (.var 33) (.lit 6),false),(.cmp .gtr (.bin .sub .i64 (lnv 18) (lnv 17)) (.lit 1),false),(.cmp .lss (.bin .sub .i64 (lnv 18) (lnv 17)) (.lit (-1)),false)]
def Tryz.zlt:List zbg:= [
 ⟨.ret,[],none,⟨.tup [],[(2,[.int .i64 (lnv 5),.bool (.var 5)])],[],4,[2]⟩⟩,
 ⟨.normal,[0,2,7,8,9,11,14,15,16],none,⟨.tup [.int .i64 (szv 0),.sx 4 ((lnv 7)) 9 [((lnv 6),3)],.cst 0 none,.cst 2 none,.ptr 1 0,.int .u64 (u64v 19),.int .i64 (.var 15),.ptr 2 0,.int .i64 (.bin .add .i64 (lnv 6) (.lit 1))],[(1,[.bool (.lit true),.int .i64 (szv 0),.int .u64 (u64v 1),.int .u64 (u64v 2),.int .u64 (u64v 3)]),(2,[.int .i64 (lnv 5),.bool (.var 5)])],[],4,[2]⟩⟩]
def Tryz.zt6:List (List (SB×Bool)×Nat):= [
 ([((.cmp .eql (.var 23) (.lit 4)),true),(.var 4,true)],0),
 ([((.cmp .eql (.var 23) (.lit 4)),true),(.var 4,false)],1),
 ([((.cmp .eql (.var 23) (.lit 4)),false)],1)]
theorem Tryz.zGp:(evL prog (zau zt7) (zaD zdx) (zaC zdy) 100000 (.code (zaI prog [0,0,1,0,1,1,1,1,1,1,1,1,4]) [0,0,1,0,1,1,1,1,1,1,1,1,4] 232 (envS 232 zb0 zhc) (zas 0 zhb) (zaH zlt 0))).ways zr0=some zt6:=by kernel_rfl
theorem Tryz.zIK:(zah zhb&&zaf zt7&&zak zdx&&zal zdy&&zan zb0&&zai zlt&&zaG 232 zb0&&Nat.ble 232 zaL&&zaB zhc)=true:=by kernel_rfl
theorem Tryz.zGo:(evL prog (zau (zey 5)) (zaD zdx) (zaC zdy) 100000 (.code (zaI prog [0,0,1,0,1,1,1,1,1,1,1,1,4]) [0,0,1,0,1,1,1,1,1,1,1,1,4] 232 (envS 232 zb0 zhc) (zas 0 zhb) (zaH zlt 0))).ways zr0=some zt6:=by kernel_rfl
theorem Tryz.zIJ:(zah zhb&&zaf (zey 5)&&zak zdx&&zal zdy&&zan zb0&&zai zlt&&zaG 232 zb0&&Nat.ble 232 zaL&&zaB zhc)=true:=by kernel_rfl
def Tryz.zt5:List Ent:= [zdB 0 5 1,zeE 1 6 17,zhi 6,zna (.var 9) (szv 0) 20 1,zuH,zdB 2 8 3,zdB 3 9 4,zeE 4 10 18,zlY 4,zeF 4 4]
def Tryz.zyI:List Sh:= [.ro zc7,.own zsh,.ro zfu]
def Tryz.zgi:List (Nat×AV):=zcA zdC (.var 15) (lnv 6)
def Tryz.zoP:List LEnt:= [zbi 4 8 9 (.var 15) (.int .i64 (lnv 17))]
def Tryz.zoQ:List AEnt:= []
def Tryz.zyK:Option AV:=none
def Tryz.zGn:List (SB×Bool):= [(.cmp .lss (lnv 6) (lnv 7),true),(.cmp .gtr (.var 33) (.lit 6),false),(.cmp .gtr (.bin .sub .i64 (lnv 18) (lnv 17)) (.lit 1),false),(.cmp .lss (.bin .sub .i64 (lnv 18) (lnv 17)) (.lit (-1)),false)]
def Tryz.zED:List zbg:= [
 ⟨.ret,[],none,⟨.tup [],[(2,[.int .i64 (lnv 34),.bool (.var 6)])],[],4,[2]⟩⟩,
 ⟨.normal,[0,2,7,8,9,11,14,15,16],none,⟨.tup [.int .i64 (szv 0),.sx 4 ((lnv 7)) 9 [((lnv 6),3)],.cst 0 none,.cst 2 none,.ptr 1 0,.int .u64 (u64v 19),.int .i64 (.var 15),.ptr 2 0,.int .i64 (.bin .add .i64 (lnv 6) (.lit 1))],[(1,[.bool (.lit true),.int .i64 (szv 0),.int .u64 (u64v 1),.int .u64 (u64v 2),.int .u64 (u64v 3)]),(2,[.int .i64 (lnv 34),.bool (.var 6)])],[],4,[2]⟩⟩,
 ⟨.ret,[],none,⟨.tup [],[(2,[.int .i64 (lnv 5),.bool (.var 5)])],[],4,[2]⟩⟩,
 ⟨.normal,[0,2,7,8,9,11,14,15,16],none,⟨.tup [.int .i64 (szv 0),.sx 4 ((lnv 7)) 9 [((lnv 6),3)],.cst 0 none,.cst 2 none,.ptr 1 0,.int .u64 (u64v 19),.int .i64 (.var 15),.ptr 2 0,.int .i64 (.bin .add .i64 (lnv 6) (.lit 1))],[(1,[.bool (.lit true),.int .i64 (szv 0),.int .u64 (u64v 1),.int .u64 (u64v 2),.int .u64 (u64v 3)]),(2,[.int .i64 (lnv 5),.bool (.var 5)])],[],4,[2]⟩⟩]
def Tryz.zEC:List (List (SB×Bool)×Nat):= [
 ([(.var 2,true),((.cmp .eql (.var 23) (.lit 4)),true),(.var 4,true)],0),
 ([(.var 2,true),((.cmp .eql (.var 23) (.lit 4)),true),(.var 4,false)],1),
 ([(.var 2,true),((.cmp .eql (.var 23) (.lit 4)),false)],1),
 ([(.var 2,false),((.cmp .eql (.var 23) (.lit 4)),true),(.var 4,true)],2),
 ([(.var 2,false),((.cmp .eql (.var 23) (.lit 4)),true),(.var 4,false)],3),
 ([(.var 2,false),((.cmp .eql (.var 23) (.lit 4)),false)],3)]
theorem Tryz.zGm:(evL prog (zau zt5) (zaD zoP) (zaC zoQ) 100000 (.code (zaI prog [0,0,1,0,1,1,1,1,1,1,1,1,4]) [0,0,1,0,1,1,1,1,1,1,1,1,4] 232 (envS 232 zgi zyK) (zas 0 zyI) (zaH zED 0))).ways zGn=some zEC:=by kernel_rfl
theorem Tryz.zII:(zah zyI&&zaf zt5&&zak zoP&&zal zoQ&&zan zgi&&zai zED&&zaG 232 zgi&&Nat.ble 232 zaL&&zaB zyK)=true:=by kernel_rfl
def Tryz.zez (kd:Int):List Ent:= [zdB 0 5 1,zeE 1 6 17,zhi kd,zeF 1 0,zzJ,zeF 2 1,zdB 2 8 3,zeE 3 9 18,zlY 3,zeF 3 4]
def Tryz.zt9:List Ent:=zez 2
def Tryz.zhd:List Sh:= [.ro zc7,.own zsh,.ro zfu]
def Tryz.zb1:List (Nat×AV):=zcA zdC (.var 15) (lnv 6)
def Tryz.zdz:List LEnt:= [zbi 3 5 8 (.bin .add .i64 (.var 15) (.lit 1)) (.int .i64 (lnv 17))]
def Tryz.zdA:List AEnt:= []
def Tryz.zhe:Option AV:=none
def Tryz.zr1:List (SB×Bool):= [(.cmp .lss (lnv 6) (lnv 7),true),(.cmp .gtr (.var 33) (.lit 6),false),(.cmp .gtr (.bin .sub .i64 (lnv 18) (lnv 17)) (.lit 1),false),(.cmp .lss (.bin .sub .i64 (lnv 18) (lnv 17)) (.lit (-1)),false)]
def Tryz.zlu:List zbg:= [
 ⟨.ret,[],none,⟨.tup [],[(2,[.int .i64 (lnv 5),.bool (.var 5)])],[],2,[2]⟩⟩,
 ⟨.ret,[],none,⟨.tup [],[(2,[.int .i64 (lnv 5),.bool (.var 5)])],[],3,[2]⟩⟩,
 ⟨.normal,[0,2,7,8,9,11,14,15,16],none,⟨.tup [.int .i64 (szv 0),.sx 4 ((lnv 7)) 9 [((lnv 6),3)],.cst 0 none,.cst 2 none,.ptr 1 0,.int .u64 (u64v 19),.int .i64 (.bin .add .i64 (.var 15) (.lit 1)),.ptr 2 0,.int .i64 (.bin .add .i64 (lnv 6) (.lit 1))],[(1,[.bool (.lit true),.int .i64 (szv 0),.int .u64 (u64v 1),.int .u64 (u64v 2),.int .u64 (u64v 3)]),(2,[.int .i64 (lnv 5),.bool (.var 5)])],[],3,[2]⟩⟩]
def Tryz.zt8:List (List (SB×Bool)×Nat):= [
 ([(.var 0,false),((.cmp .eql (.var 21) (.lit 0)),true)],0),
 ([(.var 0,false),((.cmp .eql (.var 21) (.lit 0)),false),((.cmp .gtr (.bin .add .i64 (.var 15) (.lit 1)) (.lit 7)),true),((.cmp .eql (.var 21) (.lit 4)),true),(.var 1,true)],0),
 ([(.var 0,false),((.cmp .eql (.var 21) (.lit 0)),false),((.cmp .gtr (.bin .add .i64 (.var 15) (.lit 1)) (.lit 7)),true),((.cmp .eql (.var 21) (.lit 4)),true),(.var 1,false),((.cmp .eql (.var 23) (.lit 4)),true),(.var 4,true)],1),
 ([(.var 0,false),((.cmp .eql (.var 21) (.lit 0)),false),((.cmp .gtr (.bin .add .i64 (.var 15) (.lit 1)) (.lit 7)),true),((.cmp .eql (.var 21) (.lit 4)),true),(.var 1,false),((.cmp .eql (.var 23) (.lit 4)),true),(.var 4,false)],2),
 ([(.var 0,false),((.cmp .eql (.var 21) (.lit 0)),false),((.cmp .gtr (.bin .add .i64 (.var 15) (.lit 1)) (.lit 7)),true),((.cmp .eql (.var 21) (.lit 4)),true),(.var 1,false),((.cmp .eql (.var 23) (.lit 4)),false)],2),
 ([(.var 0,false),((.cmp .eql (.var 21) (.lit 0)),false),((.cmp .gtr (.bin .add .i64 (.var 15) (.lit 1)) (.lit 7)),true),((.cmp .eql (.var 21) (.lit 4)),false),((.cmp .eql (.var 23) (.lit 4)),true),(.var 4,true)],1),
 ([(.var 0,false),((.cmp .eql (.var 21) (.lit 0)),false),((.cmp .gtr (.bin .add .i64 (.var 15) (.lit 1)) (.lit 7)),true),((.cmp .eql (.var 21) (.lit 4)),false),((.cmp .eql (.var 23) (.lit 4)),true),(.var 4,false)],2),
 ([(.var 0,false),((.cmp .eql (.var 21) (.lit 0)),false),((.cmp .gtr (.bin .add .i64 (.var 15) (.lit 1)) (.lit 7)),true),((.cmp .eql (.var 21) (.lit 4)),false),((.cmp .eql (.var 23) (.lit 4)),false)],2),
 ([(.var 0,false),((.cmp .eql (.var 21) (.lit 0)),false),((.cmp .gtr (.bin .add .i64 (.var 15) (.lit 1)) (.lit 7)),false),((.cmp .eql (.var 21) (.lit 4)),true),(.var 1,true)],0),
 ([(.var 0,false),((.cmp .eql (.var 21) (.lit 0)),false),((.cmp .gtr (.bin .add .i64 (.var 15) (.lit 1)) (.lit 7)),false),((.cmp .eql (.var 21) (.lit 4)),true),(.var 1,false),((.cmp .eql (.var 23) (.lit 4)),true),(.var 4,true)],1),
 ([(.var 0,false),((.cmp .eql (.var 21) (.lit 0)),false),((.cmp .gtr (.bin .add .i64 (.var 15) (.lit 1)) (.lit 7)),false),((.cmp .eql (.var 21) (.lit 4)),true),(.var 1,false),((.cmp .eql (.var 23) (.lit 4)),true),(.var 4,false)],2),
 ([(.var 0,false),((.cmp .eql (.var 21) (.lit 0)),false),((.cmp .gtr (.bin .add .i64 (.var 15) (.lit 1)) (.lit 7)),false),((.cmp .eql (.var 21) (.lit 4)),true),(.var 1,false),((.cmp .eql (.var 23) (.lit 4)),false)],2),
 ([(.var 0,false),((.cmp .eql (.var 21) (.lit 0)),false),((.cmp .gtr (.bin .add .i64 (.var 15) (.lit 1)) (.lit 7)),false),((.cmp .eql (.var 21) (.lit 4)),false),((.cmp .eql (.var 23) (.lit 4)),true),(.var 4,true)],1),
 ([(.var 0,false),((.cmp .eql (.var 21) (.lit 0)),false),((.cmp .gtr (.bin .add .i64 (.var 15) (.lit 1)) (.lit 7)),false),((.cmp .eql (.var 21) (.lit 4)),false),((.cmp .eql (.var 23) (.lit 4)),true),(.var 4,false)],2),
 ([(.var 0,false),((.cmp .eql (.var 21) (.lit 0)),false),((.cmp .gtr (.bin .add .i64 (.var 15) (.lit 1)) (.lit 7)),false),((.cmp .eql (.var 21) (.lit 4)),false),((.cmp .eql (.var 23) (.lit 4)),false)],2),
 ([(.var 0,true),((.cmp .gtr (.bin .add .i64 (.var 15) (.lit 1)) (.lit 7)),true)],0),
 ([(.var 0,true),((.cmp .gtr (.bin .add .i64 (.var 15) (.lit 1)) (.lit 7)),false),((.cmp .eql (.var 21) (.lit 4)),true),(.var 1,true)],0),
 ([(.var 0,true),((.cmp .gtr (.bin .add .i64 (.var 15) (.lit 1)) (.lit 7)),false),((.cmp .eql (.var 21) (.lit 4)),true),(.var 1,false),((.cmp .eql (.var 23) (.lit 4)),true),(.var 4,true)],1),
 ([(.var 0,true),((.cmp .gtr (.bin .add .i64 (.var 15) (.lit 1)) (.lit 7)),false),((.cmp .eql (.var 21) (.lit 4)),true),(.var 1,false),((.cmp .eql (.var 23) (.lit 4)),true),(.var 4,false)],2),
 ([(.var 0,true),((.cmp .gtr (.bin .add .i64 (.var 15) (.lit 1)) (.lit 7)),false),((.cmp .eql (.var 21) (.lit 4)),true),(.var 1,false),((.cmp .eql (.var 23) (.lit 4)),false)],2),
 ([(.var 0,true),((.cmp .gtr (.bin .add .i64 (.var 15) (.lit 1)) (.lit 7)),false),((.cmp .eql (.var 21) (.lit 4)),false),((.cmp .eql (.var 23) (.lit 4)),true),(.var 4,true)],1),
 ([(.var 0,true),((.cmp .gtr (.bin .add .i64 (.var 15) (.lit 1)) (.lit 7)),false),((.cmp .eql (.var 21) (.lit 4)),false),((.cmp .eql (.var 23) (.lit 4)),true),(.var 4,false)],2),
 ([(.var 0,true),((.cmp .gtr (.bin .add .i64 (.var 15) (.lit 1)) (.lit 7)),false),((.cmp .eql (.var 21) (.lit 4)),false),((.cmp .eql (.var 23) (.lit 4)),false)],2)]
theorem Tryz.zGr:(evL prog (zau zt9) (zaD zdz) (zaC zdA) 100000 (.code (zaI prog [0,0,1,0,1,1,1,1,1,1,1,1,4]) [0,0,1,0,1,1,1,1,1,1,1,1,4] 232 (envS 232 zb1 zhe) (zas 0 zhd) (zaH zlu 0))).ways zr1=some zt8:=by kernel_rfl
theorem Tryz.zIM:(zah zhd&&zaf zt9&&zak zdz&&zal zdA&&zan zb1&&zai zlu&&zaG 232 zb1&&Nat.ble 232 zaL&&zaB zhe)=true:=by kernel_rfl
theorem Tryz.zGq:(evL prog (zau (zez 3)) (zaD zdz) (zaC zdA) 100000 (.code (zaI prog [0,0,1,0,1,1,1,1,1,1,1,1,4]) [0,0,1,0,1,1,1,1,1,1,1,1,4] 232 (envS 232 zb1 zhe) (zas 0 zhd) (zaH zlu 0))).ways zr1=some zt8:=by kernel_rfl
theorem Tryz.zIL:(zah zhd&&zaf (zez 3)&&zak zdz&&zal zdA&&zan zb1&&zai zlu&&zaG 232 zb1&&Nat.ble 232 zaL&&zaB zhe)=true:=by kernel_rfl
def Tryz.zt4:List Ent:= []
def Tryz.zyG:List Sh:= [.ro zc7,.ro zsh]
def Tryz.zgh:List (Nat×AV):=zcA (.sx 4 (lnv 7) 9 []) (.var 15) (lnv 6)
def Tryz.zoN:List LEnt:= []
def Tryz.zoO:List AEnt:= []
def Tryz.zyH:Option AV:=none
def Tryz.zGl:List (SB×Bool):= [(.cmp .lss (lnv 6) (lnv 7),false)]
def Tryz.zEB:List zbg:= [
 ⟨(.exit 0),[],none,⟨.tup [],[],[],0,[]⟩⟩]
def Tryz.zEA:List (List (SB×Bool)×Nat):= [
 ([], 0)]
theorem Tryz.zGk:(evL prog (zau zt4) (zaD zoN) (zaC zoO) 100000 (.code (zaI prog [0,0,1,0,1,1,1,1,1,1,1,1,4]) [0,0,1,0,1,1,1,1,1,1,1,1,4] 232 (envS 232 zgh zyH) (zas 0 zyG) (zaH zEB 0))).ways zGl=some zEA:=by kernel_rfl
theorem Tryz.zIG:(zah zyG&&zaf zt4&&zak zoN&&zal zoO&&zan zgh&&zai zEB&&zaG 232 zgh&&Nat.ble 232 zaL&&zaB zyH)=true:=by kernel_rfl
def Tryz.zu4:List Ent:= []
def Tryz.zAo:List Sh:= [.ro zfu]
def Tryz.zgC:List (Nat×AV):= [(8,.cst 2 none),(14,.int .i64 (.var 15)),(17,.ptr 1 0),(20,.sx 5 (lnv 17) 1 [])]++zen [0,2,7,9,11,15,16,18,19]
def Tryz.zqm:List LEnt:= []
def Tryz.zqn:List AEnt:= []
def Tryz.zAp:Option AV:=none
def Tryz.zHm:List (SB×Bool):= [(.cmp .gtr (lnv 17) (.lit 0),false)]
def Tryz.zFd:List zbg:= [
 ⟨.normal,[14,8,0,2,7,9,11,15,16,18,19],none,⟨.tup [.int .i64 (.var 15),.cst 2 none,.cst 100 none,.cst 102 none,.cst 107 none,.cst 109 none,.cst 111 none,.cst 115 none,.cst 116 none,.cst 118 none,.cst 119 none],[],[],1,[]⟩⟩]
def Tryz.zFc:List (List (SB×Bool)×Nat):= [
 ([], 0)]
theorem Tryz.zHl:(evL prog (zau zu4) (zaD zqm) (zaC zqn) 100000 (.code (zaI prog [1,0,1,1,1,0,1,0,1,1,1,0,0,1,0,0,1,0,1,1,1,1,1,1,1,1,4]) [1,0,1,1,1,0,1,0,1,1,1,0,0,1,0,0,1,0,1,1,1,1,1,1,1,1,4] 232 (envS 232 zgC zAp) (zas 1 zAo) (zaH zFd 0))).ways zHm=some zFc:=by kernel_rfl
theorem Tryz.zJa:(zah zAo&&zaf zu4&&zak zqm&&zal zqn&&zan zgC&&zai zFd&&zaG 232 zgC&&Nat.ble 232 zaL&&zaB zAp)=true:=by kernel_rfl
def Tryz.zu5:List Ent:= [zna (.var 9) (lnv 17) 24 1,⟨16,[.cst 2 none,.int .i64 (.var 25),.int .u32 (.lit 0)],1,0,0,.int .i64 (.var 21),2⟩]
def Tryz.zAq:List Sh:= [.ro zfu,.ro [.int .i64 (.var 25)]]
def Tryz.zgD:List (Nat×AV):= [(8,.cst 2 none),(14,.int .i64 (.var 15)),(17,.ptr 1 0),(20,.sx 5 (lnv 17) 1 [(.var 24,2)])]++zen [0,2,7,9,11,15,16,18,19]
def Tryz.zqo:List LEnt:= []
def Tryz.zqp:List AEnt:= []
def Tryz.zAr:Option AV:=none
def Tryz.zHo:List (SB×Bool):= [(.cmp .gtr (lnv 17) (.lit 0),true),(.cmp .lss (.var 24) (lnv 17),true),(.cmp .lss (.var 24) (.lit 0),false)]
def Tryz.zFf:List zbg:= [
 ⟨.normal,[14,8,0,2,7,9,11,15,16,18,19],none,⟨.tup [.int .i64 (.lit 0),.cst 2 none,.cst 100 none,.cst 102 none,.cst 107 none,.cst 109 none,.cst 111 none,.cst 115 none,.cst 116 none,.cst 118 none,.cst 119 none],[],[],2,[]⟩⟩,
 ⟨.normal,[14,8,0,2,7,9,11,15,16,18,19],none,⟨.tup [.int .i64 (.var 15),.cst 2 none,.cst 100 none,.cst 102 none,.cst 107 none,.cst 109 none,.cst 111 none,.cst 115 none,.cst 116 none,.cst 118 none,.cst 119 none],[],[],2,[]⟩⟩]
def Tryz.zFe:List (List (SB×Bool)×Nat):= [
 ([((.cmp .eql (.var 21) (.lit 0)),true)],0),
 ([((.cmp .eql (.var 21) (.lit 0)),false)],1)]
theorem Tryz.zHn:(evL prog (zau zu5) (zaD zqo) (zaC zqp) 100000 (.code (zaI prog [1,0,1,1,1,0,1,0,1,1,1,0,0,1,0,0,1,0,1,1,1,1,1,1,1,1,4]) [1,0,1,1,1,0,1,0,1,1,1,0,0,1,0,0,1,0,1,1,1,1,1,1,1,1,4] 232 (envS 232 zgD zAr) (zas 1 zAq) (zaH zFf 0))).ways zHo=some zFe:=by kernel_rfl
theorem Tryz.zJb:(zah zAq&&zaf zu5&&zak zqo&&zal zqp&&zan zgD&&zai zFf&&zaG 232 zgD&&Nat.ble 232 zaL&&zaB zAr)=true:=by kernel_rfl
open Go.RowKit
structure Tryz.PI (s:PS) (steps i:Nat):Prop where
 pe:PE s steps
 st:steps≤i
 tk:s.tk.length≤i
theorem Tryz.zo8 (x:Int): ∀tk:List (Int×PTk),(zcH x tk).length≤tk.length∧tk.length≤(zcH x tk).length+1
 | [] => ⟨Nat.le_refl _,Nat.zero_le _⟩
 | e::r=>by
  unfold zcH
  have:=zo8 x r
  split
  ·simp
  ·simp only [List.length_cons];omega
theorem Tryz.PI.stay {s:PS} {steps i:Nat} (h:PI s steps i):PI s steps (i+1):=⟨h.pe,by have:=h.st;omega,by have:=h.tk;omega⟩
theorem Tryz.zum (s:PS):(zbh s).2.tk=s.tk:=by
 unfold zbh;split
 ·rfl
 ·split<;>rfl
theorem Tryz.zza (s:PS) (h w:Int):(zci s h w).2.tk=s.tk:=by
 unfold zci;split
 ·rfl
 ·split
  ·rfl
  ·split
   ·rfl
   ·split<;>rfl
theorem Tryz.PI.poll {s:PS} {steps i:Nat} (h:PI s steps i):PI (zbh s).2 (if (zbh s).1=0 then 0 else steps) (i+1):=
 ⟨h.pe.poll,by have:=h.st;split<;>omega,by rw [zum];have:=h.tk;omega⟩
theorem Tryz.PI.ret {s:PS} {steps i:Nat} (h:PI s steps i) (hd wr:Int):PI (zci s hd wr).2 (if (zci s hd wr).1=0 then 0 else steps) (i+1):=
 ⟨h.pe.ret hd wr,by have:=h.st;split<;>omega,by rw [zza];have:=h.tk;omega⟩
structure Tryz.PStep (r:Rg) (s:PS) (g:Nat→Int) (steps i:Nat) (E:Int) (s':PS) (g':Nat→Int):Prop where
 inv:PI s' (steps+1) (i+1)
 up:s'.tk.length≤s.tk.length+1
 down:s.tk.length≤s'.tk.length+1
 idle:s.ph=0→E≠0
 soon:7<steps+1→s.ph=0
 bad:E=4→s'.ph=0
 own: ∃a:Nat,∀j,g' j≠g j→(a≤j∧j<a+6)∧mayW r j
theorem Tryz.zy1 {N:Nat} {r:Rg} {s:PS} {g:Nat→Int} {steps i:Nat} (h:PI s steps i) (hr:PgOk r) (hb:PB r s) (hg: ∀j,0≤g j∧g j<256):
    PStep r s g steps i (zba N r s g).2.1 (zba N r s g).2.2.1 (zba N r s g).2.2.2:=by
  have hn:=hr.bnd
  have h11:=hb.ph
  have hlen:(zba N r s g).2.2.1.tk.length≤s.tk.length+1∧s.tk.length≤(zba N r s g).2.2.1.tk.length+1:=by
    unfold zba
    split
    · exact ⟨Nat.le_succ _,Nat.le_succ _⟩
    · split
      · exact ⟨Nat.le_succ _,Nat.le_succ _⟩
      · have hph:s.ph=1∨s.ph=2∨s.ph=3∨s.ph=4∨s.ph=5∨s.ph=6∨s.ph=7∨s.ph=8∨s.ph=9∨s.ph=10∨s.ph=11:=by omega
        rcases hph with hp|hp|hp|hp|hp|hp|hp|hp|hp|hp|hp<;>rw [hp]<;>unfold zdc<;>simp only
        · split
          · exact ⟨Nat.le_succ _,Nat.le_succ _⟩
          · split<;>exact ⟨Nat.le_succ _,Nat.le_succ _⟩
        · exact ⟨Nat.le_succ _,Nat.le_succ _⟩
        · exact ⟨Nat.le_succ _,Nat.le_succ _⟩
        · split<;>exact ⟨Nat.le_succ _,Nat.le_succ _⟩
        · exact ⟨Nat.le_succ _,Nat.le_succ _⟩
        · split
          · exact ⟨Nat.le_succ _,Nat.le_succ _⟩
          · simp [PS.stop];omega
        · exact ⟨Nat.le_succ _,Nat.le_succ _⟩
        · exact ⟨Nat.le_succ _,Nat.le_succ _⟩
        · exact ⟨Nat.le_succ _,Nat.le_succ _⟩
        · exact ⟨Nat.le_succ _,Nat.le_succ _⟩
        · have:=zo8 s.hd s.tk
          show (zcH s.hd s.tk).length≤_∧_≤(zcH s.hd s.tk).length+1
          omega
  have hst:=h.st
  have htk:=h.tk
  refine ⟨⟨h.pe.step hg hn.1 h11,by omega,by omega⟩,hlen.1,hlen.2,fun h0=> ?_,fun hs=> ?_,fun hE=> ?_,zr9 hr hb⟩
  · unfold zba
    split
    · show (4:Int)≠0;decide
    · show (8:Int)≠0;decide
  · by_cases h0:s.ph=0
    · exact h0
    · have:=h.pe.cnt h0
      split at this<;>omega
  · by_cases hbr:s.br=true
    · have e1:(zba N r s g).2.2.1=s:=by unfold zba;rw [if_pos hbr]
      rw [e1];exact h.pe.brk hbr
    · by_cases h0:s.ph=0
      · have e1:(zba N r s g).2.2.1=s:=by unfold zba;rw [if_neg hbr,if_pos h0]
        rw [e1];exact h0
      · unfold zba at hE ⊢
        rw [if_neg hbr,if_neg h0] at hE ⊢
        have hph:s.ph=1∨s.ph=2∨s.ph=3∨s.ph=4∨s.ph=5∨s.ph=6∨s.ph=7∨s.ph=8∨s.ph=9∨s.ph=10∨s.ph=11:=by omega
        rcases hph with hp|hp|hp|hp|hp|hp|hp|hp|hp|hp|hp<;>rw [hp] at hE ⊢ <;>unfold zdc at hE ⊢ <;>simp only at hE ⊢
        all_goals first
          | (exact absurd hE (by decide))
          | (split at hE
             · rename_i hh;rw [if_pos hh];rfl
             · exact absurd (show (0:Int)=4 from hE) (by decide))
def Tryz.zcB (gw gn:Nat→Int):Nat→Nat
 | 0=>0
 | k+1=>zcB gw gn k+if gn k=gw k then 0 else 1
theorem Tryz.zDw {gw gn:Nat→Int} {k:Nat} (h:gn k=gw k):zcB gw gn (k+1)=zcB gw gn k:=by
 show zcB gw gn k+(if gn k=gw k then 0 else 1)=_
 rw [if_pos h];rfl
theorem Tryz.zve {gw gn:Nat→Int} {k:Nat} (h:gn k≠gw k):zcB gw gn (k+1)=zcB gw gn k+1:=by
 show zcB gw gn k+(if gn k=gw k then 0 else 1)=_
 rw [if_neg h]
theorem Tryz.zvf {gw gn:Nat→Int} {a:Nat} (h: ∀j,gn j≠gw j→a≤j∧j<a+6): ∀k,zcB gw gn k≤k-a∧zcB gw gn k≤6
 | 0=>⟨Nat.zero_le _,Nat.zero_le _⟩
 | k+1=>by
  have ih:=zvf h k
  unfold zcB
  by_cases e:gn k=gw k
  ·rw [if_pos e];omega
  ·rw [if_neg e]
   have:=h k e
   omega
theorem Tryz.zmp (g:Nat→Int): ∀k,zcB g g k=0
 | 0=>rfl
 | k+1=>by unfold zcB;rw [if_pos rfl,zmp g k]
theorem Tryz.zAz (gw gn:Nat→Int): ∀k,zcB gw gn k≤k
 | 0=>Nat.le_refl _
 | k+1=>by
  have:=zAz gw gn k
  unfold zcB
  split<;>omega
open Go.Maps Go.Sort
section
variable {ρ:Val} {w0:World} {K:Nat→Prop} {X:Nat→Prop} {bX:Nat} {S P L Bs B M N:Nat} {r:Tryz.Rg} {b2:Nat} {sk:Nat→Tryz.PS×(Nat→Int)} {rows:Nat→List Tryz.LwR} {k k' q:Nat}
theorem Tryz.zb4 (hv0:ρ.v 0= .pointer (some ⟨P,0,none⟩)) (hN:1≤N∧N≤1048576) (hbX:bX≤w0.heap.size) (hb2:b2≤w0.heap.size) (hrows: ∀e∈rows k',e=imgR q N (sk k).2∨e∈rows k) (hs:sk k'=sk k):
  zaO prog ρ w0 K (obG (pwO S P L Bs B M N r) X bX b2 sk rows) (zdB k q k'):=
 zFh (e0:=imgR q N (sk k).2) (Dw.enters_of (by kernel_rfl)) (show AV.exactL [.cst 0 none]=true by decide) hbX [.pointer (some ⟨P,0,none⟩)] (fun j=>zab (zaR hv0 rfl) RL.nil) hb2 (fun j u hj ho _=>⟨⟨_,hj,rfl⟩,ho,fun _ h=>by cases h⟩) hrows rfl hs
  fun A w hsw=>Calls.mono (zA2 P L Bs B N (sk k).2 w hsw.sw.mem hN.1 hN.2) fun e w' ⟨v,h1,h2,h3⟩=>⟨v,_,h1,h2,h3⟩
theorem Tryz.zcq {n:Nat} (hv2:ρ.v 2= .pointer (some ⟨S,0,none⟩)) (hn:(lnv n).den ρ=(sk k).1.tk.length) (hl:(sk k).1.tk.length≤1000000) (hbX:bX≤w0.heap.size) (hb2:b2≤w0.heap.size):
  zaO prog ρ w0 K (obG (pwO S P L Bs B M N r) X bX b2 sk rows) (zeE k q n):=by
 refine ⟨Dw.enters_of (by kernel_rfl),fun j w vals F n0 hv hnone hb hF hsz hf _=> ?_⟩
 have hb:n0=q:=hb (by show (1:Nat)≠0;decide)
 subst hb
 have hv:=zch (show AV.exactL [.cst 2 none]=true by decide) hv (zab (zaR hv2 rfl) RL.nil)
 subst hv
 have hf0:=hf
 obtain ⟨hXF,F0,hF0,h1,h2⟩:=hf
 refine Calls.mono (zmx h1.sw hl) fun en w' hh=> ?_
 obtain ⟨u,t,rfl,hu,hbl⟩:=hh
 have hu:OwnR t 1 w' w.heap.size u (sk k).1.tk.length ((zbt (sk k).1).map encZ):=hu
 have hj:jq j n0 [u] n0=some ⟨0,0,0,some u⟩:=by
  unfold jq
  rw [if_pos ⟨Nat.le_refl _,by simp⟩]
  simp
 obtain ⟨sa,c,hsl,_⟩:=OwnR.row hu
 refine ⟨u,[u],F,rfl,rfl,⟨⟨_,hj,rfl⟩,OwnR.one hu,fun m hm=> ?_⟩,?_,fun b hb=>⟨Nat.lt_of_lt_of_le (hF b hb) hbl.size,.inl hb⟩,Dw.Mv.of_below hbl⟩
 ·cases hm
  exact ⟨sa,_,c,hsl,hn.symm⟩
 ·exact (obG (pwO S P L Bs B M N r) X bX b2 sk rows).loc k _ _ F w w' hf0 (fun m v hm=>zu7 (zJl hnone) hm) (fun b hb=>hbl.block b (hF b hb)) hbl.size
theorem Tryz.zzK (hv2:ρ.v 2= .pointer (some ⟨S,0,none⟩)) (h21:ρ.i 21=(zbh (sk 1).1).1) (hs:sk 2=((zbh (sk 1).1).2,(sk 1).2)) (hbX:bX≤w0.heap.size) (hlt:S<b2∧M<b2∧B<b2) (hK:K S∧K M∧K B) (hrows: ∀e∈rows 2,e∈rows 1):
  zaO prog ρ w0 K (obG (pwO S P L Bs B M N r) X bX b2 sk rows) zzL:=
 zr2 (Dw.enters_of (by kernel_rfl)) (by decide) hbX [.pointer (some ⟨S,0,none⟩)] (.int .i64 (zbh (sk 1).1).1) (fun j=>zab (zaR hv2 rfl) RL.nil) (fun j=>zac h21) hlt hK hrows fun A w hsw=>by
  rw [hs];exact zzh hsw
theorem Tryz.zzI {x y z:Int} (hv2:ρ.v 2= .pointer (some ⟨S,0,none⟩)) (hacc:(zba N r (sk 1).1 (sk 1).2).1=accV x y z) (h30:ρ.i 30=x) (h31:ρ.i 31=y) (h32:ρ.i 32=z) (h21:ρ.i 21=(zba N r (sk 1).1 (sk 1).2).2.1) (hs:sk 2=((zba N r (sk 1).1 (sk 1).2).2.2.1,(zba N r (sk 1).1 (sk 1).2).2.2.2)) (hbX:bX≤w0.heap.size) (hlt:S<b2∧M<b2∧B<b2) (hK:K S∧K M∧K B) (hrows: ∀e∈rows 2,e∈rows 1):
  zaO prog ρ w0 K (obG (pwO S P L Bs B M N r) X bX b2 sk rows) zzJ:=
 zr2 (Dw.enters_of (by kernel_rfl)) (by decide) hbX [.pointer (some ⟨S,0,none⟩)] (.tuple #[accV x y z,.int .i64 (zba N r (sk 1).1 (sk 1).2).2.1]) (fun j=>zab (zaR hv2 rfl) RL.nil) (fun j=>zc5 (zab (zbj (zab (zac h30) (zab (zac h31) (zab (zac h32) RL.nil)))) (zab (zac h21) RL.nil))) hlt hK hrows fun A w hsw=>by
  rw [hs,←hacc];exact zy2 hsw
theorem Tryz.zcU {b:Nat} (hv2:ρ.v 2= .pointer (some ⟨S,0,none⟩)) (hb:ρ.b b=decide ((sk k).1.ph≠0)):zaO prog ρ w0 K (obG (pwO S P L Bs B M N r) X bX b2 sk rows) (zeF k b):=
 zFg (Dw.enters_of (by kernel_rfl)) (by decide) [.pointer (some ⟨S,0,none⟩)] (.bool (decide ((sk k).1.ph≠0))) (fun j=>zab (zaR hv2 rfl) RL.nil) (fun j=>zaq hb) fun F w h1=>
  Calls.mono (zro h1.sw) fun e w' hh=>⟨hh.1,hh.2▸Below.refl _ _⟩
theorem Tryz.zgs (hv2:ρ.v 2= .pointer (some ⟨S,0,none⟩)) (h23:ρ.i 23=if (sk k).1.br then 4 else 0):zaO prog ρ w0 K (obG (pwO S P L Bs B M N r) X bX b2 sk rows) (zlY k):=
 zFg (Dw.enters_of (by kernel_rfl)) (by decide) [.pointer (some ⟨S,0,none⟩)] (.int .i64 (if (sk k).1.br then 4 else 0)) (fun j=>zab (zaR hv2 rfl) RL.nil) (fun j=>zac h23) fun F w h1=>
  Calls.mono (zvy h1.sw) fun e w' hh=>⟨hh.1,hh.2▸Below.refl _ _⟩
theorem Tryz.zeD {kd n:Int} (h8:ρ.i 8=n) (hk:n%7=kd):zaO prog ρ w0 K (obG (pwO S P L Bs B M N r) X bX b2 sk rows) (zhi kd):=
 zay (Dw.enters_of (by kernel_rfl)) rfl [.int .i64 n,.int .i64 7] (.int .i64 kd) (fun j=>zab (zac h8) (zab (zac rfl) RL.nil)) (fun j=>zac rfl) fun w F q hf=>by
  rw [←hk]
  exact Calls.mono (ziz n 7 (by decide) w) fun e w' hh=>⟨hh.1,hh.2▸Below.refl _ _⟩
theorem Tryz.zpE {a m:SE} {n c v:Int} {x:Nat} (ha:a.den ρ=n) (hm:m.den ρ=c) (hx:ρ.i x=v) (hc:1≤c∧c≤1000000) (hv:n%c=v) (hs:AV.exactL [.int .i64 a,.int .i64 m]=true):zaO prog ρ w0 K (obG (pwO S P L Bs B M N r) X bX b2 sk rows) (zna a m x k):=
 zay (Dw.enters_of (by kernel_rfl)) hs [.int .i64 n,.int .i64 c] (.int .i64 v) (fun j=>zab (zac ha) (zab (zac hm) RL.nil)) (fun j=>zac hx) fun w F q hf=>by
  rw [←hv]
  exact Calls.mono (ziz n c hc w) fun e w' hh=>⟨hh.1,hh.2▸Below.refl _ _⟩
def Tryz.zz5 (H:List Int):LwR:=⟨some 7,undef,1,H.length,zec H⟩
theorem Tryz.zwP {p v:Int} (hv0:ρ.v 0= .pointer (some ⟨P,0,none⟩)) (h20:ρ.i 20=p) (hp:0≤p∧p+4≤N) (hN:N≤1048576) (h10:(u32v 10).den ρ=v) (hs:sk 2=((sk 1).1,putW (sk 1).2 p.toNat 4 v)) (hbX:bX≤w0.heap.size) (hlt:S<b2∧M<b2∧B<b2) (hK:K S∧K M∧K B) (hrows: ∀e∈rows 2,e∈rows 1):
  zaO prog ρ w0 K (obG (pwO S P L Bs B M N r) X bX b2 sk rows) zuG:=
 zEI (Dw.enters_of (by kernel_rfl)) (by decide) hbX [.pointer (some ⟨P,0,none⟩),.int .u64 p,.int .i64 4,.int .u64 v] (.int .i64 0)
  (fun j=>zab (zaR hv0 rfl) (zab (zac (by show IntKind.wrap .u64 (ρ.i 20)=p;rw [h20];exact zbC (by omega) (by omega))) (zab (zac rfl) (zab (zac h10) RL.nil)))) (fun j=>zac rfl) hlt hK hrows (by rw [hs]) fun w _ hm=>by
  rw [hs]
  exact Calls.mono (ztv (k:=4) hm hN (.inr (.inr (.inl rfl))) v hp.1 hp.2) fun e w' ⟨e1,e2,e3⟩=>⟨e1,e2,e3⟩
theorem Tryz.zhk (s:PS):(zbt s).length=s.tk.length:=by simp [zbt]
theorem Tryz.zzM (hv2:ρ.v 2= .pointer (some ⟨S,0,none⟩)) (hn:(lnv 17).den ρ=(sk 1).1.tk.length) (hl:(sk 1).1.tk.length≤1000000) (hbX:bX≤w0.heap.size) (hb2:b2≤w0.heap.size) (hrows: ∀e∈rows 6,e=zz5 (zbt (sk 1).1)∨e∈rows 1) (hs:sk 6=sk 1):
  zaO prog ρ w0 K (obG (pwO S P L Bs B M N r) X bX b2 sk rows) zzN:=
 zFh (e0:=zz5 (zbt (sk 1).1)) (Dw.enters_of (by kernel_rfl)) (show AV.exactL [.cst 2 none]=true by decide) hbX [.pointer (some ⟨S,0,none⟩)] (fun j=>zab (zaR hv2 rfl) RL.nil) hb2 (fun j u hj ho hsl=>⟨⟨_,hj,rfl⟩,ho,fun m hm=>by
  cases hm
  obtain ⟨sa,c,e⟩:=hsl
  exact ⟨sa,_,c,e,by rw [hn];show ((zbt (sk 1).1).length:Int)=_;rw [zhk]⟩⟩) hrows rfl hs
  fun A w hsw=>Calls.mono (zmx hsw.sw hl) fun e w' ⟨v,t,h1,h2,h3⟩=>⟨v,t,h1,by show w'.ownsRow w.heap.size t 1 v (zbt (sk 1).1).length _;rw [zhk];exact h2,h3⟩
theorem Tryz.zwQ {l:List Sg} {a id:Int} {x:Bool} {sv:Value} (hv0:ρ.v 0= .pointer (some ⟨P,0,none⟩)) (hrg: ∀j,Dw.R ρ j prg r.pval) (h5:(lnv 5).den ρ=a) (hb5:ρ.b 5=x) (h20:ρ.i 20=id) (hsg: ∀j,Dw.R ρ j zpA sv)
  (h34:(lnv 34).den ρ=(zaW r.n a x (zbo r.n id a x l).length).1) (hb6:ρ.b 6=(zaW r.n a x (zbo r.n id a x l).length).2) (hb2':ρ.b 2=decide (ppOk r.n l)) (hr:PgOk r) (hN:N≤1048576) (hfit:4104+16*r.n≤N) (hsv:SegV (fun _=>False) w0 sv l)
  (hR:l≠ []→ ∀R o' c',sv= .slice (some ⟨R,o',none⟩) l.length c'→ ¬K R) (hl:l.length<60000) (ha:0≤a∧a<r.n) (hid:0≤id∧id<r.n) (hs:sk 2=((sk 1).1,zgl r.d (zbo r.n id a x l) (sk 1).2)) (hbX:bX≤w0.heap.size) (hlt:S<b2∧M<b2∧B<b2) (hK:K S∧K M∧K B) (hrows: ∀e∈rows 2,e∈rows 1):
  zaO prog ρ w0 K (obG (pwO S P L Bs B M N r) X bX b2 sk rows) zuH:=
 zEI (Dw.enters_of (by kernel_rfl)) (by decide) hbX [.pointer (some ⟨P,0,none⟩),r.pval,posV a x,.int .i64 id,sv] (.tuple #[posV (zaW r.n a x (zbo r.n id a x l).length).1 (zaW r.n a x (zbo r.n id a x l).length).2,.bool (decide (ppOk r.n l))])
  (fun j=>zab (zaR hv0 rfl) (zab (hrg j) (zab (zbj (zab (zac h5) (zab (zaq hb5) RL.nil))) (zab (zac h20) (zab (hsg j) RL.nil))))) (fun j=>zc5 (zab (zbj (zab (zac h34) (zab (zaq hb6) RL.nil))) (zab (zaq hb2') RL.nil))) hlt hK hrows (by rw [hs]) fun w hold hm=>by
  rw [hs]
  refine Calls.mono (zwM (A:=fun _=>False) hm hN hr hfit ?_ hl ha hid) fun e w' ⟨e1,e2,e3⟩=>⟨e1,e2,e3⟩
  obtain ⟨sa',c',e,hok,hr'⟩:=hsv
  refine ⟨sa',c',e,hok,?_⟩
  by_cases h0:l= []
  ·exact .inl h0
  ·rcases hr' with h|⟨R,o,e1,h3,h4⟩
   ·exact .inl h
   ·exact .inr ⟨R,o,e1,h3,zaN h4 (hold R (zdu h4 h0) (hR h0 R o c' (by rw [e,e1])))⟩
end
end Go.Proofs
namespace Go.Proofs
open Go.Dw Go.RowKit Go.Maps Go.Sort
def Tryz.zGL (r:Rg) (z k wb nb N cd:Int) (vw vn:Value) (a:Act):Val:=
 ⟨fun n=>match n with|0=>r.n|1=>r.d|2=>r.v|3=>r.c|19=>z|26=>k|27=>wb|28=>nb|29=>N|35=>cd|_=>0,fun _=>false,fun n=>match n with|6=>vw|7=>vn|n=>a.tmps.getD (n-100) undef⟩
structure Tryz.PqD (ρ:Val) (r:Rg) (z k wb nb N cd:Int) (vw vn:Value) (a:Act):Prop where
 n:(szv 0).den ρ=r.n
 d:(u64v 1).den ρ=r.d
 v:(u64v 2).den ρ=r.v
 c:(u64v 3).den ρ=r.c
 z:(u64v 19).den ρ=z
 k:(lnv 26).den ρ=k
 wb:ρ.i 27=wb
 nb:ρ.i 28=nb
 N:(lnv 29).den ρ=N
 cd:(lnv 35).den ρ=cd
 vw:ρ.v 6=vw
 vn:ρ.v 7=vn
 p: ∀t,ρ.v (100+t)=a.tmps.getD t undef
theorem Tryz.pqD {r:Rg} {z k wb nb N cd:Int} {vw vn:Value} {a:Act} (hr:PgOk r) (hz:0≤z∧z<18446744073709551616) (hk:0≤k∧k<4000000) (hN:0≤N∧N<4000000) (hc:0≤cd∧cd<4000000):PqD (zGL r z k wb nb N cd vw vn a) r z k wb nb N cd vw vn a:=by
 obtain ⟨⟨b1,b2⟩,⟨q1,q2⟩,⟨q3,q4⟩,q5,q6⟩:=hr.nums
 exact ⟨zdo b1 b2,zaJ q1 q2,zaJ q3 q4,zaJ q5 q6,zaJ hz.1 hz.2,zaw hk.1 (by show k<_;omega),rfl,rfl,zaw hN.1 (by show N<_;omega),zaw hc.1 (by show cd<_;omega),rfl,rfl,fun t=>by
  show (match 100+t with|6=>vw|7=>vn|n=>a.tmps.getD (n-100) undef)=_
  split
  ·omega
  ·omega
  ·rw [Nat.add_sub_cancel_left]⟩
theorem Tryz.PqD.rg {ρ:Val} {r:Rg} {z k wb nb N cd:Int} {vw vn:Value} {a:Act} (D:PqD ρ r z k wb nb N cd vw vn a) (j:J):RL ρ j zc7 [.bool true,.int .i64 r.n,.int .u64 r.d,.int .u64 r.v,.int .u64 r.c]:=
 zab (zaq rfl) (zab (zac D.n) (zab (zac D.d) (zab (zac D.v) (zab (zac D.c) RL.nil))))
set_option maxRecDepth 10000 in
theorem Tryz.zfQ {ρ:Val} {w0:World} {K:Nat→Prop} {X:Nat→Prop} {bX:Nat} {S P L Bs B M N:Nat} {r:Rg} {b2:Nat} {sk:Nat→PS×(Nat→Int)} {rows:Nat→List LwR} {k was now:Nat} {steps:SE} {hds:AV} {gw gn:Nat→Int}
  (hr:PgOk r) (hN:N≤1048576) (hz:(u64v 19).den ρ=16*r.n) (hrg: ∀j,RL ρ j zc7 [.bool true,.int .i64 r.n,.int .u64 r.d,.int .u64 r.v,.int .u64 r.c])
  (hw:imgR was N gw∈rows k) (hn:imgR now N gn∈rows k) (hg: ∀j,gn j≠gw j→mayW r j) (h33:ρ.i 33=(zcB gw gn N:Nat))
  (hh:(match hds with| .int _ _=>true| .ptr _ _=>true| .cst _ _=>true| .opq _ _=>true| .sx _ _ _ _=>true|_=>false)=true):
  zrF prog ρ w0 K (obG (pwO S P L Bs B M N r) X bX b2 sk rows) (zbi k was now steps hds):=by
 refine zfS rfl (fun d hd=>by unfold zbi at hd;simp at hd;rw [hd];rfl) fun cc hc j a w F hsz hdf hsl hrw hf _ _=> ?_
 obtain ⟨_,F0,_,_,hrows⟩:=hf
 obtain ⟨uw,tw,qw,how,_⟩:=hrows _ hw
 obtain ⟨un,tn,qn,hon,_⟩:=hrows _ hn
 have val: ∀ {q:Nat} {u v:Value},opqs j q=some u→Dw.R ρ j (.opq q none) v→v=u:=fun {q u v} hq h=>by
  obtain ⟨⟨Lq,hj,hu⟩,_⟩:=h
  unfold opqs at hq
  rw [hj] at hq
  simp only [Option.bind_some] at hq
  rw [hu] at hq
  injection hq
 have h9:=(hsl (9,.ptr 1 0) (by simp [zbi])).2
 have h11:=(hsl (11,.int .u64 (u64v 19)) (by simp [zbi])).2
 have h18:=val qw (hsl (18,.opq was none) (by simp [zbi])).2
 have h26:=val qn (hsl (26,.opq now none) (by simp [zbi])).2
 have g27:a.tmps.getD 27 undef= .int .i64 0:=(hsl (27,.int .i64 (.lit 0)) (by simp [zbi])).2
 have g28:a.tmps.getD 28 undef= .int .i64 0:=(hsl (28,.int .i64 (.lit 0)) (by simp [zbi])).2
 have g11:a.tmps.getD 11 undef= .int .u64 (16*r.n):=by rw [show a.tmps.getD 11 undef= .int .u64 ((u64v 19).den ρ) from h11,hz]
 obtain ⟨Lb,hjb,g9⟩:=h9
 obtain ⟨_,vals,hvals,hrow⟩:=hrw (1,zc7) (by simp [zbi]) Lb hjb
 have hvals:=zch (show AV.exactL zc7=true by decide) hvals (hrg j)
 subst hvals
 have hone: ∀t∈ [0,2,7,8,14,15,16,19],(a.tmps.getD t undef).oneCell'=true:=by
  intro t ht
  simp only [List.mem_cons,List.not_mem_nil,or_false] at ht
  rcases ht with rfl|rfl|rfl|rfl|rfl|rfl|rfl|rfl
  ·exact zct rfl (hsl (0,.int .i64 (szv 0)) (by simp [zbi,zcd])).2
  ·exact zct rfl (hsl (2,zdC) (by simp [zbi,zcd])).2
  ·exact zct rfl (hsl (7,.cst 0 none) (by simp [zbi,zcd])).2
  ·exact zct rfl (hsl (8,.cst 2 none) (by simp [zbi,zcd])).2
  ·exact zct rfl (hsl (14,.int .i64 steps) (by simp [zbi,zcd])).2
  ·exact zct rfl (hsl (15,.ptr 2 0) (by simp [zbi,zcd])).2
  ·exact zct rfl (hsl (16,.int .i64 (lnv 6)) (by simp [zbi,zcd])).2
  ·exact zct hh (hsl (19,hds) (by simp [zbi,zcd])).2
 have hcc:cc=zaI prog [0,0,1,0,1,1,1,1,1,1,0,0,1,0,0,1,0,1,1,1,1,1,1,1,1,4]:=by
  have:=zhz (P:=prog) (p:= [0,1,0,1,1,1,1,1,1,0,0,1,0,0,1,0,1,1,1,1,1,1,1,1,4]) (by kernel_rfl)
  have hc:zaI prog [0,1,0,1,1,1,1,1,1,0,0,1,0,0,1,0,1,1,1,1,1,1,1,1,4]= .loop cc:=hc
  rw [hc] at this
  injection this
 subst hcc
 have hsz:a.tmps.size=232:=hsz
 obtain ⟨sw,cw,rfl,hrw1⟩:=OwnR.row how
 obtain ⟨sn,cn,rfl,hrn1⟩:=OwnR.row hon
 have hLlt:Lb.blk<w.heap.size:=ztQ hrow
 have hwl:=OwnR.lt how
 have hnl:=OwnR.lt hon
 have hbn:=hr.bnd
 have hrd:=hr.d
 have hrc:=hr.c
 refine zbT (fun (k:Nat) a' w'=>k≤N∧a'.tmps.size=232∧a'.defers= []∧a'.tmps.getD 9 undef= .pointer (some ⟨Lb.blk,Lb.off+0,none⟩)∧a'.tmps.getD 11 undef= .int .u64 (16*r.n)∧a'.tmps.getD 18 undef= .slice sw N cw∧a'.tmps.getD 26 undef= .slice sn N cn∧a'.tmps.getD 27 undef= .int .i64 (zcB gw gn k:Nat)∧a'.tmps.getD 28 undef= .int .i64 k∧
   (∀ t∈ [0,2,7,8,14,15,16,19],a'.tmps.getD t undef=a.tmps.getD t undef)∧Below w.heap.size w w')
  (fun k=>N-k) (fun k a1 w1 hI=> ?_) 0 a w ⟨Nat.zero_le _,hsz,hdf,g9,g11,h18,h26,g27,g28,fun _ _=>rfl,Below.refl _ _⟩
 obtain ⟨hkN,q0,qd,p9,p11,p18,p26,p27,p28,pr,hb⟩:=hI
 have hrow1:Row w1 Lb [.bool true,.int .i64 r.n,.int .u64 r.d,.int .u64 r.v,.int .u64 r.c]:=hrow.kept (hb.block _ hLlt)
 have hwk:=zcN k (by omega)
 have hcl:=zAz gw gn k
 have hwc:=zcN (zcB gw gn k) (by omega)
 by_cases hk:k<N
 ·rcases hrw1 with h0|⟨Gw,rfl,hGw,hrw1⟩
  ·have:=congrArg List.length h0
   simp [imgR,ze2] at this
   omega
  rcases hrn1 with h0|⟨Gn,rfl,hGn,hrn1⟩
  ·have:=congrArg List.length h0
   simp [imgR,ze2] at this
   omega
  have hxw:=zqW (zaN hrw1 (hb.block Gw (hwl Gw hGw).2)) k hk
  have hxn:=zqW (zaN hrn1 (hb.block Gn (hnl Gn hGn).2)) k hk
  have D:=pqD (r:=r) (z:=16*r.n) (k:=k) (wb:=gw k) (nb:=gn k) (N:=N) (cd:=(zcB gw gn k:Nat)) (vw:= .slice (some ⟨Gw,0,none⟩) N cw) (vn:= .slice (some ⟨Gn,0,none⟩) N cn) (a:=a) hr (by omega) (by omega) (by omega) (by omega)
  generalize zGL r (16*r.n) k (gw k) (gn k) N (zcB gw gn k:Nat) (.slice (some ⟨Gw,0,none⟩) N cw) (.slice (some ⟨Gn,0,none⟩) N cn) a=ρ' at D
  have hj1:jOf [(Lb.blk,Lb.off),(Gw,0+1*k),(Gn,0+1*k)] 1=some ⟨Lb.blk,Lb.off,0,none⟩:=rfl
  have hj2:jOf [(Lb.blk,Lb.off),(Gw,0+1*k),(Gn,0+1*k)] 2=some ⟨Gw,0+1*k,0,none⟩:=rfl
  have hj3:jOf [(Lb.blk,Lb.off),(Gw,0+1*k),(Gn,0+1*k)] 3=some ⟨Gn,0+1*k,0,none⟩:=rfl
  have hlss:SB.den ρ' (.cmp .lss (lnv 26) (lnv 29))=true:=by rw [zaQ,D.k,D.N];simp only [decide_eq_true_eq];omega
  by_cases heq:gn k=gw k
  ·have hne:SB.den ρ' (.cmp .eql (.var 28) (.var 27))=true:=by rw [zbb,zat,zat,D.wb,D.nb,heq];simp
   refine wp_mono (zaz (ρ:=ρ') (K:=fun _=>False) (g:=Gho.none) (bl:= [(Lb.blk,Lb.off),(Gw,0+1*k),(Gn,0+1*k)]) mixed zHh zI8 (fun b h=>h.elim)
    ⟨zcO hrow1 (by simp) (D.rg _) (fun h=>h),zaX hxw (by simp) (zab (zac D.wb) RL.nil) (fun h=>h),zaX hxn (by simp) (zab (zac D.nb) RL.nil) (fun h=>h),trivial⟩
    ⟨fun h=>(by cases h),fun h=>(by cases h),fun h=>(by cases h),trivial⟩ zaK trivial trivial trivial q0 qd ?_ (zaa.2 ⟨hlss,zaa.2 ⟨hne,zae.2 trivial⟩⟩)) fun ex a2 w2 hh=> ?_
   ·intro t ht
    simp only [zgB,zen,List.map_cons,List.map_nil,List.cons_append,List.nil_append,List.mem_cons,List.not_mem_nil,or_false] at ht
    rcases ht with rfl|rfl|rfl|rfl|rfl|rfl|ht
    ·rw [p9];exact ⟨_,hj1,rfl⟩
    ·rw [p11];exact zac D.z
    ·rw [p18];exact ⟨D.vw.symm,_,_,_,rfl,D.N.symm,⟨Gw,0,_,k,rfl,hj2,rfl,D.k,hk,rfl⟩,trivial⟩
    ·rw [p26];exact ⟨D.vn.symm,_,_,_,rfl,D.N.symm,⟨Gn,0,_,k,rfl,hj3,rfl,D.k,hk,rfl⟩,trivial⟩
    ·rw [p27];exact zac D.cd
    ·rw [p28];exact zac D.k
    ·rcases ht with rfl|rfl|rfl|rfl|rfl|rfl|rfl|rfl
     all_goals
      show Dw.R ρ' _ (.cst _ none) _
      rw [pr _ (by simp)]
      exact zaR (D.p _) (hone _ (by simp))
   ·obtain ⟨q,hq,hto,lf,hlf,rfl,hsz2,j2,hdf2,he⟩:=hh
    have hb3:=zar he (fun _ h=>h)
    unfold zE8 at hq
    simp only [List.mem_cons,List.not_mem_nil,or_false] at hq
    subst hq
    cases hlf
    have hs2:=zav he.ret
    have lc1:=zag (he.sub _ _ hj1)
    simp only [AV.valL,AV.val,D.z,D.vw,D.vn,D.k,D.cd,D.p,den_add,zad,hwk,hwc,lc1,List.map_cons,List.map_nil,List.cons.injEq,and_true] at hs2
    obtain ⟨r9,r11,r18,r26,r27,r28,r0,r2,r7,r8,r14,r15,r16,r19⟩:=hs2
    refine ⟨k+1,by omega,hk,hsz2,hdf2,r9,r11,r18,r26,by rw [r27,zDw heq],r28,fun t ht=> ?_,hb.trans (hb3.mono hb.size)⟩
    simp only [List.mem_cons,List.not_mem_nil,or_false] at ht
    rcases ht with rfl|rfl|rfl|rfl|rfl|rfl|rfl|rfl
    ·exact r0.trans (D.p 0)
    ·exact r2.trans (D.p 2)
    ·exact r7.trans (D.p 7)
    ·exact r8.trans (D.p 8)
    ·exact r14.trans (D.p 14)
    ·exact r15.trans (D.p 15)
    ·exact r16.trans (D.p 16)
    ·exact r19.trans (D.p 19)
  ·have hmw:=hg k heq
   unfold mayW at hmw
   have hne:SB.den ρ' (.cmp .eql (.var 28) (.var 27))=false:=by rw [zbb,zat,zat,D.wb,D.nb];simpa using heq
   have hl:SB.den ρ' (.cmp .lss (lnv 26) (u64v 1))=false:=by rw [zaQ,D.k,D.d];simp only [decide_eq_false_iff_not];omega
   by_cases hin:(k:Int)<r.d+16*r.n
   ·have hge:SB.den ρ' (.cmp .geq (lnv 26) (.bin .add .u64 (u64v 1) (u64v 19)))=false:=by rw [zbP,D.k,den_add,D.d,D.z,zbC (by omega) (by omega)];simp only [decide_eq_false_iff_not];omega
    refine wp_mono (zaz (ρ:=ρ') (K:=fun _=>False) (g:=Gho.none) (bl:= [(Lb.blk,Lb.off),(Gw,0+1*k),(Gn,0+1*k)]) mixed zHf zI7 (fun b h=>h.elim)
     ⟨zcO hrow1 (by simp) (D.rg _) (fun h=>h),zaX hxw (by simp) (zab (zac D.wb) RL.nil) (fun h=>h),zaX hxn (by simp) (zab (zac D.nb) RL.nil) (fun h=>h),trivial⟩
     ⟨fun h=>(by cases h),fun h=>(by cases h),fun h=>(by cases h),trivial⟩ zaK trivial trivial trivial q0 qd ?_ (zaa.2 ⟨hlss,zaa.2 ⟨hne,zaa.2 ⟨hl,zaa.2 ⟨hge,zae.2 trivial⟩⟩⟩⟩)) fun ex a2 w2 hh=> ?_
    ·intro t ht
     simp only [zgA,zen,List.map_cons,List.map_nil,List.cons_append,List.nil_append,List.mem_cons,List.not_mem_nil,or_false] at ht
     rcases ht with rfl|rfl|rfl|rfl|rfl|rfl|ht
     ·rw [p9];exact ⟨_,hj1,rfl⟩
     ·rw [p11];exact zac D.z
     ·rw [p18];exact ⟨D.vw.symm,_,_,_,rfl,D.N.symm,⟨Gw,0,_,k,rfl,hj2,rfl,D.k,hk,rfl⟩,trivial⟩
     ·rw [p26];exact ⟨D.vn.symm,_,_,_,rfl,D.N.symm,⟨Gn,0,_,k,rfl,hj3,rfl,D.k,hk,rfl⟩,trivial⟩
     ·rw [p27];exact zac D.cd
     ·rw [p28];exact zac D.k
     ·rcases ht with rfl|rfl|rfl|rfl|rfl|rfl|rfl|rfl
      all_goals
       show Dw.R ρ' _ (.cst _ none) _
       rw [pr _ (by simp)]
       exact zaR (D.p _) (hone _ (by simp))
    ·obtain ⟨q,hq,hto,lf,hlf,rfl,hsz2,j2,hdf2,he⟩:=hh
     have hb3:=zar he (fun _ h=>h)
     unfold zE6 at hq
     simp only [List.mem_cons,List.not_mem_nil,or_false] at hq
     subst hq
     cases hlf
     have hs2:=zav he.ret
     have lc1:=zag (he.sub _ _ hj1)
     simp only [AV.valL,AV.val,D.z,D.vw,D.vn,D.k,D.cd,D.p,den_add,zad,hwk,hwc,lc1,List.map_cons,List.map_nil,List.cons.injEq,and_true] at hs2
     obtain ⟨r9,r11,r18,r26,r27,r28,r0,r2,r7,r8,r14,r15,r16,r19⟩:=hs2
     refine ⟨k+1,by omega,hk,hsz2,hdf2,r9,r11,r18,r26,by rw [r27,zve heq],r28,fun t ht=> ?_,hb.trans (hb3.mono hb.size)⟩
     simp only [List.mem_cons,List.not_mem_nil,or_false] at ht
     rcases ht with rfl|rfl|rfl|rfl|rfl|rfl|rfl|rfl
     ·exact r0.trans (D.p 0)
     ·exact r2.trans (D.p 2)
     ·exact r7.trans (D.p 7)
     ·exact r8.trans (D.p 8)
     ·exact r14.trans (D.p 14)
     ·exact r15.trans (D.p 15)
     ·exact r16.trans (D.p 16)
     ·exact r19.trans (D.p 19)
   ·have hge:SB.den ρ' (.cmp .geq (lnv 26) (.bin .add .u64 (u64v 1) (u64v 19)))=true:=by rw [zbP,D.k,den_add,D.d,D.z,zbC (by omega) (by omega)];simp only [decide_eq_true_eq];omega
    have hl3:SB.den ρ' (.cmp .lss (lnv 26) (u64v 3))=false:=by rw [zaQ,D.k,D.c];simp only [decide_eq_false_iff_not];omega
    have hg3:SB.den ρ' (.cmp .geq (lnv 26) (.bin .add .u64 (u64v 3) (.lit 4)))=false:=by rw [zbP,D.k,den_add,D.c,zad,zbC (by omega) (by omega)];simp only [decide_eq_false_iff_not];omega
    refine wp_mono (zaz (ρ:=ρ') (K:=fun _=>False) (g:=Gho.none) (bl:= [(Lb.blk,Lb.off),(Gw,0+1*k),(Gn,0+1*k)]) mixed zHd zI6 (fun b h=>h.elim)
     ⟨zcO hrow1 (by simp) (D.rg _) (fun h=>h),zaX hxw (by simp) (zab (zac D.wb) RL.nil) (fun h=>h),zaX hxn (by simp) (zab (zac D.nb) RL.nil) (fun h=>h),trivial⟩
     ⟨fun h=>(by cases h),fun h=>(by cases h),fun h=>(by cases h),trivial⟩ zaK trivial trivial trivial q0 qd ?_ (zaa.2 ⟨hlss,zaa.2 ⟨hne,zaa.2 ⟨hl,zaa.2 ⟨hge,zaa.2 ⟨hl3,zaa.2 ⟨hg3,zae.2 trivial⟩⟩⟩⟩⟩⟩)) fun ex a2 w2 hh=> ?_
    ·intro t ht
     simp only [zgz,zen,List.map_cons,List.map_nil,List.cons_append,List.nil_append,List.mem_cons,List.not_mem_nil,or_false] at ht
     rcases ht with rfl|rfl|rfl|rfl|rfl|rfl|ht
     ·rw [p9];exact ⟨_,hj1,rfl⟩
     ·rw [p11];exact zac D.z
     ·rw [p18];exact ⟨D.vw.symm,_,_,_,rfl,D.N.symm,⟨Gw,0,_,k,rfl,hj2,rfl,D.k,hk,rfl⟩,trivial⟩
     ·rw [p26];exact ⟨D.vn.symm,_,_,_,rfl,D.N.symm,⟨Gn,0,_,k,rfl,hj3,rfl,D.k,hk,rfl⟩,trivial⟩
     ·rw [p27];exact zac D.cd
     ·rw [p28];exact zac D.k
     ·rcases ht with rfl|rfl|rfl|rfl|rfl|rfl|rfl|rfl
      all_goals
       show Dw.R ρ' _ (.cst _ none) _
       rw [pr _ (by simp)]
       exact zaR (D.p _) (hone _ (by simp))
    ·obtain ⟨q,hq,hto,lf,hlf,rfl,hsz2,j2,hdf2,he⟩:=hh
     have hb3:=zar he (fun _ h=>h)
     unfold zE4 at hq
     simp only [List.mem_cons,List.not_mem_nil,or_false] at hq
     subst hq
     cases hlf
     have hs2:=zav he.ret
     have lc1:=zag (he.sub _ _ hj1)
     simp only [AV.valL,AV.val,D.z,D.vw,D.vn,D.k,D.cd,D.p,den_add,zad,hwk,hwc,lc1,List.map_cons,List.map_nil,List.cons.injEq,and_true] at hs2
     obtain ⟨r9,r11,r18,r26,r27,r28,r0,r2,r7,r8,r14,r15,r16,r19⟩:=hs2
     refine ⟨k+1,by omega,hk,hsz2,hdf2,r9,r11,r18,r26,by rw [r27,zve heq],r28,fun t ht=> ?_,hb.trans (hb3.mono hb.size)⟩
     simp only [List.mem_cons,List.not_mem_nil,or_false] at ht
     rcases ht with rfl|rfl|rfl|rfl|rfl|rfl|rfl|rfl
     ·exact r0.trans (D.p 0)
     ·exact r2.trans (D.p 2)
     ·exact r7.trans (D.p 7)
     ·exact r8.trans (D.p 8)
     ·exact r14.trans (D.p 14)
     ·exact r15.trans (D.p 15)
     ·exact r16.trans (D.p 16)
     ·exact r19.trans (D.p 19)
 ·have hkk:k=N:=by omega
  subst hkk
  have D:=pqD (r:=r) (z:=16*r.n) (k:=k) (wb:=0) (nb:=0) (N:=k) (cd:=(zcB gw gn k:Nat)) (vw:= .slice sw k cw) (vn:= .slice sn k cn) (a:=a) hr (by omega) (by omega) (by omega) (by omega)
  generalize zGL r (16*r.n) k 0 0 k (zcB gw gn k:Nat) (.slice sw k cw) (.slice sn k cn) a=ρ' at D
  have hj1:jOf [(Lb.blk,Lb.off)] 1=some ⟨Lb.blk,Lb.off,0,none⟩:=rfl
  refine wp_mono (zaz (ρ:=ρ') (K:=fun _=>False) (g:=Gho.none) (bl:= [(Lb.blk,Lb.off)]) mixed zHb zI5 (fun b h=>h.elim) ⟨zcO hrow1 (by simp) (D.rg _) (fun h=>h),trivial⟩ ⟨fun h=>(by cases h),trivial⟩ zaK trivial trivial trivial q0 qd ?_ (zaa.2 ⟨by rw [zaQ,D.k,D.N];simp,zae.2 trivial⟩)) fun ex a2 w2 hh=> ?_
  ·intro t ht
   simp only [zgy,zen,List.map_cons,List.map_nil,List.cons_append,List.nil_append,List.mem_cons,List.not_mem_nil,or_false] at ht
   rcases ht with rfl|rfl|rfl|rfl|rfl|rfl|ht
   ·rw [p9];exact ⟨_,hj1,rfl⟩
   ·rw [p11];exact zac D.z
   ·rw [p18];exact ⟨D.vw.symm,_,_,_,rfl,D.N.symm,trivial⟩
   ·rw [p26];exact ⟨D.vn.symm,_,_,_,rfl,D.N.symm,trivial⟩
   ·rw [p27];exact zac D.cd
   ·rw [p28];exact zac D.k
   ·rcases ht with rfl|rfl|rfl|rfl|rfl|rfl|rfl|rfl
    all_goals
     show Dw.R ρ' _ (.cst _ none) _
     rw [pr _ (by simp)]
     exact zaR (D.p _) (hone _ (by simp))
  ·obtain ⟨q,hq,hto,lf,hlf,rfl,hsz2,j2,hdf2,he⟩:=hh
   have hb3:=zar he (fun _ h=>h)
   unfold zE2 at hq
   simp only [List.mem_cons,List.not_mem_nil,or_false] at hq
   subst hq
   cases hlf
   have hs2:=zav he.ret
   have lc1:=zag (he.sub _ _ hj1)
   simp only [AV.valL,AV.val,D.z,D.p,D.cd,lc1,List.map_cons,List.map_nil,List.cons.injEq,and_true] at hs2
   obtain ⟨r9,r11,r27,r0,r2,r7,r8,r14,r15,r16,r19⟩:=hs2
   refine ⟨_,by unfold zbi;rw [zbA,if_pos (show SB.den ρ (.lit true)=true from rfl)],rfl,hsz2,hdf2,(fun t ht=>by cases ht),fun s hs=> ?_,hb.trans (hb3.mono hb.size)⟩
   simp only [zcd,List.cons_append,List.nil_append,List.mem_cons,List.not_mem_nil,or_false] at hs
   rcases hs with rfl|rfl|rfl|rfl|rfl|rfl|rfl|rfl|rfl|rfl|rfl
   ·rw [r9];exact ⟨Lb,hjb,rfl⟩
   ·rw [r11];exact zac hz
   ·rw [r27];exact zac h33
   ·rw [r0.trans (D.p 0)];exact (hsl (0,.int .i64 (szv 0)) (by simp [zbi,zcd])).2
   ·rw [r2.trans (D.p 2)];exact (hsl (2,zdC) (by simp [zbi,zcd])).2
   ·rw [r7.trans (D.p 7)];exact (hsl (7,.cst 0 none) (by simp [zbi,zcd])).2
   ·rw [r8.trans (D.p 8)];exact (hsl (8,.cst 2 none) (by simp [zbi,zcd])).2
   ·rw [r14.trans (D.p 14)];exact (hsl (14,.int .i64 steps) (by simp [zbi,zcd])).2
   ·rw [r15.trans (D.p 15)];exact (hsl (15,.ptr 2 0) (by simp [zbi,zcd])).2
   ·rw [r16.trans (D.p 16)];exact (hsl (16,.int .i64 (lnv 6)) (by simp [zbi,zcd])).2
   ·rw [r19.trans (D.p 19)];exact (hsl (19,hds) (by simp [zbi,zcd])).2
def Tryz.zHq (ρ:Val) (n idx head code:Int) (hv:Value) (a:Act):Val:=
 ⟨fun m=>match m with|17=>n|21=>code|24=>idx|25=>head|m=>ρ.i m,ρ.b,fun m=>match m with|5=>hv|m=>if 100≤m then a.tmps.getD (m-100) undef else ρ.v m⟩
structure Tryz.P1D (ρ' ρ:Val) (n idx head code:Int) (hv:Value) (a:Act):Prop where
 n:(lnv 17).den ρ'=n
 idx:ρ'.i 24=idx
 head:ρ'.i 25=head
 code:ρ'.i 21=code
 st:ρ'.i 15=ρ.i 15
 i9:ρ'.i 9=ρ.i 9
 v2:ρ'.v 2=ρ.v 2
 hv:ρ'.v 5=hv
 p: ∀t,ρ'.v (100+t)=a.tmps.getD t undef
 act: ∀j vals,RL ρ j zfu vals→RL ρ' j zfu vals
theorem Tryz.p1D {ρ:Val} {n idx head code:Int} {hv:Value} {a:Act} (hn:0≤n∧n<4000000):P1D (zHq ρ n idx head code hv a) ρ n idx head code hv a:=
 ⟨zaw hn.1 (by show n<_;omega),rfl,rfl,rfl,rfl,rfl,rfl,rfl,fun t=>by
  show (match 100+t with|5=>hv|m=>if 100≤m then a.tmps.getD (m-100) undef else ρ.v m)=_
  split
  ·omega
  ·rw [if_pos (by omega),Nat.add_sub_cancel_left],fun j vals h=>h⟩
set_option maxRecDepth 10000 in
theorem Tryz.zHp {ρ:Val} {w0:World} {K:Nat→Prop} {X:Nat→Prop} {bX:Nat} {S P L Bs B M N:Nat} {r:Rg} {b2:Nat} {sk:Nat→PS×(Nat→Int)} {rows:Nat→List LwR} {hd:LwR} {H:List Int} {an:Int}
    (hv2:ρ.v 2= .pointer (some ⟨S,0,none⟩)) (hn:(lnv 17).den ρ=H.length) (hH:H.length≤1000000) (h9:ρ.i 9=an) (hlt:S<b2∧M<b2∧B<b2) (hK:K S∧K M∧K B) (hb2:b2≤w0.heap.size) (hbX:bX≤w0.heap.size) (hany: -9223372036854775808≤an)
    (hhd:hd∈rows 6) (hhq:hd.q=some 7) (hhn:hd.n=H.length) (hhz:hd.sz=1) (hhc:hd.cs=zec H) (hrows: ∀e∈rows 2,e∈rows 6∧ ∃y,e.cs[0]? =some y∧ ∀z,y≠ .int .i64 z)
    (hlen: ∀e∈(sk 6).1.tk,e.2.sg.length≤1000000)
    (hs:sk 2=if H.length=0 then sk 6 else ((zci (sk 6).1 (H.getD (an%H.length).toNat 0) 0).2,(sk 6).2)) (hb3:ρ.b 3=decide (H.length≠0∧(zci (sk 6).1 (H.getD (an%H.length).toNat 0) 0).1=0)):
    zrF prog ρ w0 K (obG (pwO S P L Bs B M N r) X bX b2 sk rows) zaU:=by
  intro cc hcc j a w F n0 hsz hdf hsl hrw hnone hbase hF hs0 hf hold
  subst hcc
  obtain ⟨hXF,F0,hF0,hlw,hrw2⟩:=hf
  obtain ⟨uf,huf⟩: ∃uf:LwR→Value,∀e∈rows 6,e.is (opqs j) (uf e)∧(∃t,OwnR t e.sz w b2 (uf e) e.n e.cs)∧ ∀b,(uf e).ownBlock=some b→F b∧ ¬F0 b:=by
    classical
    exact ⟨fun e=>if h:e∈rows 6 then Classical.choose (hrw2 e h) else undef,fun e h=>by simp only [h,dite_true];obtain ⟨t,h1,h2,h3⟩:=Classical.choose_spec (hrw2 e h);exact ⟨h1,⟨t,h2⟩,h3⟩⟩
  have g8:=R_val rfl (hsl (8,.cst 2 none) (by simp [zaU,zaV])).2
  have g14:=R_val rfl (hsl (14,.int .i64 (.var 15)) (by simp [zaU])).2
  simp only [AV.val,hv2,zat] at g8 g14
  have h20:=(hsl (20,.opq 7 (some (lnv 17))) (by simp [zaU])).2
  have h17:=(hsl (17,.ptr 4 0) (by simp [zaU])).2
  obtain ⟨La,hja,g17⟩:=h17
  obtain ⟨hLF,vals,hvals,hrow⟩:=hrw (4,zfu) (by simp [zaU]) La hja
  obtain ⟨q1,⟨tq,q2⟩,q3⟩:=huf hd hhd
  have g20:a.tmps.getD 20 undef=uf hd:=by
    obtain ⟨⟨Lq,hj,hu⟩,_⟩:=h20
    unfold LwR.is at q1
    rw [hhq] at q1
    simp only at q1
    unfold opqs at q1
    rw [hj] at q1
    simp only [Option.bind_some] at q1
    rw [hu] at q1
    injection q1
  rw [hhz,hhn,hhc] at q2
  have hone: ∀t∈ [0,2,7,9,11,15,16,18,19],(a.tmps.getD t undef).oneCell'=true:=by
    intro t ht
    simp only [List.mem_cons,List.not_mem_nil,or_false] at ht
    rcases ht with rfl|rfl|rfl|rfl|rfl|rfl|rfl|rfl|rfl
    · exact zct rfl (hsl (0,.int .i64 (szv 0)) (by simp [zaU,zaV])).2
    · exact zct rfl (hsl (2,zdC) (by simp [zaU,zaV])).2
    · exact zct rfl (hsl (7,.cst 0 none) (by simp [zaU,zaV])).2
    · exact zct rfl (hsl (9,.ptr 1 0) (by simp [zaU,zaV])).2
    · exact zct rfl (hsl (11,.int .u64 (u64v 19)) (by simp [zaU,zaV])).2
    · exact zct rfl (hsl (15,.ptr 2 0) (by simp [zaU,zaV])).2
    · exact zct rfl (hsl (16,.int .i64 (lnv 6)) (by simp [zaU,zaV])).2
    · exact zct rfl (hsl (18,.opq 5 none) (by simp [zaU,zaV])).2
    · exact zct rfl (hsl (19,.int .i64 (lnv 17)) (by simp [zaU,zaV])).2
  have hsz:a.tmps.size=232:=hsz
  have hq2:=q2
  obtain ⟨su,cu,hsu,hur⟩:=OwnR.row q2
  rw [hsu] at g20
  have hLlt:La.blk<w.heap.size:=ztQ hrow
  have hv0:vals≠ []:=fun h=>by
    subst h
    obtain ⟨_,_,h,_⟩:=hvals
    cases h
  by_cases h0:H.length=0
  · rw [h0] at hb3 hs
    have hb3:ρ.b 3=false:=by rw [hb3];simp
    rw [if_pos rfl] at hs
    have D:=p1D (ρ:=ρ) (n:=H.length) (idx:=0) (head:=0) (code:=0) (hv:= .slice su H.length cu) (a:=a) (by omega)
    generalize zHq ρ H.length 0 0 0 (.slice su H.length cu) a=ρ' at D
    have hj1:jOf [(La.blk,La.off)] 1=some ⟨La.blk,La.off,0,none⟩:=rfl
    have hvals1:RL ρ' (jOf [(La.blk,La.off)]) zfu vals:=D.act _ vals hvals
    refine wp_mono (zaz (ρ:=ρ') (K:=fun _=>False) (g:=Gho.none) (bl:= [(La.blk,La.off)]) mixed zHl zJa (fun b h=>h.elim) ⟨zcO hrow hv0 hvals1 (fun h=>h),trivial⟩ ⟨fun h=>(by cases h),trivial⟩ zaK trivial trivial trivial hsz hdf ?_ (zaa.2 ⟨by rw [zaY,D.n,zad];simp only [decide_eq_false_iff_not];omega,zae.2 trivial⟩)) fun ex a2 w2 hh=> ?_
    · intro t ht
      simp only [zgC,zen,List.map_cons,List.map_nil,List.cons_append,List.nil_append,List.mem_cons,List.not_mem_nil,or_false] at ht
      rcases ht with rfl|rfl|rfl|rfl|ht
      · rw [g8];exact zaR (D.v2.trans hv2) rfl
      · rw [g14];exact zac D.st
      · rw [g17];exact ⟨_,hj1,rfl⟩
      · rw [g20];exact ⟨D.hv.symm,_,_,_,rfl,D.n.symm,trivial⟩
      · rcases ht with rfl|rfl|rfl|rfl|rfl|rfl|rfl|rfl|rfl
        all_goals
          show Dw.R ρ' _ (.cst _ none) _
          exact zaR (D.p _) (hone _ (by simp))
    · obtain ⟨q,hq,hto,lf,hlf,rfl,hsz2,j2,hdf2,he⟩:=hh
      have hb3':=zar he (fun _ h=>h)
      unfold zFc at hq
      simp only [List.mem_cons,List.not_mem_nil,or_false] at hq
      subst hq
      cases hlf
      have hs2:=zav he.ret
      simp only [AV.valL,AV.val,D.v2,hv2,D.st,zat,List.map_cons,List.map_nil,List.cons.injEq,and_true] at hs2
      obtain ⟨r14,r8,r0,r2,r7,r9,r11,r15,r16,r18,r19⟩:=hs2
      refine ⟨⟨.lit true,.normal,(14,.int .i64 (.var 15))::zaV,2⟩,[],F,?_,rfl,hsz2,hdf2,(fun t ht=>by cases ht),rfl,fun s hs=> ?_,⟨hXF,F0,hF0,?_,fun e he=> ?_⟩,fun b hb=>⟨Nat.lt_of_lt_of_le (hF b hb) hb3'.size,.inl hb⟩,Dw.Mv.of_below hb3'⟩
      · unfold zaU
        rw [zbA,if_neg (by rw [zaA,hb3];decide),zbA,if_pos (show SB.den ρ (.lit true)=true from rfl)]
      · rw [zdg]
        simp only [zaV,List.mem_cons,List.not_mem_nil,or_false] at hs
        rcases hs with rfl|rfl|rfl|rfl|rfl|rfl|rfl|rfl|rfl|rfl|rfl
        · rw [r14];exact zac rfl
        · rw [r0.trans (D.p 0)];exact (hsl (0,.int .i64 (szv 0)) (by simp [zaU,zaV])).2
        · rw [r2.trans (D.p 2)];exact (hsl (2,zdC) (by simp [zaU,zaV])).2
        · rw [r7.trans (D.p 7)];exact (hsl (7,.cst 0 none) (by simp [zaU,zaV])).2
        · rw [r8,←g8];exact (hsl (8,.cst 2 none) (by simp [zaU,zaV])).2
        · rw [r9.trans (D.p 9)];exact (hsl (9,.ptr 1 0) (by simp [zaU,zaV])).2
        · rw [r11.trans (D.p 11)];exact (hsl (11,.int .u64 (u64v 19)) (by simp [zaU,zaV])).2
        · rw [r15.trans (D.p 15)];exact (hsl (15,.ptr 2 0) (by simp [zaU,zaV])).2
        · rw [r16.trans (D.p 16)];exact (hsl (16,.int .i64 (lnv 6)) (by simp [zaU,zaV])).2
        · rw [r18.trans (D.p 18)];exact (hsl (18,.opq 5 none) (by simp [zaU,zaV])).2
        · rw [r19.trans (D.p 19)];exact (hsl (19,.int .i64 (lnv 17)) (by simp [zaU,zaV])).2
      · show PwF S P L Bs B M N r (sk 2) _ w2
        rw [hs]
        exact hlw.kept (fun b hb=>hb3'.block b (hF b (hF0 b hb))) hb3'.size
      · obtain ⟨e1,⟨te,e2⟩,e3⟩:=huf e (hrows e he).1
        exact ⟨uf e,te,by rw [zdg];exact e1,OwnR.kept e2 fun b hb=>hb3'.block b (OwnR.lt e2 b hb).2,e3⟩
  · rw [if_neg h0] at hs
    rcases hur with hnil|⟨G,rfl,hGo,hur⟩
    · have:=congrArg List.length hnil
      simp [zec] at this
      exact absurd (List.length_eq_zero_iff.2 this) h0
    have hm0:0≤an%H.length:=Int.emod_nonneg _ (by omega)
    have hm1:an%H.length<H.length:=Int.emod_lt_of_pos _ (by omega)
    obtain ⟨k,hk⟩: ∃k:Nat,an%H.length=k:=⟨(an%H.length).toNat,by omega⟩
    have hkl:k<H.length:=by omega
    rw [hk,Int.toNat_natCast] at hs hb3
    have hx:=zDE hur k hkl
    have hgd:H.getD k 0=H[k]:=by simp [List.getD_eq_getElem?_getD,hkl]
    rw [hgd] at hs hb3
    generalize H[k]=head at hx hs hb3
    have hGF:=q3 G (by rw [hsu];rfl)
    have D:=p1D (ρ:=ρ) (n:=H.length) (idx:=k) (head:=head) (code:=(zci (sk 6).1 head 0).1) (hv:= .slice (some ⟨G,0,none⟩) H.length cu) (a:=a) (by omega)
    generalize zHq ρ H.length k head (zci (sk 6).1 head 0).1 (.slice (some ⟨G,0,none⟩) H.length cu) a=ρ' at D
    have hj1:jOf [(La.blk,La.off),(G,0+1*k)] 1=some ⟨La.blk,La.off,0,none⟩:=rfl
    have hj2:jOf [(La.blk,La.off),(G,0+1*k)] 2=some ⟨G,0+1*k,0,none⟩:=rfl
    have hvals1:RL ρ' (jOf [(La.blk,La.off),(G,0+1*k)]) zfu vals:=D.act _ vals hvals
    have hKL: ¬(La.blk=S∨La.blk=M∨La.blk=B):=fun h=>hLF (by rcases h with h|h|h<;>rw [h];exact hF0 _ hlw.fS;exact hF0 _ hlw.fM;exact hF0 _ hlw.fB)
    have hKG: ¬(G=S∨G=M∨G=B):=fun h=>hGF.2 (by rcases h with h|h|h<;>rw [h];exact hlw.fS;exact hlw.fM;exact hlw.fB)
    have hFs: ∀b,(b=S∨b=M∨b=B)→F b:=fun b h=>by rcases h with rfl|rfl|rfl;exact hF0 _ hlw.fS;exact hF0 _ hlw.fM;exact hF0 _ hlw.fB
    refine wp_mono (zaz (ρ:=ρ') (K:=fun b=>b=S∨b=M∨b=B) (g:=obG (pwO S P L Bs B M N r) F w.heap.size b2 (fun m=>match m with|2=>((zci (sk 6).1 head 0).2,(sk 6).2)|_=>sk 6) (fun _=>(rows 2).map fun e=>⟨none,uf e,e.sz,e.n,e.cs⟩)) (bl:= [(La.blk,La.off),(G,0+1*k)]) mixed zHn zJb (fun b h=>hF b (hFs b h))
      ⟨zcO hrow hv0 hvals1 hKL,zaX hx (by simp) (zab (zac D.head) RL.nil) hKG,trivial⟩ ⟨fun h=>(by cases h),fun h=>(by cases h),trivial⟩ ?_
      ⟨zay (Dw.enters_of (by kernel_rfl)) (by decide) [.int .i64 an,.int .i64 H.length] (.int .i64 (an%H.length)) (fun j=>zab (zac (D.i9.trans h9)) (zab (zac D.n) RL.nil)) (fun j=>zac (D.idx.trans hk.symm)) (fun w F q hf=>Calls.mono (ziz an H.length (by omega) w) fun e w' hh=>⟨hh.1,hh.2▸Below.refl _ _⟩),
       zr2 (Dw.enters_of (by kernel_rfl)) (by decide) (Nat.le_refl _) [.pointer (some ⟨S,0,none⟩),.int .i64 head,.int .u32 0] (.int .i64 (zci (sk 6).1 head 0).1) (fun j=>zab (zaR (D.v2.trans hv2) rfl) (zab (zac D.head) (zab (zac rfl) RL.nil))) (fun j=>zac D.code) hlt ⟨.inl rfl,.inr (.inl rfl),.inr (.inr rfl)⟩ (fun e h=>h) (fun A w hsw=>zCM hsw head 0 (by decide) hlen),trivial⟩
      trivial trivial hsz hdf ?_ (zaa.2 ⟨by rw [zaY,D.n,zad];simp only [decide_eq_true_eq];omega,zaa.2 ⟨by rw [zaQ,zat,D.idx,D.n];simp only [decide_eq_true_eq];omega,zaa.2 ⟨by rw [zaQ,zat,D.idx,zad];simp only [decide_eq_false_iff_not];omega,zae.2 trivial⟩⟩⟩)) fun ex a2 w2 hh=> ?_
    · refine ⟨fun b=>F b∧b≠G,fun b hb=>⟨hF b hb.1,fun hmn=> ?_⟩,fun b hb=> .inl hb.1,F0,fun b hb=>⟨hF0 b hb,fun e=>hGF.2 (e▸hb)⟩,hlw,fun e he=> ?_⟩
      · have:=zde hmn
        simp only [List.map_cons,List.map_nil,List.mem_cons,List.not_mem_nil,or_false] at this
        rcases this with h|h
        · exact hLF (h▸hb.1)
        · exact hb.2 h
      · obtain ⟨e',he',rfl⟩:=List.mem_map.1 he
        obtain ⟨e1,⟨te,e2⟩,e3⟩:=huf e' (hrows e' he').1
        obtain ⟨y,y1,y2⟩:=(hrows e' he').2
        exact ⟨uf e',te,rfl,e2,fun b hb=>⟨⟨(e3 b hb).1,fun h=>OwnR.apart e2 hq2 y1 (show (zec H)[0]? =some (.int .i64 (H[0]'(by omega))) by simp [zec,show 0<H.length by omega]) (y2 _) b hb (by rw [h,hsu];rfl)⟩,(e3 b hb).2⟩⟩
    · intro t ht
      simp only [zgD,zen,List.map_cons,List.map_nil,List.cons_append,List.nil_append,List.mem_cons,List.not_mem_nil,or_false] at ht
      rcases ht with rfl|rfl|rfl|rfl|ht
      · rw [g8];exact zaR (D.v2.trans hv2) rfl
      · rw [g14];exact zac D.st
      · rw [g17];exact ⟨_,hj1,rfl⟩
      · rw [g20];exact ⟨D.hv.symm,_,_,_,rfl,D.n.symm,⟨G,0,_,k,rfl,hj2,rfl,D.idx,hkl,rfl⟩,trivial⟩
      · rcases ht with rfl|rfl|rfl|rfl|rfl|rfl|rfl|rfl|rfl
        all_goals
          show Dw.R ρ' _ (.cst _ none) _
          exact zaR (D.p _) (hone _ (by simp))
    · obtain ⟨q,hq,hto,lf,hlf,rfl,hsz2,j2,hdf2,he⟩:=hh
      have hmv:Dw.Mv (fun b=>F b∧(w0.heap.size≤b∨K b)) w w2:=he.mv.mono fun b hb=>⟨hFs b hb,.inr (by rcases hb with rfl|rfl|rfl;exact hK.1;exact hK.2.1;exact hK.2.2)⟩
      unfold zFe at hq
      simp only [List.mem_cons,List.not_mem_nil,or_false] at hq
      rcases hq with rfl|rfl
      all_goals
        simp only [zaa,zae,zbb,zat,zad,D.code,beq_iff_eq,beq_eq_false_iff_ne,ne_eq,and_true] at hto
        cases hlf
        have hs2:=zav he.ret
        simp only [AV.valL,AV.val,D.v2,hv2,D.st,zat,zad,List.map_cons,List.map_nil,List.cons.injEq,and_true] at hs2
        obtain ⟨r14,r8,r0,r2,r7,r9,r11,r15,r16,r18,r19⟩:=hs2
        obtain ⟨F2,hF2,hX2,F0',hF0',hlw2,hr2⟩:=he.gho
      · refine ⟨⟨.var 3,.normal,(14,.int .i64 (.lit 0))::zaV,2⟩,[],F2,?_,rfl,hsz2,hdf2,(fun t ht=>by cases ht),rfl,fun s hs=> ?_,⟨fun b hb=> ?_,F0',hF0',?_,fun e he'=> ?_⟩,fun b hb=>⟨(hF2 b hb).1,hX2 b hb⟩,hmv⟩
        · unfold zaU
          rw [zbA,if_pos (by rw [zaA,hb3];simp [h0,hto])]
        · rw [zdg]
          simp only [zaV,List.mem_cons,List.not_mem_nil,or_false] at hs
          rcases hs with rfl|rfl|rfl|rfl|rfl|rfl|rfl|rfl|rfl|rfl|rfl
          · rw [r14];exact zac rfl
          · rw [r0.trans (D.p 0)];exact (hsl (0,.int .i64 (szv 0)) (by simp [zaU,zaV])).2
          · rw [r2.trans (D.p 2)];exact (hsl (2,zdC) (by simp [zaU,zaV])).2
          · rw [r7.trans (D.p 7)];exact (hsl (7,.cst 0 none) (by simp [zaU,zaV])).2
          · rw [r8,←g8];exact (hsl (8,.cst 2 none) (by simp [zaU,zaV])).2
          · rw [r9.trans (D.p 9)];exact (hsl (9,.ptr 1 0) (by simp [zaU,zaV])).2
          · rw [r11.trans (D.p 11)];exact (hsl (11,.int .u64 (u64v 19)) (by simp [zaU,zaV])).2
          · rw [r15.trans (D.p 15)];exact (hsl (15,.ptr 2 0) (by simp [zaU,zaV])).2
          · rw [r16.trans (D.p 16)];exact (hsl (16,.int .i64 (lnv 6)) (by simp [zaU,zaV])).2
          · rw [r18.trans (D.p 18)];exact (hsl (18,.opq 5 none) (by simp [zaU,zaV])).2
          · rw [r19.trans (D.p 19)];exact (hsl (19,.int .i64 (lnv 17)) (by simp [zaU,zaV])).2
        · rcases hX2 b hb with h|h
          · exact hXF b h
          · exact .inr (by omega)
        · show PwF S P L Bs B M N r (sk 2) _ w2
          rw [hs]
          exact hlw2
        · obtain ⟨u,tu,u1,u2,u3⟩:=hr2 _ (List.mem_map.2 ⟨e,he',rfl⟩)
          have u1:u=uf e:=u1
          subst u1
          exact ⟨uf e,tu,by rw [zdg];exact (huf e (hrows e he').1).1,u2,u3⟩
      · refine ⟨⟨.lit true,.normal,(14,.int .i64 (.var 15))::zaV,2⟩,[],F2,?_,rfl,hsz2,hdf2,(fun t ht=>by cases ht),rfl,fun s hs=> ?_,⟨fun b hb=> ?_,F0',hF0',?_,fun e he'=> ?_⟩,fun b hb=>⟨(hF2 b hb).1,hX2 b hb⟩,hmv⟩
        · unfold zaU
          rw [zbA,if_neg (by rw [zaA,hb3];simp [hto]),zbA,if_pos (show SB.den ρ (.lit true)=true from rfl)]
        · rw [zdg]
          simp only [zaV,List.mem_cons,List.not_mem_nil,or_false] at hs
          rcases hs with rfl|rfl|rfl|rfl|rfl|rfl|rfl|rfl|rfl|rfl|rfl
          · rw [r14];exact zac rfl
          · rw [r0.trans (D.p 0)];exact (hsl (0,.int .i64 (szv 0)) (by simp [zaU,zaV])).2
          · rw [r2.trans (D.p 2)];exact (hsl (2,zdC) (by simp [zaU,zaV])).2
          · rw [r7.trans (D.p 7)];exact (hsl (7,.cst 0 none) (by simp [zaU,zaV])).2
          · rw [r8,←g8];exact (hsl (8,.cst 2 none) (by simp [zaU,zaV])).2
          · rw [r9.trans (D.p 9)];exact (hsl (9,.ptr 1 0) (by simp [zaU,zaV])).2
          · rw [r11.trans (D.p 11)];exact (hsl (11,.int .u64 (u64v 19)) (by simp [zaU,zaV])).2
          · rw [r15.trans (D.p 15)];exact (hsl (15,.ptr 2 0) (by simp [zaU,zaV])).2
          · rw [r16.trans (D.p 16)];exact (hsl (16,.int .i64 (lnv 6)) (by simp [zaU,zaV])).2
          · rw [r18.trans (D.p 18)];exact (hsl (18,.opq 5 none) (by simp [zaU,zaV])).2
          · rw [r19.trans (D.p 19)];exact (hsl (19,.int .i64 (lnv 17)) (by simp [zaU,zaV])).2
        · rcases hX2 b hb with h|h
          · exact hXF b h
          · exact .inr (by omega)
        · show PwF S P L Bs B M N r (sk 2) _ w2
          rw [hs]
          exact hlw2
        · obtain ⟨u,tu,u1,u2,u3⟩:=hr2 _ (List.mem_map.2 ⟨e,he',rfl⟩)
          have u1:u=uf e:=u1
          subst u1
          exact ⟨uf e,tu,by rw [zdg];exact (huf e (hrows e he').1).1,u2,u3⟩
end Go.Proofs
namespace Go.Proofs
open Go.Dw
def Tryz.zue:List Ent:= []
def Tryz.zyY:List Sh:= [.ro zfu]
def Tryz.zgo:List (Nat×AV):= [(0,.sx 4 (lnv 7) 9 [(lnv 6,1)]),(3,.int .i64 (lnv 6))]
def Tryz.zo5:List LEnt:= []
def Tryz.zo6:List AEnt:= []
def Tryz.zyZ:Option AV:=none
def Tryz.zGD:List (SB×Bool):= [(.cmp .lss (lnv 6) (lnv 7),true)]
def Tryz.zEO:List zbg:= [
 ⟨.ret,[2],none,⟨.tup [.bool (.lit false)],[],[],0,[]⟩⟩,
 ⟨.normal,[0,3],none,⟨.tup [.sx 4 ((lnv 7)) 9 [((lnv 6),1)],.int .i64 (.bin .add .i64 (lnv 6) (.lit 1))],[],[],0,[]⟩⟩,
 ⟨(.exit 0),[0],none,⟨.tup [.sx 4 ((lnv 7)) 9 [((lnv 6),1)]],[],[],0,[]⟩⟩]
def Tryz.zEN:List (List (SB×Bool)×Nat):= [
 ([((.cmp .leq (lnv 6) (.lit 60)),true),((.cmp .gtr (lnv 4) (.lit 100)),true)],0),
 ([((.cmp .leq (lnv 6) (.lit 60)),true),((.cmp .gtr (lnv 4) (.lit 100)),false)],1),
 ([((.cmp .leq (lnv 6) (.lit 60)),false)],2)]
theorem Tryz.zGC:(evL prog (zau zue) (zaD zo5) (zaC zo6) 100000 (.code (zaI prog [0,0,1,0,1,22]) [0,0,1,0,1,22] 24 (envS 24 zgo zyZ) (zas 0 zyY) (zaH zEO 0))).ways zGD=some zEN:=by kernel_rfl
theorem Tryz.zIR:(zah zyY&&zaf zue&&zak zo5&&zal zo6&&zan zgo&&zai zEO&&zaG 24 zgo&&Nat.ble 24 zaL&&zaB zyZ)=true:=by kernel_rfl
def Tryz.zud:List Ent:= []
def Tryz.zyW:List Sh:= []
def Tryz.zgn:List (Nat×AV):= [(0,.sx 4 (lnv 7) 9 []),(3,.int .i64 (lnv 6))]
def Tryz.zo3:List LEnt:= []
def Tryz.zo4:List AEnt:= []
def Tryz.zyX:Option AV:=none
def Tryz.zGB:List (SB×Bool):= [(.cmp .lss (lnv 6) (lnv 7),false)]
def Tryz.zEM:List zbg:= [
 ⟨(.exit 0),[0],none,⟨.tup [.sx 4 ((lnv 7)) 9 []],[],[],0,[]⟩⟩]
def Tryz.zEL:List (List (SB×Bool)×Nat):= [
 ([], 0)]
theorem Tryz.zGA:(evL prog (zau zud) (zaD zo3) (zaC zo4) 100000 (.code (zaI prog [0,0,1,0,1,22]) [0,0,1,0,1,22] 24 (envS 24 zgn zyX) (zas 0 zyW) (zaH zEM 0))).ways zGB=some zEL:=by kernel_rfl
theorem Tryz.zIQ:(zah zyW&&zaf zud&&zak zo3&&zal zo4&&zan zgn&&zai zEM&&zaG 24 zgn&&Nat.ble 24 zaL&&zaB zyX)=true:=by kernel_rfl
def Tryz.zuc:List Ent:= []
def Tryz.zyS:List Sh:= []
def Tryz.zgm:List (Nat×AV):= [(0,.sx 4 (lnv 7) 9 [])]
def Tryz.zoX:List LEnt:= []
def Tryz.zoY:List AEnt:= []
def Tryz.zyT:Option AV:=none
def Tryz.zGz:List (SB×Bool):= []
def Tryz.zEK:List zbg:= [
 ⟨.ret,[2],none,⟨.tup [.bool (.cmp .leq (lnv 7) (.lit 60))],[],[],0,[]⟩⟩]
def Tryz.zEJ:List (List (SB×Bool)×Nat):= [
 ([], 0)]
theorem Tryz.zGy:(evL prog (zau zuc) (zaD zoX) (zaC zoY) 100000 (.code (zaI prog [1,1,22]) [1,1,22] 24 (envS 24 zgm zyT) (zas 0 zyS) (zaH zEK 0))).ways zGz=some zEJ:=by kernel_rfl
theorem Tryz.zIP:(zah zyS&&zaf zuc&&zak zoX&&zal zoY&&zan zgm&&zai zEK&&zaG 24 zgm&&Nat.ble 24 zaL&&zaB zyT)=true:=by kernel_rfl
open Go.RowKit Go.Maps Go.Sort
structure Tryz.Pc where
 k:Int
 n:Int
 v:Int
 a:Int
 l:Int
 f:Int
 x:Int
 gd:Bool
 sv:Value
 sl:List Sg
def Tryz.Pc.cells (c:Pc):List Value:= [.int .i64 c.k,.int .i64 c.n,.int .u32 c.v,.int .u64 c.a,.int .u32 c.l,.int .u16 c.f,.int .u16 c.x,.bool c.gd,c.sv]
structure Tryz.Pc.ok (c:Pc) (w:World):Prop where
 k: -9223372036854775808≤c.k∧c.k<9223372036854775808
 n: -9223372036854775808≤c.n∧c.n<9223372036854775808
 v:0≤c.v∧c.v<4294967296
 a:0≤c.a∧c.a<18446744073709551616
 l:0≤c.l∧c.l<4294967296
 f:0≤c.f∧c.f<65536
 x:0≤c.x∧c.x<65536
 sv:SegV (fun _=>False) w c.sv c.sl
 sn:c.sl.length<4000000000000000
structure Tryz.PctV (w:World) (av:Value) (acts:List Pc):Prop where
 val: ∃aa c,av= .slice aa acts.length c∧(acts= []∨ ∃R o,aa=some ⟨R,o,none⟩∧ ∀i,(hi:i<acts.length)→w.rangeAt R (o+9*i) acts[i].cells)
 ok: ∀x∈acts,x.ok w
 len:acts.length<4000000000000000
theorem Tryz.PctV.below {w w':World} {av:Value} {acts:List Pc} (h:PctV w av acts) (hb:Below w.heap.size w w'):PctV w' av acts:=by
 obtain ⟨aa,c,e,hr⟩:=h.val
 refine ⟨⟨aa,c,e,?_⟩,fun x hx=> ?_,h.len⟩
 ·rcases hr with hr|⟨R,o,e1,hr⟩
  ·exact .inl hr
  ·exact .inr ⟨R,o,e1,fun i hi=>zaN (hr i hi) (hb.block R (World.block_lt_of_cell? w _ (hr i hi 0 _ rfl)))⟩
 ·have o:=h.ok x hx
  exact ⟨o.k,o.n,o.v,o.a,o.l,o.f,o.x,o.sv.kept (fun k hk _=>hb.block k hk),o.sn⟩
def Tryz.zhf (i n:Int) (c:Pc) (av:Value):Val:=⟨fun m=>match m with|4=>c.sl.length|6=>i|7=>n|8=>c.k|9=>c.n|10=>c.v|11=>c.a|12=>c.l|13=>c.f|14=>c.x|_=>0,fun m=>match m with|7=>c.gd|_=>false,fun m=>match m with|1=>c.sv|4=>av|_=>undef⟩
theorem Tryz.zEP {ρ:Val} {j:J} {w:World} {c:Pc} (h:c.ok w) (i4:ρ.i 4=c.sl.length) (i8:ρ.i 8=c.k) (i9:ρ.i 9=c.n) (i10:ρ.i 10=c.v) (i11:ρ.i 11=c.a) (i12:ρ.i 12=c.l) (i13:ρ.i 13=c.f) (i14:ρ.i 14=c.x) (b7:ρ.b 7=c.gd) (v1:ρ.v 1=c.sv):RL ρ j zfu c.cells:=by
 obtain ⟨sa,cc,e,_⟩:=h.sv
 have:=h.sn
 have d4:(lnv 4).den ρ=c.sl.length:=(zaw (by rw [i4];omega) (by rw [i4];omega)).trans i4
 exact zab (zac i8) (zab (zac i9) (zab (zac ((zbw (by rw [i10];exact h.v.1) (by rw [i10];exact h.v.2)).trans i10)) (zab (zac ((zaJ (by rw [i11];exact h.a.1) (by rw [i11];exact h.a.2)).trans i11)) (zab (zac ((zbw (by rw [i12];exact h.l.1) (by rw [i12];exact h.l.2)).trans i12))
  (zab (zac ((zbq (by rw [i13];exact h.f.1) (by rw [i13];exact h.f.2)).trans i13)) (zab (zac ((zbq (by rw [i14];exact h.x.1) (by rw [i14];exact h.x.2)).trans i14)) (zab (zaq b7) (zab ⟨v1.symm,sa,_,cc,e,d4.symm,trivial⟩ RL.nil))))))))
end Go.Proofs
namespace Go.Proofs
open Go.Dw Go.RowKit
def Tryz.okPc0:Pc:=⟨0,0,0,0,0,0,0,false,.slice none 0 0,[]⟩
set_option maxRecDepth 100000 in
theorem Tryz.zwO {w:World} {av:Value} {acts:List Pc} (h:PctV w av acts):
  Calls prog 22 #[av] w fun e w'=> ∃b,e= .returned (.bool b)∧(b=true→acts.length≤60∧ ∀x∈acts,x.sl.length≤100)∧Below w.heap.size w w':=by
 obtain ⟨aa,c,rfl,hr⟩:=h.val
 have hl:=h.len
 have hok:=h.ok
 go_enter func22,ntmps22
 go_wp2
 refine zbr (c':= .loop (zaI prog [0,0,1,0,1,22])) (by kernel_rfl) ?_
 have post: ∀ {a':Act} {w':World} {b:Bool},a'.defers= []→a'.tmps.getD 2 undef= .bool b→(b=true→acts.length≤60∧ ∀x∈acts,x.sl.length≤100)→Below w.heap.size w w'→
   bodyPost prog f22 (fun e w'=> ∃b,e= .returned (.bool b)∧(b=true→acts.length≤60∧ ∀x∈acts,x.sl.length≤100)∧RowKit.Below w.heap.size w w') .ret a' w':=fun {a' w' b} h1 h2 h3 h4=>
  zdG (fn:=f22) (Post:=fun e w'=> ∃b,e= .returned (.bool b)∧(b=true→acts.length≤60∧ ∀x∈acts,x.sl.length≤100)∧RowKit.Below w.heap.size w w') h1 rfl h2 ⟨b,rfl,h3,h4⟩
 have tail: ∀ {a':Act} {w':World} {Q:Exit→Act→World→Prop},a'.tmps.size=24→a'.defers= []→a'.tmps.getD 0 undef= .slice aa acts.length c→(acts.length≤60→ ∀x∈acts,x.sl.length≤100)→Below w.heap.size w w'→
   (∀ a2 w2,bodyPost prog f22 (fun e w'=> ∃b,e= .returned (.bool b)∧(b=true→acts.length≤60∧ ∀x∈acts,x.sl.length≤100)∧RowKit.Below w.heap.size w w') .ret a2 w2→Q .ret a2 w2)→(zaI prog [1,1,22]).wp prog Q a' w':=fun {a' w' Q} h1 h2 h3 h4 h5 h6=>by
  have d7:(lnv 7).den (zhf 0 acts.length okPc0 (.slice aa acts.length c))=acts.length:=zaw (by show (0:Int)≤acts.length;omega) (by show (acts.length:Int)<_;omega)
  have v4:(zhf 0 acts.length okPc0 (.slice aa acts.length c)).v 4= .slice aa acts.length c:=rfl
  generalize zhf 0 acts.length okPc0 (.slice aa acts.length c)=ρ at d7 v4
  refine wp_mono (zaz (ρ:=ρ) (K:=fun _=>False) (g:=Gho.none) (bl:= []) mixed zGy zIP (fun b h=>h.elim) trivial trivial zaK trivial trivial trivial h1 h2 ?_ (zae.2 trivial)) fun ex a2 w2 hh=> ?_
  ·intro t ht
   simp only [zgm,List.mem_cons,List.not_mem_nil,or_false] at ht
   subst ht
   rw [h3];exact ⟨v4.symm,_,_,_,rfl,d7.symm,trivial⟩
  ·obtain ⟨q,hq,hto,lf,hlf,rfl,hsz2,j2,hdf2,he⟩:=hh
   have hb3:=zar he (fun _ h=>h)
   unfold zEJ at hq
   simp only [List.mem_cons,List.not_mem_nil,or_false] at hq
   subst hq
   cases hlf
   have hs2:=zav he.ret
   simp only [AV.valL,AV.val,zrf,d7,zad,List.map_cons,List.map_nil,List.cons.injEq,and_true] at hs2
   refine h6 _ _ (post hdf2 hs2 (fun hb=> ?_) (h5.trans (hb3.mono h5.size)))
   have hb:=of_decide_eq_true hb
   exact ⟨by omega,h4 (by omega)⟩
 refine zbT (fun (i:Nat) a' w'=>i≤acts.length∧a'.tmps.size=24∧a'.defers= []∧a'.tmps.getD 0 undef= .slice aa acts.length c∧a'.tmps.getD 3 undef= .int .i64 i∧(∀q,(hq:q<acts.length)→q<i→acts[q].sl.length≤100)∧Below w.heap.size w w')
  (fun i=>acts.length-i) (fun i a1 w1 hI=> ?_) 0 _ _ ⟨Nat.zero_le _,rfl,rfl,rfl,rfl,fun q _ h=>by omega,Below.refl _ _⟩
 obtain ⟨hil,q0,qd,p0,p3,hbd,hb⟩:=hI
 have hwi:=zcN i (by omega)
 by_cases hi:i<acts.length
 ·rcases hr with h0|⟨R,o,rfl,hr⟩
  ·rw [h0] at hi;simp at hi
  have hx:=zaN (hr i hi) (hb.block R (World.block_lt_of_cell? w _ (hr i hi 0 _ rfl)))
  have hxo:=hok acts[i] (List.getElem_mem hi)
  have hEq: ∃C,acts[i]=C:=⟨_,rfl⟩
  obtain ⟨C,hC⟩:=hEq
  rw [hC] at hx hxo
  have hact:=fun j=>zEP (ρ:=zhf i acts.length C (.slice (some ⟨R,o,none⟩) acts.length c)) (j:=j) hxo rfl rfl rfl rfl rfl rfl rfl rfl rfl rfl
  have d4:(lnv 4).den (zhf i acts.length C (.slice (some ⟨R,o,none⟩) acts.length c))=C.sl.length:=zaw (by show (0:Int)≤C.sl.length;omega) (by have:=hxo.sn;show (C.sl.length:Int)<_;omega)
  have d6:(lnv 6).den (zhf i acts.length C (.slice (some ⟨R,o,none⟩) acts.length c))=i:=zaw (by show (0:Int)≤i;omega) (by show (i:Int)<_;omega)
  have d7:(lnv 7).den (zhf i acts.length C (.slice (some ⟨R,o,none⟩) acts.length c))=acts.length:=zaw (by show (0:Int)≤acts.length;omega) (by show (acts.length:Int)<_;omega)
  have v4:(zhf i acts.length C (.slice (some ⟨R,o,none⟩) acts.length c)).v 4= .slice (some ⟨R,o,none⟩) acts.length c:=rfl
  generalize zhf i acts.length C (.slice (some ⟨R,o,none⟩) acts.length c)=ρ at hact d4 d6 d7 v4
  have hj1:jOf [(R,o+9*i)] 1=some ⟨R,o+9*i,0,none⟩:=rfl
  refine wp_mono (zaz (ρ:=ρ) (K:=fun _=>False) (g:=Gho.none) (bl:= [(R,o+9*i)]) mixed zGC zIR (fun b h=>h.elim) ⟨zaX hx (by simp [Pc.cells]) (hact _) (fun h=>h),trivial⟩ ⟨fun h=>(by cases h),trivial⟩ zaK trivial trivial trivial q0 qd ?_ (zaa.2 ⟨by rw [zaQ,d6,d7];simp only [decide_eq_true_eq];omega,zae.2 trivial⟩)) fun ex a2 w2 hh=> ?_
  ·intro t ht
   simp only [zgo,List.mem_cons,List.not_mem_nil,or_false] at ht
   rcases ht with rfl|rfl
   ·rw [p0];exact ⟨v4.symm,_,_,_,rfl,d7.symm,⟨R,o,_,i,rfl,hj1,rfl,d6,hi,rfl⟩,trivial⟩
   ·rw [p3];exact zac d6
  ·obtain ⟨q,hq,hto,lf,hlf,rfl,hsz2,j2,hdf2,he⟩:=hh
   have hb3:=zar he (fun _ h=>h)
   unfold zEN at hq
   simp only [List.mem_cons,List.not_mem_nil,or_false] at hq
   rcases hq with rfl|rfl|rfl
   all_goals
    simp only [zaa,zae,zrf,zaY,d4,d6,zad,decide_eq_true_eq,decide_eq_false_iff_not,and_true] at hto
    cases hlf
    have hs2:=zav he.ret
    simp only [AV.valL,AV.val,v4,d6,den_add,zad,hwi,List.map_cons,List.map_nil,List.cons.injEq,and_true] at hs2
   ·exact post hdf2 hs2 (fun hb=>by cases hb) (hb.trans (hb3.mono hb.size))
   ·refine ⟨i+1,by omega,hi,hsz2,hdf2,hs2.1,hs2.2,fun q hq hlt=> ?_,hb.trans (hb3.mono hb.size)⟩
    by_cases hqi:q=i
    ·subst hqi;rw [hC];omega
    ·exact hbd q hq (by omega)
   ·simp only [exOf,Exit.inBlock,Exit.then,if_pos]
    rename_i K hK
    exact hK _ _ (zbr (c':=zaI prog [1,1,22]) (by kernel_rfl) (tail hsz2 hdf2 hs2 (fun hh=>by omega) (hb.trans (hb3.mono hb.size)) fun _ _ h=>h))
 ·have hii:i=acts.length:=by omega
  subst hii
  have d6:(lnv 6).den (zhf acts.length acts.length okPc0 (.slice aa acts.length c))=acts.length:=zaw (by show (0:Int)≤acts.length;omega) (by show (acts.length:Int)<_;omega)
  have d7:(lnv 7).den (zhf acts.length acts.length okPc0 (.slice aa acts.length c))=acts.length:=zaw (by show (0:Int)≤acts.length;omega) (by show (acts.length:Int)<_;omega)
  have v4:(zhf acts.length acts.length okPc0 (.slice aa acts.length c)).v 4= .slice aa acts.length c:=rfl
  generalize zhf acts.length acts.length okPc0 (.slice aa acts.length c)=ρ at d6 d7 v4
  refine wp_mono (zaz (ρ:=ρ) (K:=fun _=>False) (g:=Gho.none) (bl:= []) mixed zGA zIQ (fun b h=>h.elim) trivial trivial zaK trivial trivial trivial q0 qd ?_ (zaa.2 ⟨by rw [zaQ,d6,d7];simp,zae.2 trivial⟩)) fun ex a2 w2 hh=> ?_
  ·intro t ht
   simp only [zgn,List.mem_cons,List.not_mem_nil,or_false] at ht
   rcases ht with rfl|rfl
   ·rw [p0];exact ⟨v4.symm,_,_,_,rfl,d7.symm,trivial⟩
   ·rw [p3];exact zac d6
  ·obtain ⟨q,hq,hto,lf,hlf,rfl,hsz2,j2,hdf2,he⟩:=hh
   have hb3:=zar he (fun _ h=>h)
   unfold zEL at hq
   simp only [List.mem_cons,List.not_mem_nil,or_false] at hq
   subst hq
   cases hlf
   have hs2:=zav he.ret
   simp only [AV.valL,AV.val,v4,List.map_cons,List.map_nil,List.cons.injEq,and_true] at hs2
   simp only [exOf,Exit.inBlock,Exit.then,if_pos]
   rename_i K hK
   refine hK _ _ (zbr (c':=zaI prog [1,1,22]) (by kernel_rfl) (tail hsz2 hdf2 hs2 (fun _ x hx=> ?_) (hb.trans (hb3.mono hb.size)) fun _ _ h=>h))
   obtain ⟨q,hq,rfl⟩:=List.mem_iff_getElem.1 hx
   exact hbd q hq hq
open Go.Maps Go.Sort
structure Tryz.PmV where
 r:Rg
 c:Pc
 nacts:Int
 i:Int
 steps:Int
 na:Int
 nw:Bool
 h1:Int
 h2:Int
 pick:Int
 code:Int
 err:Int
 x:Int
 y:Int
 z:Int
 cnt:Int
 na2:Int
 nw2:Bool
 busy0:Bool
 busy1:Bool
 off:Bool
 ret:Bool
 busy:Bool
 mem:Value
 srv:Value
 acts:Value
def Tryz.PmV.rho (m:PmV):Val:=
  ⟨fun n=>match n with|0=>m.r.n|1=>m.r.d|2=>m.r.v|3=>m.r.c|4=>m.c.sl.length|5=>m.na|6=>m.i|7=>m.nacts|8=>m.c.k|9=>m.c.n|10=>m.c.v|11=>m.c.a|12=>m.c.l|13=>m.c.f|14=>m.c.x|15=>m.steps|17=>m.h1|18=>m.h2|19=>16*m.r.n|20=>m.pick|21=>m.code|23=>m.err|30=>m.x|31=>m.y|32=>m.z|33=>m.cnt|34=>m.na2|_=>0,
   fun n=>match n with|0=>m.busy0|1=>m.busy1|2=>m.off|3=>m.ret|4=>m.busy|5=>m.nw|6=>m.nw2|7=>m.c.gd|_=>false,fun n=>match n with|0=>m.mem|1=>m.c.sv|2=>m.srv|4=>m.acts|_=>undef⟩
structure Tryz.PmD (ρ:Val) (m:PmV):Prop where
 sz:(szv 0).den ρ=m.r.n
 d1:(u64v 1).den ρ=m.r.d
 d2:(u64v 2).den ρ=m.r.v
 d3:(u64v 3).den ρ=m.r.c
 d4:(lnv 4).den ρ=m.c.sl.length
 d5:(lnv 5).den ρ=m.na
 d6:(lnv 6).den ρ=m.i
 d7:(lnv 7).den ρ=m.nacts
 i8:ρ.i 8=m.c.k
 i9:ρ.i 9=m.c.n
 d10:(u32v 10).den ρ=m.c.v
 i15:ρ.i 15=m.steps
 d17:(lnv 17).den ρ=m.h1
 d18:(lnv 18).den ρ=m.h2
 d19:(u64v 19).den ρ=16*m.r.n
 i20:ρ.i 20=m.pick
 i21:ρ.i 21=m.code
 i23:ρ.i 23=m.err
 i30:ρ.i 30=m.x
 i31:ρ.i 31=m.y
 i32:ρ.i 32=m.z
 i33:ρ.i 33=m.cnt
 d34:(lnv 34).den ρ=m.na2
 b0:ρ.b 0=m.busy0
 b1:ρ.b 1=m.busy1
 b2:ρ.b 2=m.off
 b3:ρ.b 3=m.ret
 b4:ρ.b 4=m.busy
 b5:ρ.b 5=m.nw
 b6:ρ.b 6=m.nw2
 v0:ρ.v 0=m.mem
 v1:ρ.v 1=m.c.sv
 v2:ρ.v 2=m.srv
 v4:ρ.v 4=m.acts
 act: ∀j,RL ρ j zfu m.c.cells
theorem Tryz.pmD {m:PmV} {w:World} (hr:PgOk m.r) (hc:m.c.ok w) (h6:0≤m.i∧m.i<4000000) (h7:0≤m.nacts∧m.nacts<4000000000000000) (h17:0≤m.h1∧m.h1<4000000) (h18:0≤m.h2∧m.h2<4000000) (h5:0≤m.na∧m.na<m.r.n) (h34:0≤m.na2∧m.na2<m.r.n):PmD m.rho m:=by
 obtain ⟨⟨b1,b2⟩,⟨q1,q2⟩,⟨q3,q4⟩,q5,q6⟩:=hr.nums
 have hsn:=hc.sn
 exact ⟨zdo b1 b2,zaJ q1 q2,zaJ q3 q4,zaJ q5 q6,zaw (by show (0:Int)≤m.c.sl.length;omega) (by show (m.c.sl.length:Int)<_;omega),zaw h5.1 (by show m.na<_;omega),
  zaw h6.1 (by show m.i<_;omega),zaw h7.1 (by show m.nacts<_;omega),rfl,rfl,zbw hc.v.1 hc.v.2,rfl,zaw h17.1 (by show m.h1<_;omega),zaw h18.1 (by show m.h2<_;omega),zaJ (by show 0≤16*m.r.n;omega) (by show 16*m.r.n<_;omega),rfl,rfl,rfl,rfl,rfl,rfl,rfl,zaw h34.1 (by show m.na2<_;omega),rfl,rfl,rfl,rfl,rfl,rfl,rfl,rfl,rfl,rfl,rfl,
  fun j=>zEP hc rfl rfl rfl rfl rfl rfl rfl rfl rfl rfl⟩
section
variable {ρ:Val} {m:Tryz.PmV}
theorem Tryz.PmD.rg (D:PmD ρ m) (j:J):RL ρ j zc7 [.bool true,.int .i64 m.r.n,.int .u64 m.r.d,.int .u64 m.r.v,.int .u64 m.r.c]:=
 zab (zaq rfl) (zab (zac D.sz) (zab (zac D.d1) (zab (zac D.d2) (zab (zac D.d3) RL.nil))))
theorem Tryz.PmD.pos (D:PmD ρ m) (j:J):RL ρ j zsh [.int .i64 m.na,.bool m.nw]:=zab (zac D.d5) (zab (zaq D.b5) RL.nil)
end
def Tryz.plA (W0:World) (X9 X15 S M B:Nat) (w:World) (b:Nat):Prop:=b<w.heap.size∧(b<W0.heap.size∨b=X9∨b=X15∨b=S∨b=M∨b=B)
def Tryz.plK (S M B X15 b:Nat):Prop:=b=S∨b=M∨b=B∨b=X15
structure Tryz.PwI (W0:World) (X9 X15 S P L Bs B M:Nat) (r:Rg) (av:Value) (acts:List Pc) (s:PS×(Nat→Int)) (i steps:Nat) (na:Int) (nw:Bool) (a:Act) (w:World):Prop where
 size:a.tmps.size=232
 dfr:a.defers= []
 t0:a.tmps.getD 0 undef= .int .i64 r.n
 t2:a.tmps.getD 2 undef=av
 t7:a.tmps.getD 7 undef= .pointer (some ⟨P,0,none⟩)
 t8:a.tmps.getD 8 undef= .pointer (some ⟨S,0,none⟩)
 t9:a.tmps.getD 9 undef= .pointer (some ⟨X9,0,none⟩)
 t11:a.tmps.getD 11 undef= .int .u64 (16*r.n)
 t14:a.tmps.getD 14 undef= .int .i64 steps
 t15:a.tmps.getD 15 undef= .pointer (some ⟨X15,0,none⟩)
 t16:a.tmps.getD 16 undef= .int .i64 i
 row:Row w ⟨X9,0,0,none⟩ [.bool true,.int .i64 r.n,.int .u64 r.d,.int .u64 r.v,.int .u64 r.c]
 nxt:Own w X15 [.int .i64 na,.bool nw]
 na:0≤na∧na<r.n
 sw:PW (plA W0 X9 X15 S M B w) w S P L Bs B M 20000 r s.1 s.2
 inv:PI s.1 steps i
 aok:PctV W0 av acts
 old:Below W0.heap.size W0 w
 lo:W0.heap.size≤X9∧W0.heap.size≤S∧W0.heap.size≤M∧W0.heap.size≤B∧W0.heap.size≤P∧W0.heap.size≤L∧W0.heap.size≤Bs∧W0.heap.size≤X15
 x9:X9≠S∧X9≠M∧X9≠B∧X9≠P∧X9≠L∧X9≠Bs∧X9≠X15
 x15:X15≠S∧X15≠M∧X15≠B∧X15≠P∧X15≠L∧X15≠Bs
 n60:acts.length≤60∧ ∀x∈acts,x.sl.length≤100
theorem Tryz.own_lt {w:World} {b:Nat} {l:List Value} (h:Dw.Own w b l):b<w.heap.size:=by
 obtain ⟨arr,e,h1,_⟩:=h
 rcases Nat.lt_or_ge b w.heap.size with hh|hh
 ·exact hh
 ·rw [Array.getElem?_eq_none hh] at h1;cases h1
section
variable {W0:World} {X9 X15 S P L Bs B M:Nat} {r:Tryz.Rg} {av:Value} {acts:List Tryz.Pc} {s:Tryz.PS×(Nat→Int)} {i steps:Nat} {na:Int} {nw:Bool} {a:Act} {w:World}
theorem Tryz.PwI.start (h:PwI W0 X9 X15 S P L Bs B M r av acts s i steps na nw a w) {R o b2:Nat} (hR:R<W0.heap.size) {sk:Nat→PS×(Nat→Int)} {rows:Nat→List LwR} (hs:sk 0=s) (hr:rows 0= []):
  (obG (pwO S P L Bs B M 20000 r) (fun b=>b≠X9∧b≠X15∧W0.heap.size≤b) w.heap.size b2 sk rows).G 0 (jOf [(X9,0),(X15,0),(R,o)]) w:=by
 obtain ⟨l1,l2,l3,l4,l5,l6,l7,l8⟩:=h.lo
 obtain ⟨n1,n2,n3,n4,n5,n6,n7⟩:=h.x9
 obtain ⟨m1,m2,m3,m4,m5,m6⟩:=h.x15
 have k1:=h.sw.ltS
 have k2:=h.sw.ltM
 have k3:=h.sw.mem.bl
 refine ⟨fun b=>b<w.heap.size∧b≠X9∧b≠X15∧W0.heap.size≤b,fun b hb=>⟨hb.1,fun hm=> ?_⟩,fun b hb=> .inl hb.2,fun b=>b<w.heap.size∧b≠X9∧b≠X15∧W0.heap.size≤b,fun b hb=>hb,?_,fun e he=> ?_⟩
 ·have:=zde hm
  simp only [List.map_cons,List.map_nil,List.mem_cons,List.not_mem_nil,or_false] at this
  rcases this with e|e|e
  ·exact hb.2.1 e
  ·exact hb.2.2.1 e
  ·have:=hb.2.2.2;omega
 ·show PwF S P L Bs B M 20000 r (sk 0) _ w
  rw [hs]
  refine ⟨⟨k1,fun e=>n1 e.symm,fun e=>m1 e.symm,l2⟩,⟨k2,fun e=>n2 e.symm,fun e=>m2 e.symm,l3⟩,⟨h.sw.mem.pl,fun e=>n4 e.symm,fun e=>m4 e.symm,l5⟩,⟨h.sw.mem.ll,fun e=>n5 e.symm,fun e=>m5 e.symm,l6⟩,⟨h.sw.mem.sl,fun e=>n6 e.symm,fun e=>m6 e.symm,l7⟩,⟨k3,fun e=>n3 e.symm,fun e=>m3 e.symm,l4⟩,h.sw.set (fun b hb hh=>⟨hb,?_⟩) ⟨k1,.inr (.inl rfl)⟩ ⟨k2,.inr (.inr (.inl rfl))⟩ ⟨k3,.inr (.inr (.inr rfl))⟩ fun b hb=>hb.1⟩
  rcases hh.2 with hh|hh
  ·by_cases e1:b=X9
   ·exact .inr (.inl e1)
   ·by_cases e3:b=X15
    ·exact .inr (.inr (.inl e3))
    ·by_cases e2:b<W0.heap.size
     ·exact .inl e2
     ·exact absurd ⟨hb,e1,e3,by omega⟩ hh
  ·exact .inr (.inr (.inr hh))
 ·rw [hr] at he
  cases he
end
theorem Tryz.zwB (N:Nat) (r:Rg) (s:PS) (g:Nat→Int): ∃x y z,(zba N r s g).1=accV x y z:=by
 unfold zba zdc
 split
 ·exact ⟨_,_,_,rfl⟩
 ·split
  ·exact ⟨_,_,_,rfl⟩
  ·split<;>first|exact ⟨_,_,_,rfl⟩|(simp only;split<;>exact ⟨_,_,_,rfl⟩)
theorem Tryz.PwI.next {W0:World} {X9 X15 S P L Bs B M:Nat} {r:Rg} {acts:List Pc} {s:PS×(Nat→Int)} {i steps:Nat} {na:Int} {nw:Bool} {a:Act} {w:World} {R o c:Nat} (h:PwI W0 X9 X15 S P L Bs B M r (.slice (some ⟨R,o,none⟩) acts.length c) acts s i steps na nw a w)
  {s':PS×(Nat→Int)} {steps':Nat} {na':Int} {nw':Bool} {a2:Act} {w2:World} {F2:Nat→Prop}
  (hmv:Dw.Mv (plK S M B X15) w w2) (z1:a2.tmps.size=232) (z2:a2.defers= []) (hX2: ∀b,F2 b→(b≠X9∧b≠X15∧W0.heap.size≤b)∨w.heap.size≤b) (hgho: ∃F0:Nat→Prop,(∀b,F0 b→F2 b)∧PwF S P L Bs B M 20000 r s' F0 w2)
  (hinv:PI s'.1 steps' (i+1)) (hna:0≤na'∧na'<r.n) (hown:Dw.Own w2 X15 [.int .i64 na',.bool nw'])
  (z4:([0,2,7,8,9,11,14,15,16].map fun t=>a2.tmps.getD t undef)= [.int .i64 r.n,.slice (some ⟨R,o,none⟩) acts.length c,.pointer (some ⟨P,0,none⟩),.pointer (some ⟨S,0,none⟩),.pointer (some ⟨X9,0,none⟩),.int .u64 (16*r.n),.int .i64 steps',.pointer (some ⟨X15,0,none⟩),.int .i64 (i+1:Nat)]):
  PwI W0 X9 X15 S P L Bs B M r (.slice (some ⟨R,o,none⟩) acts.length c) acts s' (i+1) steps' na' nw' a2 w2:=by
 obtain ⟨F0,hF0,hlw⟩:=hgho
 simp only [List.map_cons,List.map_nil,List.cons.injEq,and_true] at z4
 obtain ⟨t0,t2,t7,t8,t9,t11,t14,t15,t16⟩:=z4
 obtain ⟨l1,l2,l3,l4,l5,l6,l7,l8⟩:=h.lo
 have hX9:X9<w.heap.size:=ztQ h.row
 have hX15:=own_lt h.nxt
 have hX9n: ¬plK S M B X15 X9:=by rintro (e|e|e|e);exact h.x9.1 e;exact h.x9.2.1 e;exact h.x9.2.2.1 e;exact h.x9.2.2.2.2.2.2 e
 have hold:=h.old.size
 have k1:=h.sw.ltS
 have k2:=h.sw.ltM
 have k3:=h.sw.mem.bl
 have hs2:=hmv.size
 refine ⟨z1,z2,t0,t2,t7,t8,t9,t11,t14,t15,t16,h.row.kept (hmv.block _ hX9 hX9n),hown,hna,hlw.sw.set (fun b hb hh=>⟨hb,?_⟩) ⟨by omega,.inr (.inr (.inr (.inl rfl)))⟩ ⟨by omega,.inr (.inr (.inr (.inr (.inl rfl))))⟩ ⟨by omega,.inr (.inr (.inr (.inr (.inr rfl))))⟩ (fun b hb=>hb.1),hinv,h.aok,h.old.trans ⟨hmv.os,hmv.tape,hmv.output,hmv.size,fun b hb=>hmv.block b (by omega) (by rintro (e|e|e|e)<;>omega)⟩,h.lo,h.x9,h.x15,h.n60⟩
 rcases hh.2 with hh|hh|hh|hh
 ·exact .inl fun hf=>by rcases hX2 b (hF0 b hf) with e|e<;>omega
 ·exact .inl fun hf=>by rcases hX2 b (hF0 b hf) with e|e;exact e.1 hh;omega
 ·exact .inl fun hf=>by rcases hX2 b (hF0 b hf) with e|e;exact e.2.1 hh;omega
 ·exact .inr hh
end Go.Proofs
namespace Go.Proofs
open Go.Dw Go.RowKit Go.Maps Go.Sort
theorem Tryz.zrv {b1 b2 b3:Nat×Nat} {x y z:List AV}:apart [b1,b2,b3] [.ro x,.own y,.ro z]:=
 ⟨fun hh=>(by cases hh),fun _ i b' s' e1 e2 e3=>(by
  match i,e2 with
  | 0,e2=>cases e2;cases e3
  | i+1,e2=>cases e2),fun hh=>(by cases hh),trivial⟩
theorem Tryz.zhw (g:Nat→Int) (k:Nat):(0:Int)=((zcB g g k:Nat):Int):=by rw [zmp];rfl
theorem Tryz.zwR (g:Nat→Int) (q N:Nat) (h:0<N):(imgR q N g).cs[0]? =some (.int .u8 (g 0)):=by
 show (row g 0 N)[0]? =_
 unfold row
 rw [List.getElem?_map,List.getElem?_range h]
 rfl
theorem Tryz.zF5 {A:Nat→Prop} {w:World} {v:Value} {l:List Sg} (h:SegV A w v l) (h0:l≠ []) {R o c:Nat} (e:v= .slice (some ⟨R,o,none⟩) l.length c):R<w.heap.size:=by
 obtain ⟨sa,c2,e2,_,h3⟩:=h
 rcases h3 with h3|⟨R2,o2,rfl,_,h4⟩
 ·exact absurd h3 h0
 ·rw [e] at e2
  injection e2 with e3
  injection e3 with e4
  injection e4 with e5
  rw [e5]
  exact zdu h4 h0
theorem Tryz.PW.anew {A A':Nat→Prop} {w:World} {S P L Bs B M N:Nat} {r:Rg} {s:PS} {g:Nat→Int} (h:PW A w S P L Bs B M N r s g) (ht:s.tk= []) (hs:s.sg= []) (aS:A' S) (aM:A' M) (aB:A' B) (hl: ∀b,A' b→b<w.heap.size):PW A' w S P L Bs B M N r s g:=by
 obtain ⟨sv,h1,sa,c,e,hok,hr⟩:=h.obj
 obtain ⟨arr,clock,m1,m2,m3⟩:=h.tk.map
 refine ⟨⟨sv,h1,sa,c,e,hok,.inl hs⟩,⟨⟨arr,clock,m1,m2,fun k=>⟨(m3 k).1,fun t hh=> ?_⟩⟩,h.tk.keys,h.tk.rng⟩,h.ne,aS,aM,h.rg,h.pb,h.mem,h.hN,h.sd,h.md,aB,hl,h.fit⟩
 rw [ht] at hh
 cases hh
set_option maxRecDepth 10000 in
theorem Tryz.zoR {kd:Int} (hrun:(evL prog (zau (zey kd)) (zaD zdx) (zaC zdy) 100000 (.code (zaI prog [0,0,1,0,1,1,1,1,1,1,1,1,4]) [0,0,1,0,1,1,1,1,1,1,1,1,4] 232 (envS 232 zb0 zhc) (zas 0 zhb) (zaH zlt 0))).ways zr0=some zt6) (hok:(zah zhb&&zaf (zey kd)&&zak zdx&&zal zdy&&zan zb0&&zai zlt&&zaG 232 zb0&&Nat.ble 232 zaL&&zaB zhc)=true) {W0:World} {X9 X15 S P L Bs B M:Nat} {r:Rg} {av:Value} {acts:List Pc} {s:PS×(Nat→Int)} {i steps:Nat} {na:Int} {nw:Bool} {a:Act} {w:World} (h:PwI W0 X9 X15 S P L Bs B M r av acts s i steps na nw a w) (hi:i<acts.length) (hk:acts[i].k%7=kd):
  (zaI prog [0,0,1,0,1,1,1,1,1,1,1,1,4]).wp prog (fun ex a' w'=>ex= .normal∧ ∃s' steps' na' nw',PwI W0 X9 X15 S P L Bs B M r av acts s' (i+1) steps' na' nw' a' w') a w:=by
 obtain ⟨aa,c,rfl,hr0⟩:=h.aok.val
 rcases hr0 with h0|⟨R,o,rfl,hr0⟩
 ·rw [h0] at hi;simp at hi
 have hxW:=hr0 i hi
 have hRlt:R<W0.heap.size:=World.block_lt_of_cell? W0 _ (hxW 0 _ rfl)
 have hx:=zaN hxW (h.old.block R hRlt)
 have hco:=h.aok.ok acts[i] (List.getElem_mem hi)
 have h60:=h.n60.1
 obtain ⟨l1,l2,l3,l4,l5,l6,l7,l8⟩:=h.lo
 have k1:=h.sw.ltS
 have k2:=h.sw.ltM
 have k3:=h.sw.mem.bl
 have k15:=own_lt h.nxt
 have hrg:=h.sw.rg
 have hbnd:=hrg.bnd
 have hcnt:=h.inv.tk
 have hstp:=h.inv.st
 have hna:=h.na
 have hinv:=h.inv.stay
 have hp0:0≤acts[i].n%19996:=Int.emod_nonneg _ (by decide)
 have hp1:acts[i].n%19996<19996:=Int.emod_lt_of_pos _ (by decide)
 have D:=pmD (m:=⟨r,acts[i],acts.length,i,steps,na,nw,s.1.tk.length,(s.1.tk.length:Int),acts[i].n%19996,0,if (s.1).br then 4 else 0,0,0,0,0,na,nw,false,false,false,false,decide ((s.1).ph≠0),.pointer (some ⟨P,0,none⟩),.pointer (some ⟨S,0,none⟩),.slice (some ⟨R,o,none⟩) acts.length c⟩) (w:=W0) hrg hco ⟨by show (0:Int)≤i;omega,by show (i:Int)<_;omega⟩ ⟨by show (0:Int)≤acts.length;omega,by show (acts.length:Int)<_;omega⟩ ⟨by show (0:Int)≤s.1.tk.length;omega,by show (s.1.tk.length:Int)<_;omega⟩ ⟨by show (0:Int)≤(s.1.tk.length:Int);omega,by show (s.1.tk.length:Int)<_;omega⟩ hna hna
 generalize (PmV.rho ⟨r,acts[i],acts.length,i,steps,na,nw,s.1.tk.length,(s.1.tk.length:Int),acts[i].n%19996,0,if (s.1).br then 4 else 0,0,0,0,0,na,nw,false,false,false,false,decide ((s.1).ph≠0),.pointer (some ⟨P,0,none⟩),.pointer (some ⟨S,0,none⟩),.slice (some ⟨R,o,none⟩) acts.length c⟩)=ρ at D
 have hj1:jOf [(X9,0),(X15,0),(R,o+9*i)] 1=some ⟨X9,0,0,none⟩:=rfl
 have hj2:jOf [(X9,0),(X15,0),(R,o+9*i)] 2=some ⟨X15,0,0,none⟩:=rfl
 have hj3:jOf [(X9,0),(X15,0),(R,o+9*i)] 3=some ⟨R,o+9*i,0,none⟩:=rfl
 have hlt:S<w.heap.size∧M<w.heap.size∧B<w.heap.size:=⟨k1,k2,k3⟩
 have hKs:plK S M B X15 S∧plK S M B X15 M∧plK S M B X15 B:=⟨.inl rfl,.inr (.inl rfl),.inr (.inr (.inl rfl))⟩
 refine wp_mono (zaz (ρ:=ρ) (K:=plK S M B X15) (g:=obG (pwO S P L Bs B M 20000 r) (fun b=>b≠X9∧b≠X15∧W0.heap.size≤b) w.heap.size w.heap.size (fun k=>match k with|0=>s|1=>s|_=>(s.1,(putW s.2 (acts[i].n%19996).toNat 4 acts[i].v))) (fun k=>match k with|0=> []|1=> [imgR 5 20000 s.2]|2=> [imgR 5 20000 s.2]|3=> [imgR 5 20000 s.2,imgR 7 20000 (putW s.2 (acts[i].n%19996).toNat 4 acts[i].v)]|_=> [imgR 5 20000 s.2,imgR 7 20000 (putW s.2 (acts[i].n%19996).toNat 4 acts[i].v),imgR 8 20000 (putW s.2 (acts[i].n%19996).toNat 4 acts[i].v)])) (bl:= [(X9,0),(X15,0),(R,o+9*i)]) mixed hrun hok (fun b hb=>by rcases hb with rfl|rfl|rfl|rfl<;>assumption)
  ⟨zcO h.row (by simp) (D.rg _) (by rintro (e|e|e|e);exact h.x9.1 e;exact h.x9.2.1 e;exact h.x9.2.2.1 e;exact h.x9.2.2.2.2.2.2 e),za1 h.nxt (D.pos _) (.inr (.inr (.inr rfl))),zaX hx (by simp [Pc.cells]) (D.act _) (by rintro (e|e|e|e)<;>omega),trivial⟩ zrv (h.start hRlt rfl rfl)
  ⟨zb4 D.v0 (by decide) (Nat.le_refl _) (Nat.le_refl _) (fun e he=>by simp at he ⊢;rcases he with he|he|he|he<;>simp_all) rfl,zcq D.v2 D.d17 (by show s.1.tk.length≤1000000;omega) (Nat.le_refl _) (Nat.le_refl _),zeD D.i8 hk,zpE (c:=19996) D.i9 rfl D.i20 (by decide) rfl rfl,zwP D.v0 D.i20 ⟨hp0,(show acts[i].n%19996+4≤((20000:Nat):Int) by omega)⟩ (by decide) D.d10 rfl (Nat.le_refl _) hlt hKs (fun e he=>he),zb4 D.v0 (by decide) (Nat.le_refl _) (Nat.le_refl _) (fun e he=>by simp at he ⊢;rcases he with he|he|he|he<;>simp_all) rfl,zb4 D.v0 (by decide) (Nat.le_refl _) (Nat.le_refl _) (fun e he=>by simp at he ⊢;rcases he with he|he|he|he<;>simp_all) rfl,zcq D.v2 (D.d18.trans rfl) (by show (s.1).tk.length≤1000000;omega) (Nat.le_refl _) (Nat.le_refl _),zgs D.v2 D.i23,zcU D.v2 D.b4,trivial⟩
  ⟨zfQ hrg (by decide) D.d19 (fun j=>D.rg j) (show imgR 7 20000 (putW s.2 (acts[i].n%19996).toNat 4 acts[i].v)∈ [imgR 5 20000 s.2,imgR 7 20000 (putW s.2 (acts[i].n%19996).toNat 4 acts[i].v),imgR 8 20000 (putW s.2 (acts[i].n%19996).toNat 4 acts[i].v)] by simp) (show imgR 8 20000 (putW s.2 (acts[i].n%19996).toNat 4 acts[i].v)∈ [imgR 5 20000 s.2,imgR 7 20000 (putW s.2 (acts[i].n%19996).toNat 4 acts[i].v),imgR 8 20000 (putW s.2 (acts[i].n%19996).toNat 4 acts[i].v)] by simp) (fun j hj=>absurd rfl hj) (D.i33.trans (zhw _ _)) rfl,trivial⟩ trivial h.size h.dfr ?_ ?_) fun ex a2 w2 hh=> ?_
 ·intro t ht
  simp only [zb0,zcA,List.mem_cons,List.not_mem_nil,or_false] at ht
  rcases ht with rfl|rfl|rfl|rfl|rfl|rfl|rfl|rfl|rfl
  ·rw [h.t0];exact zac D.sz
  ·rw [h.t2];exact ⟨D.v4.symm,_,_,_,rfl,D.d7.symm,⟨R,o,_,i,rfl,hj3,rfl,D.d6,hi,rfl⟩,trivial⟩
  ·rw [h.t7];exact zaR D.v0 rfl
  ·rw [h.t8];exact zaR D.v2 rfl
  ·rw [h.t9];exact ⟨_,hj1,rfl⟩
  ·rw [h.t11];exact zac D.d19
  ·rw [h.t14];exact zac D.i15
  ·rw [h.t15];exact ⟨_,hj2,rfl⟩
  ·rw [h.t16];exact zac D.d6
 ·have e0:IntKind.wrap .i64 ((s.1.tk.length:Int)-s.1.tk.length)≤1∧ -1≤IntKind.wrap .i64 ((s.1.tk.length:Int)-s.1.tk.length):=by rw [zbF (by omega) (by omega)];omega
  refine zaa.2 ⟨?_,zaa.2 ⟨?_,zaa.2 ⟨?_,zaa.2 ⟨?_,zae.2 trivial⟩⟩⟩⟩
  ·rw [zaQ,D.d6,D.d7]
   exact decide_eq_true (by show (i:Int)<acts.length;omega)
  ·rw [zaY,zat,D.i33,zad]
   exact decide_eq_false (by show¬(0:Int)>6;omega)
  ·rw [zaY,za4,D.d17,D.d18,zad]
   exact decide_eq_false (by show¬IntKind.wrap .i64 ((s.1.tk.length:Int)-s.1.tk.length)>1;omega)
  ·rw [zaQ,za4,D.d17,D.d18,zad]
   exact decide_eq_false (by show¬IntKind.wrap .i64 ((s.1.tk.length:Int)-s.1.tk.length)< -1;omega)
 ·obtain ⟨q,hq,hto,lf,hlf,rfl,hsz2,j2,hdf2,he⟩:=hh
  have hmv:=he.mv
  have hwi:=zcN i (by omega)
  have lc1:=zag (he.sub _ _ hj1)
  have lc2:=zag (he.sub _ _ hj2)
  have hbr:=(hinv).pe.brk
  unfold zt6 at hq
  simp only [List.mem_cons,List.not_mem_nil,or_false] at hq
  rcases hq with rfl|rfl|rfl
  all_goals
   simp only [zaa,zae,zbb,zaY,zaA,zat,den_add,zad,D.i21,D.i23,D.i15,D.b0,D.b1,D.b2,D.b3,D.b4,beq_iff_eq,beq_eq_false_iff_ne,ne_eq,decide_eq_true_eq,decide_eq_false_iff_not,and_true] at hto
   cases hlf
  ·exfalso
   obtain ⟨e1,e2⟩:=hto
   split at e1
   ·rename_i hb;exact e2 (hbr hb)
   ·cases e1
  ·obtain ⟨F2,z1,z2,F0,z3,z4,_⟩:=he.gho
   have hO:=(he.rows.2.1 _ (he.sub _ _ hj2)).2 (.inr (.inr (.inr (.inr rfl)))) rfl
   simp only [AV.valL,AV.val,D.d5,D.b5,D.d34,D.b6,zaA] at hO
   refine ⟨rfl,_,steps,_,_,h.next (s':=(s.1,(putW s.2 (acts[i].n%19996).toNat 4 acts[i].v))) (steps':=steps) hmv hsz2 hdf2 z2 ⟨F0,z3,z4⟩ hinv hna hO ?_⟩
   have hs2:=zav he.ret
   rw [hs2]
   simp only [AV.valL,AV.val,D.sz,D.v0,D.v2,D.v4,D.d6,D.d19,D.i15,zat,den_add,zad,hwi,lc1,lc2]
  ·obtain ⟨F2,z1,z2,F0,z3,z4,_⟩:=he.gho
   have hO:=(he.rows.2.1 _ (he.sub _ _ hj2)).2 (.inr (.inr (.inr (.inr rfl)))) rfl
   simp only [AV.valL,AV.val,D.d5,D.b5,D.d34,D.b6,zaA] at hO
   refine ⟨rfl,_,steps,_,_,h.next (s':=(s.1,(putW s.2 (acts[i].n%19996).toNat 4 acts[i].v))) (steps':=steps) hmv hsz2 hdf2 z2 ⟨F0,z3,z4⟩ hinv hna hO ?_⟩
   have hs2:=zav he.ret
   rw [hs2]
   simp only [AV.valL,AV.val,D.sz,D.v0,D.v2,D.v4,D.d6,D.d19,D.i15,zat,den_add,zad,hwi,lc1,lc2]
end Go.Proofs
end
