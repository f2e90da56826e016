/-
  Proved: laws on the way to 'SserveEndsProof' (texts Orc WkU XaB DwArgs DwVal SvJ SvK XaC XaD XaE XaF0 XaF XaG XaH XaI XaJ XaK XaL XaM0 XaM XaN XaO XaP XaR XaS0 XaS XaT XaU); no condition.
-/
import Derived.Test.YtpogddachhjgaaaGreatM4
import Derived.Test.YtpogddachhjgaaaGreatProg
import Derived.Shelf.SlIterI.Nil
import Derived.Shelf.SlIterI.Sorted
import Derived.Shelf.SortM.Plain
import Derived.Shelf.SortM.SortNone
import Derived.KernelRfl
import Derived.Carry
import Derived.OpenShut
import Derived.ProofKit
set_option linter.unusedSimpArgs false
set_option linter.unusedVariables false
noncomputable section
namespace Go.Proofs
open Go.Shelf Go.RowKit Go.Maps Go.Sort
def Tryz.keys59k_ren:Go.Shelf.Ren:=⟨fun|7=>59|10=>87|n=>n,fun|23=>123|26=>3|3=>36|28=>130|0=>0|27=>129|33=>135|4=>4|n=>n,fun|n=>n⟩
theorem Tryz.keys59k:Go.Proofs.SlLaysZI.n7 prog keys59k_ren:= {
 mixed:=by kernel_rfl
 f7:=⟨f59.name,by decide,func59.trans (congrArg some (by kernel_rfl))⟩
 f10:=⟨f87.name,by decide,func87.trans (congrArg some (by kernel_rfl))⟩
 t0:=underlying0
 a0:=isAgg0
 z0:=sizeOf0
 v0:=zeroValue0
 t4:=underlying4
 a4:=isAgg4
 z4:=sizeOf4
 v4:=zeroValue4
 t23:=underlying123
 a23:=isAgg123
 z23:=sizeOf123
 v23:=zeroValue123
 t26:=underlying3
 a26:=isAgg3
 z26:=sizeOf3
 v26:=zeroValue3
 t27:=underlying129
 a27:=isAgg129
 z27:=sizeOf129
 v27:=zeroValue129
 t28:=underlying130
 a28:=isAgg130
 z28:=sizeOf130
 v28:=zeroValue130
 t33:=underlying135
 a33:=isAgg135
 z33:=sizeOf135
 v33:=zeroValue135 }
def Tryz.sortedA_ren:Go.Shelf.Ren:=⟨fun|6=>58|8=>85|9=>86|11=>115|13=>117|12=>116|23=>138|24=>139|14=>129|15=>130|16=>131|17=>132|18=>133|19=>134|20=>135|21=>136|22=>137|25=>150|26=>151|27=>152|28=>153|29=>154|30=>155|31=>164|n=>n,fun|26=>3|28=>130|24=>35|0=>0|3=>3|37=>26|48=>46|50=>30|4=>4|40=>190|39=>189|45=>195|5=>5|9=>9|51=>210|55=>214|57=>225|58=>118|33=>135|n=>n,fun|n=>n⟩
theorem Tryz.sortedA:Go.Proofs.SlLaysZI.n6 prog sortedA_ren:= {
 mixed:=by kernel_rfl
 f6:=⟨f58.name,by decide,func58.trans (congrArg some (by kernel_rfl))⟩
 f8:=⟨f85.name,by decide,func85.trans (congrArg some (by kernel_rfl))⟩
 f11:=⟨f115.name,by decide,func115.trans (congrArg some (by kernel_rfl))⟩
 t0:=underlying0
 a0:=isAgg0
 z0:=sizeOf0
 v0:=zeroValue0
 t24:=underlying35
 a24:=isAgg35
 z24:=sizeOf35
 v24:=zeroValue35
 t26:=underlying3
 a26:=isAgg3
 z26:=sizeOf3
 v26:=zeroValue3
 t28:=underlying130
 a28:=isAgg130
 z28:=sizeOf130
 v28:=zeroValue130
 i26:=by kernel_rfl }
def Tryz.sortA_ren:Go.Shelf.Ren:=⟨fun|5=>86|8=>117|7=>116|19=>138|20=>139|10=>129|11=>130|12=>131|13=>132|14=>133|15=>134|16=>135|17=>136|18=>137|30=>150|31=>151|32=>152|33=>153|34=>154|35=>155|40=>164|n=>n,fun|23=>35|25=>3|3=>3|32=>26|22=>35|0=>0|44=>46|46=>30|4=>4|36=>190|35=>189|41=>195|5=>5|9=>9|53=>210|57=>214|63=>225|64=>118|n=>n,fun|n=>n⟩
theorem Tryz.sortA:Go.Proofs.SlLaysM.n5 prog sortA_ren:= {
 mixed:=by kernel_rfl
 f5:=⟨f86.name,by decide,func86.trans (congrArg some (by kernel_rfl))⟩
 f7:=⟨f116.name,by decide,func116.trans (congrArg some (by kernel_rfl))⟩
 f8:=func117.trans (congrArg some (by kernel_rfl))
 f10:=⟨f129.name,by decide,func129.trans (congrArg some (by kernel_rfl))⟩
 f11:=⟨f130.name,by decide,func130.trans (congrArg some (by kernel_rfl))⟩
 f12:=⟨f131.name,by decide,func131.trans (congrArg some (by kernel_rfl))⟩
 f13:=⟨f132.name,by decide,func132.trans (congrArg some (by kernel_rfl))⟩
 f14:=⟨f133.name,by decide,func133.trans (congrArg some (by kernel_rfl))⟩
 f15:=⟨f134.name,by decide,func134.trans (congrArg some (by kernel_rfl))⟩
 f16:=⟨f135.name,by decide,func135.trans (congrArg some (by kernel_rfl))⟩
 f17:=⟨f136.name,by decide,func136.trans (congrArg some (by kernel_rfl))⟩
 f18:=⟨f137.name,by decide,func137.trans (congrArg some (by kernel_rfl))⟩
 f19:=func138.trans (congrArg some (by kernel_rfl))
 f20:=func139.trans (congrArg some (by kernel_rfl))
 f30:=⟨f150.name,by decide,func150.trans (congrArg some (by kernel_rfl))⟩
 f31:=func151.trans (congrArg some (by kernel_rfl))
 f32:=func152.trans (congrArg some (by kernel_rfl))
 f33:=⟨f153.name,by decide,func153.trans (congrArg some (by kernel_rfl))⟩
 f34:=⟨f154.name,by decide,func154.trans (congrArg some (by kernel_rfl))⟩
 f35:=⟨f155.name,by decide,func155.trans (congrArg some (by kernel_rfl))⟩
 f40:=⟨f164.name,by decide,func164.trans (congrArg some (by kernel_rfl))⟩
 t0:=underlying0
 a0:=isAgg0
 z0:=sizeOf0
 v0:=zeroValue0
 t3:=underlying3
 a3:=isAgg3
 z3:=sizeOf3
 v3:=zeroValue3
 t4:=underlying4
 a4:=isAgg4
 z4:=sizeOf4
 v4:=zeroValue4
 t5:=underlying5
 a5:=isAgg5
 z5:=sizeOf5
 v5:=zeroValue5
 t9:=underlying9
 a9:=isAgg9
 z9:=sizeOf9
 v9:=zeroValue9
 t22:=underlying35
 a22:=isAgg35
 z22:=sizeOf35
 v22:=zeroValue35
 t23:=underlying35
 a23:=isAgg35
 z23:=sizeOf35
 v23:=zeroValue35
 t25:=underlying3
 a25:=isAgg3
 z25:=sizeOf3
 v25:=zeroValue3
 t32:=underlying26
 a32:=isAgg26
 z32:=sizeOf26
 v32:=zeroValue26
 t35:=underlying189
 a35:=isAgg189
 z35:=sizeOf189
 v35:=zeroValue189
 t36:=underlying190
 a36:=isAgg190
 z36:=sizeOf190
 v36:=zeroValue190
 t41:=underlying195
 a41:=isAgg195
 z41:=sizeOf195
 v41:=zeroValue195
 t44:=underlying46
 a44:=isAgg46
 z44:=sizeOf46
 v44:=zeroValue46
 t46:=underlying30
 a46:=isAgg30
 z46:=sizeOf30
 v46:=zeroValue30
 t53:=underlying210
 a53:=isAgg210
 z53:=sizeOf210
 v53:=zeroValue210
 t57:=underlying214
 a57:=isAgg214
 z57:=sizeOf214
 v57:=zeroValue214
 t63:=underlying225
 a63:=isAgg225
 z63:=sizeOf225
 v63:=zeroValue225
 t64:=underlying118
 a64:=isAgg118
 z64:=sizeOf118
 v64:=zeroValue118 }
theorem Tryz.zqE (m:Nat):AnyZI.SortsIn prog sortedA_ren Fence.wide m:=
  ⟨fun blk off cap ss W hH hblk hsz=>callsIn_wide.2 (AnyM.slices_Sort_int sortA blk off cap ss W hH hblk hsz),
   fun p cap W=>callsIn_wide.2 (AnyM.slices_Sort_int_none sortA p cap W)⟩
theorem Tryz.sortedOk87:Dw.SortedOk prog 58 87:=
  ⟨⟨f58,_,func58,rfl,by decide⟩,
   fun w Bm b es clock ks hBm hm hb hst hkeys hwf hlen=>by
    obtain ⟨D0,hown,hperm,hsize⟩:=Dw.zmL (P:=prog) underlying3 hb hst hkeys hwf hlen
    have hseq:=AnyZI.keys_gives (ρ:=keys59k_ren) { keys59k with } Fence.wide 2 trivial rfl (by omega) Bm b es.size D0 w hBm hm hown
    have cS:=AnyZI.sorted_in sortedA Fence.wide 5 trivial trivial trivial trivial rfl (by omega) (zqE _) (enters_of func86 (by kernel_rfl) rfl) 87 #[.pointer (some ⟨Bm,0,none⟩)] trivial (enters_of func87 (by kernel_rfl) rfl) _ _ (by rw [hsize];unfold maxLen;omega) (by rw [hsize];omega) _ hseq
    exact (callsIn_wide.1 cS).mono fun e w' ⟨v,ss,he,hS,hrow,hnil,hb⟩=>⟨v,ss,_,he,hS.trans hperm,hrow,hnil,hb⟩,
   fun w Bm hBm hm=>by
    have hseq:=AnyZI.keys_gives_nil (ρ:=keys59k_ren) { keys59k with } Fence.wide 2 trivial rfl Bm w hBm hm
    have cS:=AnyZI.sorted_in sortedA Fence.wide 5 trivial trivial trivial trivial rfl (by omega) (zqE _) (enters_of func86 (by kernel_rfl) rfl) 87 #[.pointer (some ⟨Bm,0,none⟩)] trivial (enters_of func87 (by kernel_rfl) rfl) _ 0 (Nat.zero_le _) (by omega) _ hseq
    exact (callsIn_wide.1 cS).mono fun e w' ⟨v,ss,he,hS,hrow,hnil,hb⟩=>⟨by rw [he,hnil.2 hS],hb⟩⟩
theorem Tryz.zq4 {ρ:Dw.Val} {w:Dw.Cx}:Dw.zeI prog ρ w (Dw.zeN 58 [87]):=Dw.zjg fun g hg=>by
 simp only [List.mem_cons,List.not_mem_nil,or_false] at hg
 rcases hg with rfl
 ·exact sortedOk87
end Go.Proofs
namespace Go.Proofs
open Go.Dw Go.RowKit Go.Maps Go.Sort Go.Shelf

theorem Tryz.zpH {w:World} {base base':Nat} {e:TypeId} {size:Nat} {v:Value} {n:Nat} {xs:List Value} (h:w.ownsRow base e size v n xs) (hb:base'≤base):w.ownsRow base' e size v n xs:=by
 rcases h.2 with h0|⟨g,cap,cur,hv,hg,hr⟩
 ·exact ⟨h.1,Or.inl h0⟩
 ·exact ⟨h.1,Or.inr ⟨g,cap,cur,hv,Nat.le_trans hb hg,hr⟩⟩
theorem Tryz.keys_ints: ∀ {l:List MapEntry},(∀e∈l,∃n,e.key= .int .i64 n)→ ∃ks:List Int,l.map (·.key)=ks.map encZ∧ ∀x,x∈ks↔ ∃e∈l,e.key= .int .i64 x
 | [], _=>⟨[],rfl,fun x=>by simp⟩
 | e::l,h=>by
  obtain ⟨ks,h1,h2⟩:=keys_ints fun e he=>h e (List.mem_cons_of_mem _ he)
  obtain ⟨n,hn⟩:=h e List.mem_cons_self
  refine ⟨n::ks,by rw [List.map_cons,List.map_cons,h1,hn],fun x=> ?_⟩
  rw [List.mem_cons,h2]
  constructor
  ·rintro (rfl|⟨e',h3,h4⟩)
   ·exact ⟨e,List.mem_cons_self,hn⟩
   ·exact ⟨e',List.mem_cons_of_mem _ h3,h4⟩
  ·rintro ⟨e',h3,h4⟩
   rcases List.mem_cons.1 h3 with rfl|h3
   ·left
    rw [hn] at h4
    cases h4
    rfl
   ·exact .inr ⟨e',h3,h4⟩
theorem Tryz.zp1 {A:Nat→Prop} {w:World} {M:Nat} {tk:List (Int×List Sg)} (h:TkW A w M tk) {arr:Array MapEntry} {clock:Nat} (hb:w.heap[M]? =some (.map arr clock)):
  MapKept.Stamped arr clock∧ ∃ks:List Int,arr.toList.map (·.key)=ks.map encZ∧ks.Perm (tk.map (·.1)):=by
 obtain ⟨arr',clock',h1,⟨h2,h3⟩,h4⟩:=h.map
 rw [hb] at h1;cases h1
 obtain ⟨ks,g1,g2⟩:=keys_ints h2.keys
 have hnd:ks.Nodup:=by
  have:(ks.map encZ).Nodup:=by
   rw [←g1,List.Nodup,List.pairwise_map]
   exact h2.once
  exact (List.pairwise_map.1 this).imp fun h e=>h (congrArg encZ e)
 refine ⟨(MapKept.stamped_iff _ _).2 ⟨h3.1,h3.2,h2.once⟩,ks,g1,(List.perm_ext_iff_of_nodup hnd h.keys).2 fun x=> ?_⟩
 rw [g2]
 constructor
 ·rintro ⟨e,he,hk⟩
  have hv:=zcd h2 he hk
  cases hg:zbN x tk with
  | none=>rw [(h4 x).1 hg] at hv;cases hv
  | some l=>exact List.mem_map.2 ⟨_,zgy hg,rfl⟩
 ·intro hx
  cases hg:zbN x tk with
  | none=>exact absurd hx (tkGet_notin.1 hg)
  | some l=>
   obtain ⟨v,hv,_⟩:=(h4 x).2 l hg
   obtain ⟨e,he,hk,_⟩:=zeZ hv
   exact ⟨e,he,hk⟩

set_option maxRecDepth 100000 in
theorem Tryz.zn2 (M:Nat) (w:World):
  Calls prog 59 #[.map (some M)] w fun e w'=> ∃t,e= .returned (.func (.func 87) #[] #[.pointer (some ⟨w.heap.size,0,none⟩)])∧w'=w.alloc (.cells #[.map (some M)] t):=by
 have hmf: ∀(fn:Fn) (first cap:Array Value) (w:World),(Instr.makeFunc fn first cap).run prog w= .ok (.func fn first cap) w:=fun _ _ _ _=>rfl
 go_enter func59,ntmps59
 go_wp2
 go_ret
 exact ⟨_,rfl,rfl⟩
def Tryz.zbI (s:SS):List Int:=(s.tk.map (·.1)).mergeSort leI
set_option maxRecDepth 100000 in
set_option maxHeartbeats 1000000 in
theorem Tryz.zj9 {A:Nat→Prop} {w:World} {S P M:Nat} {r:Rg} {s:SS} (h:SrvW A w S P M r s) (hl:s.tk.length≤1000000):
    Calls prog 18 #[.pointer (some ⟨S,0,none⟩)] w fun e w'=> ∃(v:Value) (t:TypeId),e= .returned v∧w'.ownsRow w.heap.size t 1 v s.tk.length ((zbI s).map encZ)∧Below w.heap.size w w':=by
  have hm:=ziE h
  obtain ⟨nv,sv,ho,hn,hsv⟩:=h.obj
  have c1:=zdu ho (i:=11) rfl
  clear ho hn hsv
  obtain ⟨arr,clock,hb,_⟩:=h.tk.map
  obtain ⟨hst,ks,hk1,hk2⟩:=zp1 h.tk hb
  have hlt:=h.ltM
  have hS: ∀t,Calls prog 58 #[.func (.func 87) #[] #[.pointer (some ⟨w.heap.size,0,none⟩)]] (w.alloc (.cells #[.map (some M)] t)) fun e w'=> ∃v ss t',e= .returned v∧ss.Perm ks∧w'.ownsRow (w.alloc (.cells #[.map (some M)] t)).heap.size t' 1 v ss.length ((ss.mergeSort leI).map encZ)∧(v= .slice none 0 0↔ss= [])∧RowKit.Below (w.alloc (.cells #[.map (some M)] t)).heap.size (w.alloc (.cells #[.map (some M)] t)) w':=fun t=>
    sortedOk87.sorted _ w.heap.size M arr clock ks (by simp) (by rw [cell_of_row _ _ 0 _ _ (0,0) (heap_alloc_last w _)];rfl) (by rw [←hb];exact MapKept.heap_alloc w _|>.2 _ hlt) hst hk1
      (fun x hx=>by
        obtain ⟨e,he,rfl⟩:=List.mem_map.1 (hk2.subset hx)
        have:=h.tk.u16 e he
        obtain ⟨this1,this2⟩:=this
        generalize e.1=x at this1 this2
        have e1:IntKind.i64.min= -9223372036854775808:=by decide
        have e2:IntKind.i64.max=9223372036854775807:=by decide
        simp only [Lit.wf,e1,e2,Bool.and_eq_true,decide_eq_true_eq]
        omega)
      (by rw [hk2.length_eq,List.length_map];exact hl)
  go_enter func18,ntmps18
  go_wp2_with (first
    | (go_at_call 56;refine hm.mono ?_;rintro e w' ⟨rfl,hw⟩;have hw:=hw.symm;subst hw)
    | (go_at_call 59;refine (zn2 M _).mono ?_;rintro e w' ⟨t,rfl,hw⟩;subst hw)
    | (go_at_call 58;refine (hS _).mono ?_;rintro e w' ⟨v,ss,t,rfl,hss,hrow,_,hb⟩)
    | go_in)
  go_ret
  have hss:=hss.trans hk2
  rw [hss.length_eq,List.length_map,mergeSort_of_perm_i hss] at hrow
  exact ⟨v,t,rfl,zpH hrow (by simp),((Below.refl _ w).alloc (Nat.le_refl _) _).trans (hb.mono (by simp))⟩
end Go.Proofs
namespace Go.Proofs
open Go.Dw Go.RowKit

theorem Tryz.zqq (w:World) {x y:Array Value} {tx ty:TypeId} {i:Nat} {v:Value} (h:x[i]? =some v):((w.alloc (.cells x tx)).alloc (.cells y ty)).cell? ⟨w.heap.size,i,none⟩=some v:=by
 rw [cell_of_row _ _ i x tx (0,0) (by rw [(MapKept.heap_alloc _ _).2 _ (by simp)];exact heap_alloc_last w _)]
 exact h
theorem Tryz.zqp (w:World) {x y:Array Value} {tx ty:TypeId} {i:Nat} {v:Value} (h:y[i]? =some v):((w.alloc (.cells x tx)).alloc (.cells y ty)).cell? ⟨w.heap.size+1,i,none⟩=some v:=by
 have:=heap_alloc_last (w.alloc (.cells x tx)) (.cells y ty)
 rw [show (w.alloc (.cells x tx)).heap.size=w.heap.size+1 by simp] at this
 rw [cell_of_row _ _ i y ty (0,0) this]
 exact h
def Tryz.SS.fresh (ev tb:Bool):SS:=⟨ev,tb,false,0,0,[],0,0,false,0,[],0,false,false,false⟩
theorem Tryz.SrvW.fresh {A A':Nat→Prop} {w:World} {S P M:Nat} {r:Rg} {ev tb:Bool} (h:SrvW A w S P M r (SS.fresh ev tb)) (aS:A' S) (aM:A' M):SrvW A' w S P M r (SS.fresh ev tb):=by
 obtain ⟨nv,sv,h1,h2,h3⟩:=h.obj
 refine ⟨⟨nv,sv,h1,?_,?_⟩,⟨?_,h.tk.keys,h.tk.u16⟩,h.ne,aS,aM,h.rg,h.nx,h.us,h.hd,h.wr⟩
 ·cases h2 with
  | idle h hv=>exact .idle h hv
  | meth f h hv=>cases h
  | fence f X Y h=>cases h
 ·obtain ⟨sa,c,e,h4,_⟩:=h3
  exact ⟨sa,c,e,h4,.inl rfl⟩
 ·obtain ⟨arr,clock,h4,h5,h6⟩:=h.tk.map
  exact ⟨arr,clock,h4,h5,fun k=>⟨(h6 k).1,fun l hl=>by cases hl⟩⟩
set_option maxRecDepth 100000 in
set_option maxHeartbeats 1000000 in
theorem Tryz.zrq {w:World} {P L Bs B N:Nat} {g:Nat→Int} {r:Rg} {ev tb:Bool} (st:GM w P L Bs B N g) (hr:RgOk r):
    Calls prog 32 #[.pointer (some ⟨P,0,none⟩),r.val,.agg #[.bool ev,.bool tb,.bool false]] w fun e w'=> ∃S M,e= .returned (.tuple #[.pointer (some ⟨S,0,none⟩),.int .i64 0])∧w.heap.size≤S∧w.heap.size≤M∧
      (∀ A:Nat→Prop,A S→A M→SrvW A w' S P M r (SS.fresh ev tb))∧Below w.heap.size w w':=by
  have hst2: ∀x y tx ty,GM ((w.alloc (.cells x tx)).alloc (.cells y ty)) P L Bs B N g:=fun x y tx ty=>(st.below ((Below.refl _ w).alloc (Nat.le_refl _) _)).below ((Below.refl _ _).alloc (Nat.le_refl _) _)
  have hck:=zbB r hr
  have hmk: ∀(t:TypeId) (w:World),(Instr.makeMap t none).run prog w= .ok (.map (some w.heap.size)) (w.alloc (.map #[] 0)):=fun _ _=>rfl
  unfold Rg.val at*
  go_enter func32,ntmps32
  go_wp2_with (first
    | (go_at_call 71;refine (zjx P L Bs B N 0 g _ (hst2 _ _ _ _)).mono ?_;rintro e w' ⟨rfl,hw⟩;have hw:=hw.symm;subst hw)
    | (go_at_call 72;refine (hck _).mono ?_;rintro e w' ⟨rfl,hb⟩
       have kx: ∀i v,i<8→_→w'.cell? ⟨w.heap.size,i,none⟩=some v:=fun i v hi hv=>(hb.cell (p:=⟨w.heap.size,i,none⟩) (by simp<;>omega)).trans (zqq w hv)
       have ky: ∀i v,i<8→_→w'.cell? ⟨w.heap.size+1,i,none⟩=some v:=fun i v hi hv=>(hb.cell (p:=⟨w.heap.size+1,i,none⟩) (by simp<;>omega)).trans (zqp w hv)
       have x0:=kx 0 _ (by decide) rfl;have x1:=kx 1 _ (by decide) rfl;have x2:=kx 2 _ (by decide) rfl;have x3:=kx 3 _ (by decide) rfl;have x4:=kx 4 _ (by decide) rfl
       have y0:=ky 0 _ (by decide) rfl;have y1:=ky 1 _ (by decide) rfl;have y2:=ky 2 _ (by decide) rfl
       clear kx ky)
    | go_in)
  go_ret2
  have hsz:=hb.size
  simp at hsz
  have hM:((w'.alloc (.map #[] 0)).alloc (.cells (((SS.fresh ev tb).row r P w'.heap.size .nilFunc (.slice none 0 0)).toArray) 126)).heap[w'.heap.size]? =some (.map #[] 0):=by
    rw [(MapKept.heap_alloc _ _).2 _ (by simp)]
    exact heap_alloc_last w' _
  have hS:=heap_alloc_last (w'.alloc (.map #[] 0)) (.cells (((SS.fresh ev tb).row r P w'.heap.size .nilFunc (.slice none 0 0)).toArray) 126)
  rw [show (w'.alloc (.map #[] 0)).heap.size=w'.heap.size+1 by simp] at hS
  have h00:(0:Int)≤0∧(0:Int)<65536:=by decide
  have h01:(0:Int)≤0∧(0:Int)<4294967296:=by decide
  have hbw:Below w.heap.size w w':=((((Below.refl _ w).alloc (Nat.le_refl _) _).alloc (by simp) _)).trans (hb.mono (by simp<;>omega))
  refine ⟨_,w'.heap.size,rfl,?_,?_,fun A aS aM=>⟨⟨.nilFunc,.slice none 0 0,⟨_,126,hS,fun i y h=>by rw [List.getElem?_toArray];exact h⟩,.idle rfl rfl,SegV.none⟩,⟨⟨#[],0,hM,⟨⟨fun e he=>by simp at he,by simp⟩,⟨fun e he=>by simp at he,by simp⟩⟩,fun k=>⟨fun _=>rfl,fun l hl=>by cases hl⟩⟩,by simp [SS.fresh],fun e he=>by cases he⟩,?_,aS,aM,hr,h00,h00,h00,h01⟩,(hbw.alloc (by omega) _).alloc (by simp;omega) _⟩
  all_goals omega
end Go.Proofs
namespace Go.Dw
open Go.RowKit Go.WideShapes Go.ChangeShapes

theorem trodAll_stays {H:Type} {enc:TypeId×Value→H} {P:Program} {W W':World} (hl:laidOutB P=true) (hb:Below W.heap.size W W') {sp:Nat→Bool}: ∀ {ts:List TypeId} {vs:List Value} {ds:List (DataW H)} {ps:List MemPlace},
  (∀ t∈ts,P.readableRec t=true∧t<P.types.size)→DataW.TrodAll enc P W 0 (fun _=>true) true ts vs ds ps→(∀x∈ps,x.block<W.heap.size)→(∀x∈ps,sp x.block=true)→DataW.TrodAll enc P W' 0 sp true ts vs ds ps
 | [], vs,ds,ps,_,h,_,_=>by
  obtain ⟨rfl,rfl,rfl⟩:=trodAll_nil h
  exact trodAll_mk0
 | t::ts,vs,ds,ps,ht,h,hlt,hsp=>by
  obtain ⟨v,vs',d,ds',p,q,rfl,rfl,rfl,h0,h1⟩:=trodAll_cons h
  have ht0:=ht t (List.mem_cons_self ..)
  refine trodAll_cons_mk (WideElems.Trod_stays hl ht0.1 ht0.2 h0 (fun x hx=>hb.same (hlt x (List.mem_append_left _ hx))) (fun x hx=>hsp x (List.mem_append_left _ hx))) ?_
  exact trodAll_stays hl hb (fun u hu=>ht u (List.mem_cons_of_mem _ hu)) h1 (fun x hx=>hlt x (List.mem_append_right _ hx)) (fun x hx=>hsp x (List.mem_append_right _ hx))

theorem okWide_bools3 {P:Program} {w:World} {r:Reach} {base:Nat} {t b:TypeId} {fs:Array Field} {v:Value} (ht:P.underlying t=some (.struct fs)) (hn:P.cellsOf t=3) (hc:P.cellTypes P.depth t=some [b,b,b])
  (hb:P.underlying b=some .bool) (h:Value.okWide P w r base t v): ∃x y z,v= .agg #[.bool x,.bool y,.bool z]:=by
 simp only [Value.okWide,ht] at h
 obtain ⟨cs,rfl,hsz,ts,hts,_,hcell⟩:=h
 rw [hc] at hts
 cases hts
 rw [hn] at hsz
 have cell: ∀i v,i<3→cs[i]? =some v→ ∃x,v= .bool x:=fun i v hi hv=>by
  obtain ⟨u,hu,hok⟩:=hcell i v hv
  have e:u=b:=by
   have hi':i% [b,b,b].length=i:=Nat.mod_eq_of_lt (by simpa using hi)
   rw [hi'] at hu
   match i,hi with
   | 0,_=>simpa using hu.symm
   | 1,_=>simpa using hu.symm
   | 2,_=>simpa using hu.symm
  subst e
  simp only [Cell.okWide,hb] at hok
  cases v<;>simp_all [Cell.ok]
 obtain ⟨x,hx⟩:=cell 0 cs[0] (by omega) (Array.getElem?_eq_getElem (by omega))
 obtain ⟨y,hy⟩:=cell 1 cs[1] (by omega) (Array.getElem?_eq_getElem (by omega))
 obtain ⟨z,hz⟩:=cell 2 cs[2] (by omega) (Array.getElem?_eq_getElem (by omega))
 refine ⟨x,y,z,?_⟩
 congr 1
 apply Array.ext
 ·rw [hsz];rfl
 ·intro i h1 h2
  match i,h2 with
  | 0,_=>exact hx
  | 1,_=>exact hy
  | 2,_=>exact hz




end Go.Dw
namespace Go.Dw
open Go.RowKit

mutual
def clo:AV→Option Value
 | .bool (.lit b)=>some (.bool b)
 | .int k (.lit n)=>some (.int k n)
 | .nilp=>some (.pointer none)
 | .nils=>some (.slice none 0 0)
 | .agg l=>match cloL l with|some m=>some (.agg m.toArray)|none=>none
 | .tup l=>match cloL l with|some m=>some (.tuple m.toArray)|none=>none
 | _=>none
def cloL:List AV→Option (List Value)
 | [] => some []
 | a::l=>match clo a,cloL l with|some v,some m=>some (v::m)|_,_=>none
end

mutual
theorem clo_sound {ρ:Val} {j:J}: ∀ {a:AV} {x u:Value},clo a=some x→R ρ j a u→u=x
 | .bool (.lit b),x,u,h,r=>by cases h;exact r
 | .int k (.lit n),x,u,h,r=>by cases h;exact r
 | .nilp,x,u,h,r=>by cases h;exact r
 | .nils,x,u,h,r=>by cases h;exact r
 | .agg l,x,u,h,r=>by
  obtain ⟨m,rfl,hm⟩:=r
  rw [clo] at h
  cases hl:cloL l with
  | none=>rw [hl] at h;cases h
  | some m'=>rw [hl] at h;cases h;rw [cloL_sound hl hm]
 | .tup l,x,u,h,r=>by
  obtain ⟨m,rfl,hm⟩:=r
  rw [clo] at h
  cases hl:cloL l with
  | none=>rw [hl] at h;cases h
  | some m'=>rw [hl] at h;cases h;rw [cloL_sound hl hm]
theorem cloL_sound {ρ:Val} {j:J}: ∀ {l:List AV} {m us:List Value},cloL l=some m→RL ρ j l us→us=m
 | [], m,us,h,r=>by cases h;exact r
 | a::l,m,us,h,r=>by
  obtain ⟨v,m',rfl,hv,hm⟩:=r
  rw [cloL] at h
  cases ha:clo a with
  | none=>rw [ha] at h;cases h
  | some x=>
   cases hl:cloL l with
   | none=>rw [ha,hl] at h;cases h
   | some y=>rw [ha,hl] at h;cases h;rw [clo_sound ha hv,cloL_sound hl hm]
end

def eqB (a b:Bool):Bool:=match a with|true=>b|false=>match b with|true=>false|false=>true
mutual
def eqAV:AV→AV→Bool
 | .bool (.lit a),.bool (.lit b)=>eqB a b
 | .int k (.lit a),.int k' (.lit b)=>match decide (k=k') with|true=>decide (a=b)|false=>false
 | .nilp,.nilp=>true
 | .nils,.nils=>true
 | .agg l,.agg m=>eqAVL l m
 | .tup l,.tup m=>eqAVL l m
 | _,_=>false
def eqAVL:List AV→List AV→Bool
 | [], [] => true
 | a::l,b::m=>match eqAV a b with|true=>eqAVL l m|false=>false
 | _,_=>false
end
theorem zsu {a b:Bool} (h:eqB a b=true):a=b:=by cases a<;>cases b<;>first|rfl|cases h
mutual
theorem eqAV_eq: ∀ {a b:AV},eqAV a b=true→a=b
 | .bool (.lit a),.bool (.lit b),h=>by rw [zsu (a:=a) (b:=b) h]
 | .int k (.lit a),.int k' (.lit b),h=>by
  rw [eqAV] at h
  split at h
  ·rename_i hk
   rw [of_decide_eq_true hk,of_decide_eq_true h]
  ·cases h
 | .nilp,.nilp,_=>rfl
 | .nils,.nils,_=>rfl
 | .agg l,.agg m,h=>by rw [eqAVL_eq (l:=l) (m:=m) h]
 | .tup l,.tup m,h=>by rw [eqAVL_eq (l:=l) (m:=m) h]
theorem eqAVL_eq: ∀ {l m:List AV},eqAVL l m=true→l=m
 | [], [], _=>rfl
 | a::l,b::m,h=>by
  rw [eqAVL] at h
  split at h
  ·rename_i ha
   rw [eqAV_eq ha,eqAVL_eq h]
  ·cases h
end

def isAV (x : AV) (v : AV) (_ : Heap) : Ob := match eqAV v x with | true => .ok | false => .bad 96 "other"

theorem znL {P:Program} (hmo:P.follows .mixedOrders=true) {n:Nat} {f:FuncId} {args:List AV} {vals:List Value} {x:AV} {u:Value} (hx:clo x=some u) (ha:RL Val.zero (fun _=>none) args vals)
  (h:(ev P noOrc n (.call f args heap0 (isAV x))).good=true) (w:World):
  Calls P f vals.toArray w fun e w'=>e= .returned u∧Below w.heap.size w w':=by
 have hg:=ziT (P:=P) (ρ:=Val.zero) (w0:=Cx.plain w) (orc:=noOrc) zpZ (fun n rec hg=>zgN hmo hg) n
 refine Calls.mono ((hg.call f args heap0 (isAV x) (Ob.den_of_good h)).2 (fun _=>none) w vals (inv0 w) ha) fun e w' he=> ?_
 obtain ⟨u',rfl,v,H',j',h1,h2,h3,h4⟩:=he
 have hv:v=x:=by
  unfold isAV at h4
  split at h4
  ·rename_i e
   exact eqAV_eq e
  ·exact h4.elim
 rw [hv] at h1
 rw [clo_sound hx h1]
 exact ⟨rfl,h2.fr.below⟩
theorem zii {ρ:Val} {j:J} {k:IntKind} {n:Int} {l:List AV} {m:List Value} (h:RL ρ j l m):RL ρ j (.int k (.lit n)::l) (.int k n::m):=⟨_,_,rfl,rfl,h⟩
theorem zpc {ρ:Val} {j:J} {b:Bool} {l:List AV} {m:List Value} (h:RL ρ j l m):RL ρ j (.bool (.lit b)::l) (.bool b::m):=⟨_,_,rfl,rfl,h⟩
theorem zsC {ρ:Val} {j:J} {a:List AV} {b:List Value} {l:List AV} {m:List Value} (h0:RL ρ j a b) (h:RL ρ j l m):RL ρ j (.agg a::l) (.agg b.toArray::m):=⟨_,_,rfl,⟨_,rfl,h0⟩,h⟩
end Go.Dw
namespace Go.Proofs
open Go.RowKit Go.Maps Go.Sort

def Tryz.drv (n:Nat):Nat:=4096+16*n
def Tryz.dvc (n:Nat):Nat:=(drv n+2*n+9)/4*4
def Tryz.rings (n:Nat):Value:= .agg #[.bool false,.int .i64 n,.int .u64 4096,.int .u64 (drv n),.int .u64 (dvc n)]
def Tryz.znN (n:Nat):Dw.AV:= .agg [.bool (.lit false),.int .i64 (.lit n),.int .u64 (.lit 4096),.int .u64 (.lit (drv n)),.int .u64 (.lit (dvc n))]
theorem Tryz.zhO {n:Nat} (h:n=1∨n=2∨n=4∨n=8∨n=16):n∈ [1,2,4,8,16]:=by simp;omega

end Go.Proofs
namespace Go.Proofs
open Go.RowKit Go.Maps Go.Sort

noncomputable def Tryz.zrm (n:Nat):Bool:=(Dw.ev prog Dw.noOrc 100000 (.call 30 [.bool (.lit false),.int .i64 (.lit n),.int .u64 (.lit 4096)] Dw.heap0 (Dw.isAV (.tup [znN n,.int .u64 (.lit (dvc n+6+8*n-4096)),.int .i64 (.lit 0)])))).good
theorem Tryz.place_good:([1,2,4,8,16].all fun n=>zrm n)=true:=by kernel_rfl
theorem Tryz.znV (n:Nat) (hn:n=1∨n=2∨n=4∨n=8∨n=16) (w:World):
  Calls prog 30 #[.bool false,.int .i64 n,.int .u64 4096] w fun e w'=>e= .returned (.tuple #[rings n,.int .u64 ((dvc n:Int)+6+8*n-4096),.int .i64 0])∧Below w.heap.size w w':=by
 have h1:=List.all_eq_true.1 place_good n (zhO hn)
 exact Dw.znL (by kernel_rfl) rfl (Dw.zpc (Dw.zii (Dw.zii Dw.RL.nil))) h1 w
noncomputable def Tryz.zrn (n:Nat):Bool:=(Dw.ev prog Dw.noOrc 100000 (.call 24 [znN n] Dw.heap0 (Dw.isAV (.tup [.int .u64 (.lit (16*n)),.int .u64 (.lit (6+2*n)),.int .u64 (.lit (6+8*n))])))).good
theorem Tryz.parts_good:([1,2,4,8,16].all fun n=>zrn n)=true:=by kernel_rfl
theorem Tryz.znX (n:Nat) (hn:n=1∨n=2∨n=4∨n=8∨n=16) (w:World):
  Calls prog 24 #[rings n] w fun e w'=>e= .returned (.tuple #[.int .u64 (16*n),.int .u64 (6+2*n),.int .u64 (6+8*n)])∧Below w.heap.size w w':=by
 have h1:=List.all_eq_true.1 parts_good n (zhO hn)
 exact Dw.znL (by kernel_rfl) rfl (Dw.zsC (Dw.zpc (Dw.zii (Dw.zii (Dw.zii (Dw.zii Dw.RL.nil))))) Dw.RL.nil) h1 w
end Go.Proofs
namespace Go.Proofs
open Go.Dw Go.RowKit

structure Tryz.Cl (w:World) (b:Nat) (l:List Value):Prop where
 lt:b<w.heap.size
 cell: ∀(i:Nat) (v:Value),l[i]? =some v→w.cell? ⟨b,i,none⟩=some v
 free: ∀i,w.frozen? ⟨b,i,none⟩=false
theorem Tryz.Cl.below {w w':World} {b B:Nat} {l:List Value} (h:Cl w b l) (hb:Below B w w') (hB:b<B):Cl w' b l:=
 ⟨Nat.lt_of_lt_of_le h.lt hb.size,fun i v hv=>(hb.cell (p:=⟨b,i,none⟩) hB).trans (h.cell i v hv),fun i=>(hb.frozen (p:=⟨b,i,none⟩) hB).trans (h.free i)⟩
theorem Tryz.Cl.at {w:World} {b:Nat} {arr:Array Value} {t:TypeId} (h:w.heap[b]? =some (.cells arr t (0,0))):Cl w b arr.toList:=
 ⟨(Array.getElem?_eq_some_iff.1 h).1,fun i v hv=>by rw [cell_of_row _ _ i _ _ (0,0) h,←Array.getElem?_toList];exact hv,fun i=>by simp [World.frozen?,h]⟩
theorem Tryz.Cl.new (w:World) (arr:Array Value) (t:TypeId):Cl (w.alloc (.cells arr t)) w.heap.size arr.toList:=Cl.at (heap_alloc_last w _)
theorem Tryz.Cl.new2 {w:World} {b:Nat} {arr:Array Value} {t:TypeId} (h:w.heap.size=b):Cl (w.alloc (.cells arr t)) b arr.toList:=h▸Cl.new w arr t
theorem Tryz.Cl.alloc {w:World} {b:Nat} {l:List Value} (h:Cl w b l) (o:Obj):Cl (w.alloc o) b l:=h.below ((Below.refl _ w).alloc (Nat.le_refl _) o) h.lt
theorem Tryz.Cl.set {w:World} {b:Nat} {l:List Value} (h:Cl w b l) (j:Nat) (v:Value) (hj:j<l.length):Cl (w.setCell ⟨b,j,none⟩ v) b (l.set j v):=by
 refine ⟨by have:=h.lt;simpa using this,fun i u hu=> ?_,fun i=>by rw [World.frozen?_setCell];exact h.free i⟩
 by_cases hij:i=j
 ·subst hij
  rw [List.getElem?_set_self hj] at hu
  cases hu
  exact World.cell?_setCell_same' _ _ _ (by rw [h.cell i _ (List.getElem?_eq_getElem hj)];rfl)
 ·rw [List.getElem?_set_ne (fun e=>hij e.symm)] at hu
  rw [World.cell?_setCell_other w ⟨b,j,none⟩ ⟨b,i,none⟩ v (fun e=>hij (congrArg Addr.off e).symm)]
  exact h.cell i u hu
theorem Tryz.zpJ {fn:Func} {t t2 p u:Tmp} {ty:TypeId} (h:fn.results= #[.tmp t,.tmp t2,.cell p ty,.tmp u]) (tmps:Array Value) (w:World) (b:Nat) (cs:List Value) (d:TypeDesc)
  (hp:tmps.getD p undef= .pointer (some ⟨b,0,none⟩)) (hg:w.rangeAt b 0 cs) (hu:prog.underlying ty=some d) (hd:d.isRow=true) (hi:(prog.info? ty).map (·.size)=some cs.length):
  (results fn tmps).run prog w= .ok (.tuple #[tmps.getD t undef,tmps.getD t2 undef,.agg cs.toArray,tmps.getD u undef]) w:=by
 have hp':tmps[p]?.getD undef= .pointer (some ⟨b,0,none⟩):=by simpa using hp
 simp [results,h,hp',asAddr,run_loadVar_mid w b 0 ty cs d hg hu hd hi]
theorem Tryz.zbF (w:World) (o:Obj):(w.alloc o).heap.size=w.heap.size+1:=by simp
def Tryz.zdx (n:Nat):Rg:=⟨n,4096,drv n,dvc n⟩
theorem Tryz.zmE (n:Nat):(zdx n).val=rings n:=rfl
theorem Tryz.znP {n:Nat} (h:n=1∨n=2∨n=4∨n=8∨n=16):RgOk (zdx n):=by
 rcases h with rfl|rfl|rfl|rfl|rfl
 ·exact ⟨⟨0,by decide,rfl⟩,by decide,by decide,by decide,by decide,by decide,by decide,by decide,by decide,by decide,by decide,by decide,by decide⟩
 ·exact ⟨⟨1,by decide,rfl⟩,by decide,by decide,by decide,by decide,by decide,by decide,by decide,by decide,by decide,by decide,by decide,by decide⟩
 ·exact ⟨⟨2,by decide,rfl⟩,by decide,by decide,by decide,by decide,by decide,by decide,by decide,by decide,by decide,by decide,by decide,by decide⟩
 ·exact ⟨⟨3,by decide,rfl⟩,by decide,by decide,by decide,by decide,by decide,by decide,by decide,by decide,by decide,by decide,by decide,by decide⟩
 ·exact ⟨⟨4,by decide,rfl⟩,by decide,by decide,by decide,by decide,by decide,by decide,by decide,by decide,by decide,by decide,by decide,by decide⟩
theorem Tryz.SrvW.drew {A:Nat→Prop} {w:World} {S P M:Nat} {r:Rg} {s:SS} (h:SrvW A w S P M r s):SrvW A w.drew S P M r s:=h.kept rfl rfl fun _ _ _=>rfl
set_option maxRecDepth 100000 in
set_option maxHeartbeats 2000000 in
theorem Tryz.zkK {n:Nat} (hn:n=1∨n=2∨n=4∨n=8∨n=16) (ev tb:Bool) (w:World):
    Calls prog 8 #[.int .i64 n,.agg #[.bool ev,.bool tb,.bool false]] w fun e w'=> ∃S P L Bs B M,e= .returned (.tuple #[.pointer (some ⟨P,0,none⟩),.pointer (some ⟨S,0,none⟩),rings n,.bool true])∧
      SW (sK S M B) w' S P L Bs B M 20000 (zdx n) (SS.fresh ev tb) (fun _=>0)∧Below w.heap.size w w'∧w.heap.size≤S∧w.heap.size≤M∧w.heap.size≤B∧w.heap.size≤P∧w.heap.size≤L∧w.heap.size≤Bs:=by
  have hpl:=znV n hn
  have hnew:=fun R w (c:Cl w R [.int .u64 0,.int .u64 20000])=>zrr R 20000 1 w (c.cell 0 _ rfl) (c.cell 1 _ rfl) (by decide) (by decide)
  have hrk:=znP hn
  have hrv:=zmE n
  unfold rings at hpl hrv ⊢
  go_enter func8,ntmps8
  go_wp2_with (first
    | (go_at_call 30;refine (hpl _).mono ?_;rintro e w1 ⟨rfl,hb1⟩
       have ka:=((Cl.new w _ _).alloc _).below hb1 (by simp<;>omega)
       have kb:=(Cl.new (w.alloc _) _ _).below hb1 (by simp<;>omega)
       rw [zbF] at kb)
    | (go_at_call 31;refine (hnew (w1.heap.size+1) _ (Cl.new2 (zbF _ _))).mono ?_;rintro e w2 ⟨P,L,Bs,B,rfl,hg,hb2,hP,hL,hBs,hB⟩
       have kc:=((Cl.new w1 _ _).alloc _).below hb2 (by simp<;>omega)
       replace ka:=((ka.alloc _).alloc _).below hb2 (by have:=ka.lt;simp<;>omega)
       replace kb:=((kb.alloc _).alloc _).below hb2 (by have:=kb.lt;simp<;>omega)
       have x0:=ka.cell 0 _ rfl;have x1:=ka.cell 1 _ rfl;have x2:=ka.cell 2 _ rfl
       have y0:=kc.cell 0 _ rfl;have y1:=kc.cell 1 _ rfl;have y2:=kc.cell 2 _ rfl;have y3:=kc.cell 3 _ rfl;have y4:=kc.cell 4 _ rfl)
    | (go_at_call 32;refine (zrq (r:=zdx n) hg hrk).mono ?_;rintro e w3 ⟨S,M,rfl,hS,hM,hsv,hb3⟩
       clear x0 x1 x2 y0 y1 y2 y3 y4
       replace kb:=kb.below hb3 kb.lt
       replace kc:=kc.below hb3 kc.lt
       have y0:=kc.cell 0 _ rfl;have y1:=kc.cell 1 _ rfl;have y2:=kc.cell 2 _ rfl;have y3:=kc.cell 3 _ rfl;have y4:=kc.cell 4 _ rfl
       have z0:=kb.cell 0 _ rfl;have z1:=kb.cell 1 _ rfl;have z2:=kb.cell 2 _ rfl;have z3:=kb.cell 3 _ rfl;have z4:=kb.cell 4 _ rfl
       have f0:=kb.free 0;have f1:=kb.free 1;have f2:=kb.free 2;have f3:=kb.free 3;have f4:=kb.free 4)
    | go_in)
  have l1:=kb.lt
  have hkb:=kb
  clear ka kb kc
  go_region
  go_wp2_with fail
  have k0:=((((hkb.set 0 (.bool false) (show 0<5 by decide)).set 1 (.int .i64 n) (show 1<5 by decide)).set 2 (.int .u64 4096) (show 2<5 by decide)).set 3 (.int .u64 (drv n)) (show 3<5 by decide)).set 4 (.int .u64 (dvc n)) (show 4<5 by decide)
  have hmv:=(((((Mv.refl (· =w.heap.size+1) w3).setCell (w.heap.size+1) 0 (.bool false) (.inl rfl)).setCell (w.heap.size+1) 1 (.int .i64 n) (.inl rfl)).setCell (w.heap.size+1) 2 (.int .u64 4096) (.inl rfl)).setCell (w.heap.size+1) 3 (.int .u64 (drv n)) (.inl rfl)).setCell (w.heap.size+1) 4 (.int .u64 (dvc n)) (.inl rfl)
  generalize (((((w3.setCell ⟨w.heap.size+1,0,none⟩ (.bool false)).setCell ⟨w.heap.size+1,1,none⟩ (.int .i64 n)).setCell ⟨w.heap.size+1,2,none⟩ (.int .u64 4096)).setCell ⟨w.heap.size+1,3,none⟩ (.int .u64 (drv n))).setCell ⟨w.heap.size+1,4,none⟩ (.int .u64 (dvc n)))=w4 at k0 hmv ⊢
  have hsz1:=hb1.size
  have hsz2:=hb2.size
  have hsz3:=hb3.size
  simp only [zbF] at hsz1 hsz2 hsz3 hP hL hBs hB
  have hbw:Below w.heap.size w w3:=(((((Below.refl _ w).alloc (Nat.le_refl _) _).alloc (by simp only [zbF];omega) _).trans (hb1.mono (by simp only [zbF];omega))).alloc (by omega) _).alloc (by simp only [zbF];omega) _|>.trans (hb2.mono (by simp only [zbF];omega))|>.trans (hb3.mono (by omega))
  have hbl:=hbw.trans (hmv.below (base:=w.heap.size) (fun k hk=>by omega) hbw.size)
  refine bodyPost_ret (zpJ rfl _ _ (w.heap.size+1) [.bool false,.int .i64 n,.int .u64 4096,.int .u64 (drv n),.int .u64 (dvc n)] _ rfl (fun j v hv=>by rw [Nat.zero_add];exact k0.cell j v hv) underlying32 rfl (by kernel_rfl)) rfl ?_
  have hlS:=(hsv (fun _=>True) trivial trivial).ltS
  have hlM:=(hsv (fun _=>True) trivial trivial).ltM
  have hg3:=hg.below hb3
  have hsv1:=(hsv (fun _=>True) trivial trivial).kept (hmv.block S hlS (by omega)) (hmv.block M hlM (by omega)) (fun k _ h=>absurd trivial h)
  have hgp:=hg.pl
  have hgl:=hg.ll
  have hgs:=hg.sl
  have hgb:=hg.bl
  have hgm:=hg3.kept (fun k hk hk'=>hmv.block k hk (by omega)) hmv.size
  refine ⟨S,P,L,Bs,B,M,rfl,⟨(hsv1.fresh (.inl rfl) (.inr (.inl rfl))).drew,hgm.drewN 1,by decide,⟨by omega,by omega,by omega,by omega⟩,⟨by omega,by omega,by omega,by omega⟩,.inr (.inr rfl),fun b hb=> ?_,?_⟩,hbl.drew,by omega,by omega,by omega,by omega,by omega,by omega⟩
  · have:=hmv.size
    show b<w4.heap.size
    rcases hb with rfl|rfl|rfl<;>omega
  · rcases hn with rfl|rfl|rfl|rfl|rfl<;>exact ⟨by decide,by decide,by decide⟩
def Tryz.rckE:Ent:=⟨80,[sl1 []],0,0,0,.int .i64 (.var 7),0⟩
end Go.Proofs
namespace Go.Proofs
open Go.Dw

def Tryz.rck0_ents:List Ent:= []
def Tryz.rck0_shs:List Sh:= [ckEl 3 4 0]
def Tryz.rck0_slots:List (Nat×AV):= [(0,ckL [(.lit 0,1)]),(3,.int .u64 (u64v 2)),(4,.int .i64 (.lit 0))]
def Tryz.rck0_lents:List LEnt:= []
def Tryz.rck0_aents:List AEnt:= []
def Tryz.rck0_dfr:Option AV:=none
def Tryz.rck0_asm:List (SB×Bool):= [(.cmp .lss (.lit 0) (lnv 0),true)]
def Tryz.rck0_ls:List CLeaf:= [
 ⟨.ret,[2],none,⟨.tup [.int .i64 (.lit 2)],[],[],0,[]⟩⟩,
 ⟨.normal,[0,3,4],none,⟨.tup [.sx 0 ((lnv 0)) 3 [((.lit 0),1)],.int .u64 (.bin .add .u64 (u64v 2) (u32v 4)),.int .i64 (.lit 1)],[],[],0,[]⟩⟩]
def Tryz.rck0_ps:List (List (SB×Bool)×Nat):= [
 ([((.cmp .eql (u32v 4) (.lit 0)),true)],0),
 ([((.cmp .eql (u32v 4) (.lit 0)),false),((.cmp .lss (.bin .add .u64 (u64v 3) (.bin .sub .u64 (u32v 4) (.lit 1))) (u64v 3)),true)],0),
 ([((.cmp .eql (u32v 4) (.lit 0)),false),((.cmp .lss (.bin .add .u64 (u64v 3) (.bin .sub .u64 (u32v 4) (.lit 1))) (u64v 3)),false)],1)]
theorem Tryz.rck0_run:(evL prog (entOrc rck0_ents) (zao rck0_lents) (aentOrc rck0_aents) 100000 (.code (codeR prog [0,0,1,0,1,1,1,80]) [0,0,1,0,1,1,1,80] 71 (envS 71 rck0_slots rck0_dfr) (zaj 0 rck0_shs) (cleafAt rck0_ls 0))).ways rck0_asm=some rck0_ps:=by kernel_rfl
theorem Tryz.rck0_ok:(shsSmall rck0_shs&&entsSmall rck0_ents&&lentsSmall rck0_lents&&aentsSmall rck0_aents&&slotsSmall rck0_slots&&cleavesExact rck0_ls&&zaq 71 rck0_slots&&Nat.ble 71 dslot&&dfrSmall rck0_dfr)=true:=by kernel_rfl

def Tryz.rck1_ents:List Ent:= []
def Tryz.rck1_shs:List Sh:= [ckEl 3 4 0,ckEl 5 6 1]
def Tryz.rck1_slots:List (Nat×AV):= [(0,ckL [(lnv 1,1),(.bin .sub .i64 (lnv 1) (.lit 1),2)]),(3,.int .u64 (u64v 2)),(4,.int .i64 (lnv 1))]
def Tryz.rck1_lents:List LEnt:= []
def Tryz.rck1_aents:List AEnt:= []
def Tryz.rck1_dfr:Option AV:=none
def Tryz.rck1_asm:List (SB×Bool):= [(.cmp .lss (lnv 1) (lnv 0),true),(.cmp .gtr (lnv 1) (.lit 0),true)]
def Tryz.rck1_ls:List CLeaf:= [
 ⟨.ret,[2],none,⟨.tup [.int .i64 (.lit 2)],[],[],0,[]⟩⟩,
 ⟨.normal,[0,3,4],none,⟨.tup [.sx 0 ((lnv 0)) 3 [((lnv 1),1),((.bin .sub .i64 (lnv 1) (.lit 1)),2)],.int .u64 (.bin .add .u64 (u64v 2) (u32v 4)),.int .i64 (.bin .add .i64 (lnv 1) (.lit 1))],[],[],0,[]⟩⟩]
def Tryz.rck1_ps:List (List (SB×Bool)×Nat):= [
 ([((.cmp .eql (u32v 4) (.lit 0)),true)],0),
 ([((.cmp .eql (u32v 4) (.lit 0)),false),((.cmp .lss (.bin .add .u64 (u64v 3) (.bin .sub .u64 (u32v 4) (.lit 1))) (u64v 3)),true)],0),
 ([((.cmp .eql (u32v 4) (.lit 0)),false),((.cmp .lss (.bin .add .u64 (u64v 3) (.bin .sub .u64 (u32v 4) (.lit 1))) (u64v 3)),false),(.var 1,true),(.var 0,false)],0),
 ([((.cmp .eql (u32v 4) (.lit 0)),false),((.cmp .lss (.bin .add .u64 (u64v 3) (.bin .sub .u64 (u32v 4) (.lit 1))) (u64v 3)),false),(.var 1,true),(.var 0,true)],1),
 ([((.cmp .eql (u32v 4) (.lit 0)),false),((.cmp .lss (.bin .add .u64 (u64v 3) (.bin .sub .u64 (u32v 4) (.lit 1))) (u64v 3)),false),(.var 1,false)],1)]
theorem Tryz.rck1_run:(evL prog (entOrc rck1_ents) (zao rck1_lents) (aentOrc rck1_aents) 100000 (.code (codeR prog [0,0,1,0,1,1,1,80]) [0,0,1,0,1,1,1,80] 71 (envS 71 rck1_slots rck1_dfr) (zaj 0 rck1_shs) (cleafAt rck1_ls 0))).ways rck1_asm=some rck1_ps:=by kernel_rfl
theorem Tryz.rck1_ok:(shsSmall rck1_shs&&entsSmall rck1_ents&&lentsSmall rck1_lents&&aentsSmall rck1_aents&&slotsSmall rck1_slots&&cleavesExact rck1_ls&&zaq 71 rck1_slots&&Nat.ble 71 dslot&&dfrSmall rck1_dfr)=true:=by kernel_rfl

def Tryz.rcke_ents:List Ent:= []
def Tryz.rcke_shs:List Sh:= []
def Tryz.rcke_slots:List (Nat×AV):= [(0,ckL []),(3,.int .u64 (u64v 2)),(4,.int .i64 (lnv 1))]
def Tryz.rcke_lents:List LEnt:= []
def Tryz.rcke_aents:List AEnt:= []
def Tryz.rcke_dfr:Option AV:=none
def Tryz.rcke_asm:List (SB×Bool):= [(.cmp .lss (lnv 1) (lnv 0),false)]
def Tryz.rcke_ls:List CLeaf:= [
 ⟨(.exit 0),[3],none,⟨.tup [.int .u64 (u64v 2)],[],[],0,[]⟩⟩]
def Tryz.rcke_ps:List (List (SB×Bool)×Nat):= [
 ([], 0)]
theorem Tryz.rcke_run:(evL prog (entOrc rcke_ents) (zao rcke_lents) (aentOrc rcke_aents) 100000 (.code (codeR prog [0,0,1,0,1,1,1,80]) [0,0,1,0,1,1,1,80] 71 (envS 71 rcke_slots rcke_dfr) (zaj 0 rcke_shs) (cleafAt rcke_ls 0))).ways rcke_asm=some rcke_ps:=by kernel_rfl
theorem Tryz.rcke_ok:(shsSmall rcke_shs&&entsSmall rcke_ents&&lentsSmall rcke_lents&&aentsSmall rcke_aents&&slotsSmall rcke_slots&&cleavesExact rcke_ls&&zaq 71 rcke_slots&&Nat.ble 71 dslot&&dfrSmall rcke_dfr)=true:=by kernel_rfl

def Tryz.rckt_ents:List Ent:= []
def Tryz.rckt_shs:List Sh:= []
def Tryz.rckt_slots:List (Nat×AV):= [(3,.int .u64 (u64v 2))]
def Tryz.rckt_lents:List LEnt:= []
def Tryz.rckt_aents:List AEnt:= []
def Tryz.rckt_dfr:Option AV:=none
def Tryz.rckt_asm:List (SB×Bool):= []
def Tryz.rckt_ls:List CLeaf:= [
 ⟨.ret,[2],none,⟨.tup [.int .i64 (.lit 2)],[],[],0,[]⟩⟩,
 ⟨.ret,[2],none,⟨.tup [.int .i64 (.lit 0)],[],[],0,[]⟩⟩]
def Tryz.rckt_ps:List (List (SB×Bool)×Nat):= [
 ([((.cmp .geq (u64v 2) (.lit 4294967296)),true)],0),
 ([((.cmp .geq (u64v 2) (.lit 4294967296)),false)],1)]
theorem Tryz.rckt_run:(evL prog (entOrc rckt_ents) (zao rckt_lents) (aentOrc rckt_aents) 100000 (.code (codeR prog [1,1,1,1,80]) [1,1,1,1,80] 71 (envS 71 rckt_slots rckt_dfr) (zaj 0 rckt_shs) (cleafAt rckt_ls 0))).ways rckt_asm=some rckt_ps:=by kernel_rfl
theorem Tryz.rckt_ok:(shsSmall rckt_shs&&entsSmall rckt_ents&&lentsSmall rckt_lents&&aentsSmall rckt_aents&&slotsSmall rckt_slots&&cleavesExact rckt_ls&&zaq 71 rckt_slots&&Nat.ble 71 dslot&&dfrSmall rckt_dfr)=true:=by kernel_rfl

def Tryz.rcm_ents:List Ent:= [rckE]
def Tryz.rcm_shs:List Sh:= []
def Tryz.rcm_args:List AV:= [sl1 []]
def Tryz.rcm_asm:List (SB×Bool):= []
def Tryz.rcm_ls:List Leaf:= [
 ⟨.int .i64 (.lit 2),[],[],0,[]⟩,
 ⟨.int .i64 (.var 7),[],[],0,[]⟩]
def Tryz.rcm_ps:List (List (SB×Bool)×Nat):= [
 ([((.cmp .eql (.var 7) (.lit 0)),true),((.cmp .eql (lnv 0) (.lit 0)),true)],0),
 ([((.cmp .eql (.var 7) (.lit 0)),true),((.cmp .eql (lnv 0) (.lit 0)),false)],1),
 ([((.cmp .eql (.var 7) (.lit 0)),false)],1)]
theorem Tryz.rcm_run:(ev prog (entOrc rcm_ents) 100000 (.call 50 rcm_args (zaj 0 rcm_shs) (leafAt rcm_ls 0))).ways rcm_asm=some rcm_ps:=by kernel_rfl
theorem Tryz.rcm_ok:(shsSmall rcm_shs&&entsSmall rcm_ents&&AV.smallL rcm_args&&leavesExact rcm_ls)=true:=by kernel_rfl
end Go.Proofs
namespace Go.Proofs
open Go.Dw Go.RowKit

structure Tryz.RcI (l:List Sg) (sa:Option Addr) (c:Nat) (w0:World) (k:Nat) (a:Act) (w:World):Prop where
 kl:k≤l.length
 size:a.tmps.size=71
 dfr:a.defers= []
 s0:a.tmps.getD 0 undef= .slice sa l.length c
 s4:a.tmps.getD 4 undef= .int .i64 k
 mv:Below w0.heap.size w0 w
 sum: ∃pw s,a.tmps.getD 3 undef= .int .u64 s∧0≤s∧s≤k*4294967296∧zaR pw s (l.drop k)=zaR false 0 l∧(k=0→pw=false)∧(∀i,k=i+1→ ∃h:i<l.length,pw=l[i].wr)
theorem Tryz.zsI {ρ:Val} {j:J} {sa:Option Addr} {n c:Nat} (hv:ρ.v 0= .slice sa n c) (hd:(lnv 0).den ρ=n):Dw.R ρ j (ckL []) (.slice sa n c):=by
 have:Dw.R ρ j (ckL []) (ρ.v 0):=⟨rfl,sa,n,c,hv,hd.symm,trivial⟩
 rwa [hv] at this
set_option maxHeartbeats 1000000 in
theorem Tryz.zpM {l:List Sg} {sa:Option Addr} {c:Nat} {w0:World} {k:Nat} {a:Act} {w:World} (h:RcI l sa c w0 k a w) (hl:l.length≤64) (hok: ∀x∈l,x.ok)
    (hr:l= []∨ ∃R o,sa=some ⟨R,o,none⟩∧w0.rangeAt R o (zaA l)):
    (codeR prog [0,0,1,0,1,1,1,80]).wp prog (fun ex a' w'=>match ex with
      | .normal=>k<l.length∧RcI l sa c w0 (k+1) a' w'
      | ex=>a'.tmps.size=71∧a'.defers= []∧Below w0.heap.size w0 w'∧((ex= .ret∧zaR false 0 l=2∧a'.tmps.getD 2 undef= .int .i64 2)∨(ex= .exit 0∧ ∃s,zaR false 0 l=(if 4294967296≤s then 2 else 0)∧a'.tmps.getD 3 undef= .int .u64 s∧0≤s∧s<18446744073709551616))) a w:=by
  obtain ⟨kl,size,dfr,s0,s4,mv,pw,s,s3,hs0,hs1,hsw,hp0,hp1⟩:=h
  have hden: ∀(n k' s':Int) (x y:Sg) (sl:Value),n=l.length→0≤k'→k'≤64→0≤s'→s'<18446744073709551616→x.ok→(lnv 0).den (zbw n k' s' x y sl)=l.length∧(lnv 1).den (zbw n k' s' x y sl)=k'∧(u64v 2).den (zbw n k' s' x y sl)=s'∧(u64v 3).den (zbw n k' s' x y sl)=x.at1∧(u32v 4).den (zbw n k' s' x y sl)=x.len:=by
    intro n k' s' x y sl h1 h2 h3 h4 h5 h6
    subst h1
    exact ⟨zaB (by show (0:Int)≤l.length;omega) (by show ((l.length:Nat):Int)<_;omega),zaB h2 (by show k'<_;omega),zav h4 h5,zav h6.1 h6.2.1,zbp h6.2.2.1 h6.2.2.2⟩
  by_cases hkl:k<l.length
  · rcases hr with h0|⟨R,o,rfl,hr⟩
    · rw [h0] at hkl;simp at hkl
    have hRw0:=zcZ hr (by intro h0;rw [h0] at hkl;simp at hkl)
    have hrw:w.rangeAt R o (zaA l):=zat hr (mv.block R hRw0)
    have hx:=zcm hrw k hkl
    have hxo:=hok l[k] (List.getElem_mem hkl)
    rw [List.drop_eq_getElem_cons hkl] at hsw
    generalize hX:l[k]=X at hx hxo hsw
    have hXok:=hxo
    obtain ⟨xa0,xa1,xl0,xl1⟩:=hxo
    rw [zaR] at hsw
    have hwl:X.len≠0→IntKind.wrap .u64 (X.len-1)=X.len-1:=fun h=>zay (by omega) (by omega)
    have hwa:IntKind.wrap .u64 (X.at1+(X.len-1))=(X.at1+(X.len-1))%18446744073709551616:=zdB _
    have hws:IntKind.wrap .u64 (s+X.len)=s+X.len:=zay (by omega) (by omega)
    have hkk:IntKind.wrap .i64 ((k:Int)+1)=((k+1:Nat):Int):=by rw [zbM (by omega) (by omega)];omega
    have fin: ∀ {a':Act} {w':World},a'.tmps.size=71→a'.defers= []→Below w.heap.size w w'→([0,3,4].map fun t=>a'.tmps.getD t undef)= [.slice (some ⟨R,o,none⟩) l.length c,.int .u64 (s+X.len),.int .i64 (k+1:Nat)]→
        zaR X.wr (s+X.len) (l.drop (k+1))=zaR false 0 l→k<l.length∧RcI l (some ⟨R,o,none⟩) c w0 (k+1) a' w':=fun {a' w'} q1 q2 q5 q8 q9=>by
      simp only [List.map_cons,List.map_nil,List.cons.injEq,and_true] at q8
      obtain ⟨t0,t3,t4⟩:=q8
      refine ⟨hkl,⟨by omega,q1,q2,t0,t4,mv.trans (q5.mono mv.size),X.wr,s+X.len,t3,by omega,by push_cast;omega,q9,by omega,fun i hi=> ?_⟩⟩
      have:k=i:=by omega
      subst this
      exact ⟨hkl,by rw [hX]⟩
    rcases Nat.eq_zero_or_pos k with hk0|hk0
    · subst hk0
      have hpw:=hp0 rfl
      subst hpw
      obtain ⟨d0,d1,d2,d3,d4⟩:=hden l.length 0 s X X (.slice (some ⟨R,o,none⟩) l.length c) rfl (by omega) (by omega) hs0 (by omega) hXok
      have hv0:(zbw l.length 0 s X X (.slice (some ⟨R,o,none⟩) l.length c)).v 0= .slice (some ⟨R,o,none⟩) l.length c:=rfl
      have hb0:(zbw l.length 0 s X X (.slice (some ⟨R,o,none⟩) l.length c)).b 0=X.wr:=rfl
      generalize zbw l.length 0 s X X (.slice (some ⟨R,o,none⟩) l.length c)=ρ at*
      have hj1:jOf [(R,o)] 1=some ⟨R,o,0,none⟩:=rfl
      have hsx:Dw.R ρ (jOf [(R,o)]) (ckL [(.lit 0,1)]) (.slice (some ⟨R,o,none⟩) l.length c):=by
        have:Dw.R ρ (jOf [(R,o)]) (ckL [(.lit 0,1)]) (ρ.v 0):=⟨rfl,_,_,_,hv0,d0.symm,⟨R,o,_,0,rfl,hj1,rfl,rfl,hkl,rfl⟩,trivial⟩
        rwa [hv0] at this
      refine wp_mono (zam (ρ:=ρ) (K:=fun _=>False) (g:=Gho.none) (bl:= [(R,o)]) mixed rck0_run rck0_ok (fun b h=>h.elim)
        ⟨zaw hx (by unfold Sg.cells;simp) (zaa (zab d3) (zaa (zab d4) (zaa (zaH hb0) RL.nil))) (fun h=>h),trivial⟩
        ⟨fun h=>(by cases h),trivial⟩ zas trivial trivial trivial size dfr ?_ (told_cons_iff.2 ⟨by rw [zaz,d0,zac];simp only [decide_eq_true_eq];omega,told_nil.2 trivial⟩)) fun ex a' w' hh=> ?_
      · intro t ht
        simp only [rck0_slots,List.mem_cons,List.not_mem_nil,or_false] at ht
        rcases ht with rfl|rfl|rfl
        · rw [s0];exact hsx
        · rw [s3];exact zab d2
        · rw [s4];exact zab rfl
      · obtain ⟨q,hq,hto,lf,hlf,rfl,hsz,j,hdf,he⟩:=hh
        have hbl:=zag he (fun _ h=>h)
        unfold rck0_ps at hq
        simp only [List.mem_cons,List.not_mem_nil,or_false] at hq
        rcases hq with rfl|rfl|rfl
        all_goals
          simp only [told_cons_iff,told_nil,zbm,zaz,zau,zax,den_add,zac,d0,d1,d2,d3,d4,decide_eq_true_eq,decide_eq_false_iff_not,beq_iff_eq,beq_eq_false_iff_ne,ne_eq,and_true] at hto
          cases hlf
          have hs:=zal he.ret
        · exact ⟨hsz,hdf,mv.trans (hbl.mono mv.size),.inl ⟨rfl,by rw [←hsw,if_pos (by omega)],by simpa [AV.valL,AV.val,zac] using hs⟩⟩
        · obtain ⟨t1,t2⟩:=hto
          rw [hwl t1,hwa] at t2
          exact ⟨hsz,hdf,mv.trans (hbl.mono mv.size),.inl ⟨rfl,by rw [←hsw,if_pos (by omega)],by simpa [AV.valL,AV.val,zac] using hs⟩⟩
        · obtain ⟨t1,t2⟩:=hto
          rw [hwl t1,hwa] at t2
          refine fin hsz hdf hbl ?_ ?_
          · rw [hs]
            simp only [AV.valL,AV.val,d2,d4,hv0,den_add,zac,hws]
            rfl
          · rw [←hsw,if_neg (by rintro (h|h|⟨h,_⟩);omega;omega;cases h)]
    · obtain ⟨i,rfl⟩: ∃i,k=i+1:=⟨k-1,by omega⟩
      obtain ⟨hil,hpw⟩:=hp1 i rfl
      have hy:=zcm hrw i hil
      have hyo:=hok l[i] (List.getElem_mem hil)
      generalize hY:l[i]=Y at hy hyo hpw
      subst hpw
      have hk1:IntKind.wrap .i64 (((i+1:Nat):Int)-1)=(i:Int):=by rw [zbM (by omega) (by omega)];omega
      obtain ⟨d0,d1,d2,d3,d4⟩:=hden l.length (i+1:Nat) s X Y (.slice (some ⟨R,o,none⟩) l.length c) rfl (by omega) (by omega) hs0 (by omega) hXok
      have hv0:(zbw l.length (i+1:Nat) s X Y (.slice (some ⟨R,o,none⟩) l.length c)).v 0= .slice (some ⟨R,o,none⟩) l.length c:=rfl
      have hb0:(zbw l.length (i+1:Nat) s X Y (.slice (some ⟨R,o,none⟩) l.length c)).b 0=X.wr:=rfl
      have hb1:(zbw l.length (i+1:Nat) s X Y (.slice (some ⟨R,o,none⟩) l.length c)).b 1=Y.wr:=rfl
      have d5:(u64v 5).den (zbw l.length (i+1:Nat) s X Y (.slice (some ⟨R,o,none⟩) l.length c))=Y.at1:=zav hyo.1 hyo.2.1
      have d6:(u32v 6).den (zbw l.length (i+1:Nat) s X Y (.slice (some ⟨R,o,none⟩) l.length c))=Y.len:=zbp hyo.2.2.1 hyo.2.2.2
      generalize zbw l.length (i+1:Nat) s X Y (.slice (some ⟨R,o,none⟩) l.length c)=ρ at*
      have hj1:jOf [(R,o+3*(i+1)),(R,o+3*i)] 1=some ⟨R,o+3*(i+1),0,none⟩:=rfl
      have hj2:jOf [(R,o+3*(i+1)),(R,o+3*i)] 2=some ⟨R,o+3*i,0,none⟩:=rfl
      have hsx:Dw.R ρ (jOf [(R,o+3*(i+1)),(R,o+3*i)]) (ckL [(lnv 1,1),(.bin .sub .i64 (lnv 1) (.lit 1),2)]) (.slice (some ⟨R,o,none⟩) l.length c):=by
        have:Dw.R ρ (jOf [(R,o+3*(i+1)),(R,o+3*i)]) (ckL [(lnv 1,1),(.bin .sub .i64 (lnv 1) (.lit 1),2)]) (ρ.v 0):=
          ⟨rfl,_,_,_,hv0,d0.symm,⟨R,o,_,i+1,rfl,hj1,rfl,d1,hkl,rfl⟩,⟨R,o,_,i,rfl,hj2,rfl,by rw [zax,d1,zac,hk1];rfl,hil,rfl⟩,trivial⟩
        rwa [hv0] at this
      refine wp_mono (zam (ρ:=ρ) (K:=fun _=>False) (g:=Gho.none) (bl:= [(R,o+3*(i+1)),(R,o+3*i)]) mixed rck1_run rck1_ok (fun b h=>h.elim)
        ⟨zaw hx (by unfold Sg.cells;simp) (zaa (zab d3) (zaa (zab d4) (zaa (zaH hb0) RL.nil))) (fun h=>h),zaw hy (by unfold Sg.cells;simp) (zaa (zab d5) (zaa (zab d6) (zaa (zaH hb1) RL.nil))) (fun h=>h),trivial⟩
        ⟨fun h=>(by cases h),fun h=>(by cases h),trivial⟩ zas trivial trivial trivial size dfr ?_ (told_cons_iff.2 ⟨by rw [zaz,d0,d1];simp only [decide_eq_true_eq];omega,told_cons_iff.2 ⟨by rw [zaP,d1,zac];simp only [decide_eq_true_eq];omega,told_nil.2 trivial⟩⟩)) fun ex a' w' hh=> ?_
      · intro t ht
        simp only [rck1_slots,List.mem_cons,List.not_mem_nil,or_false] at ht
        rcases ht with rfl|rfl|rfl
        · rw [s0];exact hsx
        · rw [s3];exact zab d2
        · rw [s4];exact zab d1
      · obtain ⟨q,hq,hto,lf,hlf,rfl,hsz,j,hdf,he⟩:=hh
        have hbl:=zag he (fun _ h=>h)
        unfold rck1_ps at hq
        simp only [List.mem_cons,List.not_mem_nil,or_false] at hq
        rcases hq with rfl|rfl|rfl|rfl|rfl
        all_goals
          simp only [told_cons_iff,told_nil,zbm,zaz,zau,zax,den_add,zac,d0,d1,d2,d3,d4,hb0,hb1,decide_eq_true_eq,decide_eq_false_iff_not,beq_iff_eq,beq_eq_false_iff_ne,ne_eq,and_true] at hto
          cases hlf
          have hs:=zal he.ret
        · exact ⟨hsz,hdf,mv.trans (hbl.mono mv.size),.inl ⟨rfl,by rw [←hsw,if_pos (by omega)],by simpa [AV.valL,AV.val,zac] using hs⟩⟩
        · obtain ⟨t1,t2⟩:=hto
          rw [hwl t1,hwa] at t2
          exact ⟨hsz,hdf,mv.trans (hbl.mono mv.size),.inl ⟨rfl,by rw [←hsw,if_pos (by omega)],by simpa [AV.valL,AV.val,zac] using hs⟩⟩
        · exact ⟨hsz,hdf,mv.trans (hbl.mono mv.size),.inl ⟨rfl,by rw [←hsw,if_pos (.inr (.inr ⟨hto.2.2.1,hto.2.2.2⟩))],by simpa [AV.valL,AV.val,zac] using hs⟩⟩
        · obtain ⟨t1,t2,t3,t4⟩:=hto
          rw [hwl t1,hwa] at t2
          refine fin hsz hdf hbl ?_ ?_
          · rw [hs]
            simp only [AV.valL,AV.val,d1,d2,d4,hv0,den_add,zac,hws,hkk]
          · rw [←hsw,if_neg (by rintro (h|h|⟨h,h'⟩);omega;omega;rw [t4] at h';cases h')]
        · obtain ⟨t1,t2,t3⟩:=hto
          rw [hwl t1,hwa] at t2
          refine fin hsz hdf hbl ?_ ?_
          · rw [hs]
            simp only [AV.valL,AV.val,d1,d2,d4,hv0,den_add,zac,hws,hkk]
          · rw [←hsw,if_neg (by rintro (h|h|⟨h,h'⟩);omega;omega;rw [t3] at h;cases h)]
  · have hkk:k=l.length:=by omega
    subst hkk
    rw [List.drop_length,zaR] at hsw
    obtain ⟨d0,d1,d2,d3,d4⟩:=hden l.length l.length s ⟨0,0,false⟩ ⟨0,0,false⟩ (.slice sa l.length c) rfl (by omega) (by omega) hs0 (by omega) ⟨by decide,by decide,by decide,by decide⟩
    have hv0:(zbw l.length l.length s ⟨0,0,false⟩ ⟨0,0,false⟩ (.slice sa l.length c)).v 0= .slice sa l.length c:=rfl
    generalize zbw l.length l.length s ⟨0,0,false⟩ ⟨0,0,false⟩ (.slice sa l.length c)=ρ at*
    refine wp_mono (zam (ρ:=ρ) (K:=fun _=>False) (g:=Gho.none) (bl:= []) mixed rcke_run rcke_ok (fun b h=>h.elim) trivial trivial zas trivial trivial trivial size dfr ?_ (told_cons_iff.2 ⟨by rw [zaz,d0,d1];simp,told_nil.2 trivial⟩)) fun ex a' w' hh=> ?_
    · intro t ht
      simp only [rcke_slots,List.mem_cons,List.not_mem_nil,or_false] at ht
      rcases ht with rfl|rfl|rfl
      · rw [s0];exact zsI hv0 d0
      · rw [s3];exact zab d2
      · rw [s4];exact zab d1
    · obtain ⟨q,hq,hto,lf,hlf,rfl,hsz,j,hdf,he⟩:=hh
      have hbl:=zag he (fun _ h=>h)
      unfold rcke_ps at hq
      simp only [List.mem_cons,List.not_mem_nil,or_false] at hq
      subst hq
      cases hlf
      have hs:=zal he.ret
      exact ⟨hsz,hdf,mv.trans (hbl.mono mv.size),.inr ⟨rfl,s,hsw.symm,by simpa [AV.valL,AV.val,d2] using hs,hs0,by omega⟩⟩
theorem Tryz.zc6 {fn:Func} {t:Tmp} {a:Act} {w:World} {v:Value} {Post:Ending→World→Prop} (hd:a.defers= []) (h:fn.results= #[.tmp t]) (hv:a.tmps.getD t undef=v) (hp:Post (.returned v) w):bodyPost prog fn Post .ret a w:=
 bodyPost_ret (v:=v) (by
  have hv':a.tmps[t]?.getD undef=v:=by simpa using hv
  simp [results,h,hv']) hd hp
set_option maxRecDepth 100000 in
set_option maxHeartbeats 1000000 in
theorem Tryz.zpE {A:Nat→Prop} {w:World} {v:Value} {l:List Sg} (h:SegV A w v l):
  Calls prog 80 #[v] w fun e w'=>e= .returned (.int .i64 (zaO l))∧Below w.heap.size w w':=by
 obtain ⟨sa,c,rfl,hok,hr⟩:=h
 unfold zaO
 by_cases hlen:64<l.length
 ·rw [if_pos hlen]
  go_enter func80,ntmps80
  go_wp2
  go_ret
  exact ⟨rfl,Below.refl _ _⟩
 ·rw [if_neg hlen]
  have hr':l= []∨ ∃R o,sa=some ⟨R,o,none⟩∧w.rangeAt R o (zaA l):=hr.imp_right fun ⟨R,o,e,_,hr⟩=>⟨R,o,e,hr⟩
  go_enter func80,ntmps80
  go_wp2
  refine zbu (c':= .loop (codeR prog [0,0,1,0,1,1,1,80])) (by kernel_rfl) ?_
  refine zbd (fun k a w'=>RcI l sa c w k a w') (fun k=>l.length-k) (fun k a w' hI=>wp_mono (zpM hI (by omega) hok hr') fun ex a' w2 hh=> ?_) 0 _ _ ?_
  ·cases ex with
   | normal=>exact ⟨k+1,by omega,hh.2⟩
   | ret=>
    obtain ⟨hsz,hdf,hb,⟨_,hV,h2⟩|⟨h,_⟩⟩:=hh
    ·exact zc6 (fn:=f80) (Post:=fun e w'=>e= .returned (.int .i64 (zaR false 0 l))∧RowKit.Below w.heap.size w w') hdf rfl h2 ⟨by rw [hV],hb⟩
    ·cases h
   | exit i=>
    obtain ⟨hsz,hdf,hb,⟨h,_⟩|⟨h,s,hV,h3,hs0,hs1⟩⟩:=hh
    ·cases h
    ·cases h
     simp only [Exit.inBlock,Exit.then,if_pos]
     rename_i K hK
     refine hK _ _ (zbu (c':=codeR prog [1,1,1,1,80]) (by kernel_rfl) ?_)
     have d2:(u64v 2).den (zbw 0 0 s ⟨0,0,false⟩ ⟨0,0,false⟩ undef)=s:=zav hs0 hs1
     generalize zbw 0 0 s ⟨0,0,false⟩ ⟨0,0,false⟩ undef=ρ at*
     refine wp_mono (zam (ρ:=ρ) (K:=fun _=>False) (g:=Gho.none) (bl:= []) mixed rckt_run rckt_ok (fun b h=>h.elim) trivial trivial zas trivial trivial trivial hsz hdf ?_ (told_nil.2 trivial)) fun ex a3 w3 hh=> ?_
     ·intro t ht
      simp only [rckt_slots,List.mem_cons,List.not_mem_nil,or_false] at ht
      subst ht
      rw [h3];exact zab d2
     ·obtain ⟨q,hq,hto,lf,hlf,rfl,hsz3,j,hdf3,he⟩:=hh
      have hb3:=zag he (fun _ h=>h)
      unfold rckt_ps at hq
      simp only [List.mem_cons,List.not_mem_nil,or_false] at hq
      rcases hq with rfl|rfl
      all_goals
       simp only [told_cons_iff,told_nil,zcz,d2,zac,decide_eq_true_eq,decide_eq_false_iff_not,and_true] at hto
       cases hlf
       have h2:=zal he.ret
       simp only [AV.valL,AV.val,zac,List.map_cons,List.map_nil,List.cons.injEq,and_true] at h2
      ·exact zc6 (fn:=f80) (Post:=fun e w'=>e= .returned (.int .i64 (zaR false 0 l))∧RowKit.Below w.heap.size w w') hdf3 rfl h2 ⟨by rw [hV,if_pos (by omega)],hb.trans (hb3.mono hb.size)⟩
      ·exact zc6 (fn:=f80) (Post:=fun e w'=>e= .returned (.int .i64 (zaR false 0 l))∧RowKit.Below w.heap.size w w') hdf3 rfl h2 ⟨by rw [hV,if_neg (by omega)],hb.trans (hb3.mono hb.size)⟩
   | _=>obtain ⟨hsz,hdf,hb,⟨h,_⟩|⟨h,_⟩⟩:=hh<;>cases h
  ·exact ⟨Nat.zero_le _,rfl,rfl,rfl,rfl,Below.refl _ _,false,0,rfl,by decide,by decide,rfl,fun _=>rfl,fun i hi=>(by omega)⟩
end Go.Proofs
namespace Go.Proofs
open Go.Dw Go.RowKit
def Tryz.idL (l:List (SE×Nat)):AV:= .sx 0 (lnv 0) 1 l
def Tryz.idEl (n:Nat):Sh:= .ro [.int .i64 (.var n)]
def Tryz.mayE:Ent:=⟨50,[sl1 []],0,0,0,.int .i64 (.var 7),0⟩
def Tryz.dupLoop:LEnt:=⟨[0,1,1,0,0,1,0,0,1,0,1,1,1,1,39],103,0,[(0,idL [(lnv 1,1)]),(1,sl1 []),(7,.int .i64 (lnv 1)),(8,.int .i64 (.lit 0))],[],[],0,0,[⟨.lit true,.exit 2,[(0,idL [(lnv 1,1)]),(1,sl1 []),(7,.int .i64 (lnv 1))],0⟩]⟩
def Tryz.idLoop:LEnt:=⟨[0,1,0,1,1,1,1,39],103,0,[(0,idL []),(1,sl1 []),(7,.int .i64 (.lit 0))],[],[],0,0,[⟨.lit true,.exit 0,[(0,idL []),(1,sl1 [])],0⟩]⟩
def Tryz.putLoop:LEnt:=⟨[0,1,0,1,1,1,1,1,1,39],103,0,[(0,idL []),(1,sl1 []),(9,.nils),(10,.int .i64 (.lit 0))],[],[],1,1,[⟨.lit true,.exit 4,[(9,.opq 1 none)],2⟩]⟩
def Tryz.putA (base:Nat) (f nx:SE):AEnt:=⟨100,.cst 2 none,1,[.int .i64 (.var 9),.int .u64 (u64v 3),.int .u32 (u32v 4),.int .u16 f,.int .u16 nx],1,base,1,.opq base none,2⟩
end Go.Proofs
namespace Go.Proofs
open Go.Dw

def Tryz.dupb_ents:List Ent:= []
def Tryz.dupb_shs:List Sh:= [idEl 9,idEl 10]
def Tryz.dupb_slots:List (Nat×AV):= [(0,idL [(lnv 1,1),(lnv 2,2)]),(1,sl1 []),(7,.int .i64 (lnv 1)),(8,.int .i64 (lnv 2))]
def Tryz.dupb_lents:List LEnt:= []
def Tryz.dupb_aents:List AEnt:= []
def Tryz.dupb_dfr:Option AV:=none
def Tryz.dupb_asm:List (SB×Bool):= [(.cmp .lss (lnv 1) (lnv 0),true),(.cmp .lss (lnv 2) (lnv 0),true),(.cmp .lss (lnv 2) (lnv 1),true),(.cmp .eql (.var 10) (.var 9),false)]
def Tryz.dupb_ls:List CLeaf:= [
 ⟨.normal,[0,1,7,8],none,⟨.tup [.sx 0 ((lnv 0)) 1 [((lnv 1),1),((lnv 2),2)],.sx 1 ((lnv 0)) 3 [],.int .i64 (lnv 1),.int .i64 (.bin .add .i64 (lnv 2) (.lit 1))],[],[],0,[]⟩⟩]
def Tryz.dupb_ps:List (List (SB×Bool)×Nat):= [
 ([], 0)]
theorem Tryz.dupb_run:(evL prog (entOrc dupb_ents) (zao dupb_lents) (aentOrc dupb_aents) 100000 (.code (codeR prog [0,0,1,1,0,0,1,0,0,1,0,1,1,1,1,39]) [0,0,1,1,0,0,1,0,0,1,0,1,1,1,1,39] 103 (envS 103 dupb_slots dupb_dfr) (zaj 0 dupb_shs) (cleafAt dupb_ls 0))).ways dupb_asm=some dupb_ps:=by kernel_rfl
theorem Tryz.dupb_ok:(shsSmall dupb_shs&&entsSmall dupb_ents&&lentsSmall dupb_lents&&aentsSmall dupb_aents&&slotsSmall dupb_slots&&cleavesExact dupb_ls&&zaq 103 dupb_slots&&Nat.ble 103 dslot&&dfrSmall dupb_dfr)=true:=by kernel_rfl

def Tryz.dupe_ents:List Ent:= []
def Tryz.dupe_shs:List Sh:= []
def Tryz.dupe_slots:List (Nat×AV):= [(0,idL []),(1,sl1 []),(7,.int .i64 (lnv 1)),(8,.int .i64 (lnv 2))]
def Tryz.dupe_lents:List LEnt:= []
def Tryz.dupe_aents:List AEnt:= []
def Tryz.dupe_dfr:Option AV:=none
def Tryz.dupe_asm:List (SB×Bool):= [(.cmp .lss (lnv 2) (lnv 1),false)]
def Tryz.dupe_ls:List CLeaf:= [
 ⟨(.exit 2),[0,1,7],none,⟨.tup [.sx 0 ((lnv 0)) 1 [],.sx 1 ((lnv 0)) 3 [],.int .i64 (lnv 1)],[],[],0,[]⟩⟩]
def Tryz.dupe_ps:List (List (SB×Bool)×Nat):= [
 ([], 0)]
theorem Tryz.dupe_run:(evL prog (entOrc dupe_ents) (zao dupe_lents) (aentOrc dupe_aents) 100000 (.code (codeR prog [0,0,1,1,0,0,1,0,0,1,0,1,1,1,1,39]) [0,0,1,1,0,0,1,0,0,1,0,1,1,1,1,39] 103 (envS 103 dupe_slots dupe_dfr) (zaj 0 dupe_shs) (cleafAt dupe_ls 0))).ways dupe_asm=some dupe_ps:=by kernel_rfl
theorem Tryz.dupe_ok:(shsSmall dupe_shs&&entsSmall dupe_ents&&lentsSmall dupe_lents&&aentsSmall dupe_aents&&slotsSmall dupe_slots&&cleavesExact dupe_ls&&zaq 103 dupe_slots&&Nat.ble 103 dslot&&dfrSmall dupe_dfr)=true:=by kernel_rfl

def Tryz.idb_ents:List Ent:= []
def Tryz.idb_shs:List Sh:= [idEl 9]
def Tryz.idb_slots:List (Nat×AV):= [(0,idL [(lnv 1,1)]),(1,sl1 []),(7,.int .i64 (lnv 1))]
def Tryz.idb_lents:List LEnt:= [dupLoop]
def Tryz.idb_aents:List AEnt:= []
def Tryz.idb_dfr:Option AV:=none
def Tryz.idb_asm:List (SB×Bool):= [(.cmp .lss (lnv 1) (lnv 0),true),(.cmp .lss (.var 9) (.lit 0),false),(.cmp .geq (.var 9) (.lit 32768),false)]
def Tryz.idb_ls:List CLeaf:= [
 ⟨.normal,[0,1,7],none,⟨.tup [.sx 0 ((lnv 0)) 1 [((lnv 1),1)],.sx 1 ((lnv 0)) 3 [],.int .i64 (.bin .add .i64 (lnv 1) (.lit 1))],[],[],0,[]⟩⟩]
def Tryz.idb_ps:List (List (SB×Bool)×Nat):= [
 ([], 0)]
theorem Tryz.idb_run:(evL prog (entOrc idb_ents) (zao idb_lents) (aentOrc idb_aents) 100000 (.code (codeR prog [0,0,1,0,1,1,1,1,39]) [0,0,1,0,1,1,1,1,39] 103 (envS 103 idb_slots idb_dfr) (zaj 0 idb_shs) (cleafAt idb_ls 0))).ways idb_asm=some idb_ps:=by kernel_rfl
theorem Tryz.idb_ok:(shsSmall idb_shs&&entsSmall idb_ents&&lentsSmall idb_lents&&aentsSmall idb_aents&&slotsSmall idb_slots&&cleavesExact idb_ls&&zaq 103 idb_slots&&Nat.ble 103 dslot&&dfrSmall idb_dfr)=true:=by kernel_rfl

def Tryz.idbe_ents:List Ent:= []
def Tryz.idbe_shs:List Sh:= []
def Tryz.idbe_slots:List (Nat×AV):= [(0,idL []),(1,sl1 []),(7,.int .i64 (lnv 1))]
def Tryz.idbe_lents:List LEnt:= []
def Tryz.idbe_aents:List AEnt:= []
def Tryz.idbe_dfr:Option AV:=none
def Tryz.idbe_asm:List (SB×Bool):= [(.cmp .lss (lnv 1) (lnv 0),false)]
def Tryz.idbe_ls:List CLeaf:= [
 ⟨(.exit 0),[0,1],none,⟨.tup [.sx 0 ((lnv 0)) 1 [],.sx 1 ((lnv 0)) 3 []],[],[],0,[]⟩⟩]
def Tryz.idbe_ps:List (List (SB×Bool)×Nat):= [
 ([], 0)]
theorem Tryz.idbe_run:(evL prog (entOrc idbe_ents) (zao idbe_lents) (aentOrc idbe_aents) 100000 (.code (codeR prog [0,0,1,0,1,1,1,1,39]) [0,0,1,0,1,1,1,1,39] 103 (envS 103 idbe_slots idbe_dfr) (zaj 0 idbe_shs) (cleafAt idbe_ls 0))).ways idbe_asm=some idbe_ps:=by kernel_rfl
theorem Tryz.idbe_ok:(shsSmall idbe_shs&&entsSmall idbe_ents&&lentsSmall idbe_lents&&aentsSmall idbe_aents&&slotsSmall idbe_slots&&cleavesExact idbe_ls&&zaq 103 idbe_slots&&Nat.ble 103 dslot&&dfrSmall idbe_dfr)=true:=by kernel_rfl

def Tryz.putbW_ents:List Ent:= []
def Tryz.putbW_shs:List Sh:= [idEl 9,idEl 10,ckEl 3 4 0]
def Tryz.putbW_slots:List (Nat×AV):= [(0,idL [(lnv 1,1),(.bin .add .i64 (lnv 1) (.lit 1),2)]),(1,sl1 [(lnv 1,3)]),(9,.cst 2 none),(10,.int .i64 (lnv 1))]
def Tryz.putbW_lents:List LEnt:= []
def Tryz.putbW_aents:List AEnt:= [putA 6 (.lit 3) (.wrap .u16 (.var 10))]
def Tryz.putbW_dfr:Option AV:=none
def Tryz.putbW_asm:List (SB×Bool):= [(.cmp .lss (lnv 1) (lnv 0),true),(.cmp .lss (.bin .add .i64 (lnv 1) (.lit 1)) (lnv 0),true),(.var 0,true)]
def Tryz.putbW_ls:List CLeaf:= [
 ⟨.normal,[0,1,9,10],none,⟨.tup [.sx 0 ((lnv 0)) 1 [((lnv 1),1),((.bin .add .i64 (lnv 1) (.lit 1)),2)],.sx 1 ((lnv 0)) 3 [((lnv 1),3)],.opq 6 none,.int .i64 (.bin .add .i64 (lnv 1) (.lit 1))],[],[],2,[]⟩⟩]
def Tryz.putbW_ps:List (List (SB×Bool)×Nat):= [
 ([], 0)]
theorem Tryz.putbW_run:(evL prog (entOrc putbW_ents) (zao putbW_lents) (aentOrc putbW_aents) 100000 (.code (codeR prog [0,0,1,0,1,1,1,1,1,1,39]) [0,0,1,0,1,1,1,1,1,1,39] 103 (envS 103 putbW_slots putbW_dfr) (zaj 1 putbW_shs) (cleafAt putbW_ls 0))).ways putbW_asm=some putbW_ps:=by kernel_rfl
theorem Tryz.putbW_ok:(shsSmall putbW_shs&&entsSmall putbW_ents&&lentsSmall putbW_lents&&aentsSmall putbW_aents&&slotsSmall putbW_slots&&cleavesExact putbW_ls&&zaq 103 putbW_slots&&Nat.ble 103 dslot&&dfrSmall putbW_dfr)=true:=by kernel_rfl

def Tryz.putbR_ents:List Ent:= []
def Tryz.putbR_shs:List Sh:= [idEl 9,idEl 10,ckEl 3 4 0]
def Tryz.putbR_slots:List (Nat×AV):= [(0,idL [(lnv 1,1),(.bin .add .i64 (lnv 1) (.lit 1),2)]),(1,sl1 [(lnv 1,3)]),(9,.cst 2 none),(10,.int .i64 (lnv 1))]
def Tryz.putbR_lents:List LEnt:= []
def Tryz.putbR_aents:List AEnt:= [putA 6 (.lit 1) (.wrap .u16 (.var 10))]
def Tryz.putbR_dfr:Option AV:=none
def Tryz.putbR_asm:List (SB×Bool):= [(.cmp .lss (lnv 1) (lnv 0),true),(.cmp .lss (.bin .add .i64 (lnv 1) (.lit 1)) (lnv 0),true),(.var 0,false)]
def Tryz.putbR_ls:List CLeaf:= [
 ⟨.normal,[0,1,9,10],none,⟨.tup [.sx 0 ((lnv 0)) 1 [((lnv 1),1),((.bin .add .i64 (lnv 1) (.lit 1)),2)],.sx 1 ((lnv 0)) 3 [((lnv 1),3)],.opq 6 none,.int .i64 (.bin .add .i64 (lnv 1) (.lit 1))],[],[],2,[]⟩⟩]
def Tryz.putbR_ps:List (List (SB×Bool)×Nat):= [
 ([], 0)]
theorem Tryz.putbR_run:(evL prog (entOrc putbR_ents) (zao putbR_lents) (aentOrc putbR_aents) 100000 (.code (codeR prog [0,0,1,0,1,1,1,1,1,1,39]) [0,0,1,0,1,1,1,1,1,1,39] 103 (envS 103 putbR_slots putbR_dfr) (zaj 1 putbR_shs) (cleafAt putbR_ls 0))).ways putbR_asm=some putbR_ps:=by kernel_rfl
theorem Tryz.putbR_ok:(shsSmall putbR_shs&&entsSmall putbR_ents&&lentsSmall putbR_lents&&aentsSmall putbR_aents&&slotsSmall putbR_slots&&cleavesExact putbR_ls&&zaq 103 putbR_slots&&Nat.ble 103 dslot&&dfrSmall putbR_dfr)=true:=by kernel_rfl

def Tryz.putlW_ents:List Ent:= []
def Tryz.putlW_shs:List Sh:= [idEl 9,ckEl 3 4 0]
def Tryz.putlW_slots:List (Nat×AV):= [(0,idL [(lnv 1,1)]),(1,sl1 [(lnv 1,2)]),(9,.cst 2 none),(10,.int .i64 (lnv 1))]
def Tryz.putlW_lents:List LEnt:= []
def Tryz.putlW_aents:List AEnt:= [putA 5 (.lit 2) (.lit 0)]
def Tryz.putlW_dfr:Option AV:=none
def Tryz.putlW_asm:List (SB×Bool):= [(.cmp .lss (lnv 1) (lnv 0),true),(.cmp .lss (.bin .add .i64 (lnv 1) (.lit 1)) (lnv 0),false),(.var 0,true)]
def Tryz.putlW_ls:List CLeaf:= [
 ⟨.normal,[0,1,9,10],none,⟨.tup [.sx 0 ((lnv 0)) 1 [((lnv 1),1)],.sx 1 ((lnv 0)) 3 [((lnv 1),2)],.opq 5 none,.int .i64 (.bin .add .i64 (lnv 1) (.lit 1))],[],[],2,[]⟩⟩]
def Tryz.putlW_ps:List (List (SB×Bool)×Nat):= [
 ([], 0)]
theorem Tryz.putlW_run:(evL prog (entOrc putlW_ents) (zao putlW_lents) (aentOrc putlW_aents) 100000 (.code (codeR prog [0,0,1,0,1,1,1,1,1,1,39]) [0,0,1,0,1,1,1,1,1,1,39] 103 (envS 103 putlW_slots putlW_dfr) (zaj 1 putlW_shs) (cleafAt putlW_ls 0))).ways putlW_asm=some putlW_ps:=by kernel_rfl
theorem Tryz.putlW_ok:(shsSmall putlW_shs&&entsSmall putlW_ents&&lentsSmall putlW_lents&&aentsSmall putlW_aents&&slotsSmall putlW_slots&&cleavesExact putlW_ls&&zaq 103 putlW_slots&&Nat.ble 103 dslot&&dfrSmall putlW_dfr)=true:=by kernel_rfl

def Tryz.putlR_ents:List Ent:= []
def Tryz.putlR_shs:List Sh:= [idEl 9,ckEl 3 4 0]
def Tryz.putlR_slots:List (Nat×AV):= [(0,idL [(lnv 1,1)]),(1,sl1 [(lnv 1,2)]),(9,.cst 2 none),(10,.int .i64 (lnv 1))]
def Tryz.putlR_lents:List LEnt:= []
def Tryz.putlR_aents:List AEnt:= [putA 5 (.lit 0) (.lit 0)]
def Tryz.putlR_dfr:Option AV:=none
def Tryz.putlR_asm:List (SB×Bool):= [(.cmp .lss (lnv 1) (lnv 0),true),(.cmp .lss (.bin .add .i64 (lnv 1) (.lit 1)) (lnv 0),false),(.var 0,false)]
def Tryz.putlR_ls:List CLeaf:= [
 ⟨.normal,[0,1,9,10],none,⟨.tup [.sx 0 ((lnv 0)) 1 [((lnv 1),1)],.sx 1 ((lnv 0)) 3 [((lnv 1),2)],.opq 5 none,.int .i64 (.bin .add .i64 (lnv 1) (.lit 1))],[],[],2,[]⟩⟩]
def Tryz.putlR_ps:List (List (SB×Bool)×Nat):= [
 ([], 0)]
theorem Tryz.putlR_run:(evL prog (entOrc putlR_ents) (zao putlR_lents) (aentOrc putlR_aents) 100000 (.code (codeR prog [0,0,1,0,1,1,1,1,1,1,39]) [0,0,1,0,1,1,1,1,1,1,39] 103 (envS 103 putlR_slots putlR_dfr) (zaj 1 putlR_shs) (cleafAt putlR_ls 0))).ways putlR_asm=some putlR_ps:=by kernel_rfl
theorem Tryz.putlR_ok:(shsSmall putlR_shs&&entsSmall putlR_ents&&lentsSmall putlR_lents&&aentsSmall putlR_aents&&slotsSmall putlR_slots&&cleavesExact putlR_ls&&zaq 103 putlR_slots&&Nat.ble 103 dslot&&dfrSmall putlR_dfr)=true:=by kernel_rfl

def Tryz.pute_ents:List Ent:= []
def Tryz.pute_shs:List Sh:= []
def Tryz.pute_slots:List (Nat×AV):= [(0,idL []),(1,sl1 []),(9,.cst 2 none),(10,.int .i64 (lnv 1))]
def Tryz.pute_lents:List LEnt:= []
def Tryz.pute_aents:List AEnt:= []
def Tryz.pute_dfr:Option AV:=none
def Tryz.pute_asm:List (SB×Bool):= [(.cmp .lss (lnv 1) (lnv 0),false)]
def Tryz.pute_ls:List CLeaf:= [
 ⟨(.exit 4),[9],none,⟨.tup [.cst 2 none],[],[],0,[]⟩⟩]
def Tryz.pute_ps:List (List (SB×Bool)×Nat):= [
 ([], 0)]
theorem Tryz.pute_run:(evL prog (entOrc pute_ents) (zao pute_lents) (aentOrc pute_aents) 100000 (.code (codeR prog [0,0,1,0,1,1,1,1,1,1,39]) [0,0,1,0,1,1,1,1,1,1,39] 103 (envS 103 pute_slots pute_dfr) (zaj 0 pute_shs) (cleafAt pute_ls 0))).ways pute_asm=some pute_ps:=by kernel_rfl
theorem Tryz.pute_ok:(shsSmall pute_shs&&entsSmall pute_ents&&lentsSmall pute_lents&&aentsSmall pute_aents&&slotsSmall pute_slots&&cleavesExact pute_ls&&zaq 103 pute_slots&&Nat.ble 103 dslot&&dfrSmall pute_dfr)=true:=by kernel_rfl

def Tryz.rspl_ents:List Ent:= [mayE]
def Tryz.rspl_shs:List Sh:= []
def Tryz.rspl_args:List AV:= [idL [],sl1 []]
def Tryz.rspl_lents:List LEnt:= [idLoop,putLoop]
def Tryz.rspl_aents:List AEnt:= []
def Tryz.rspl_asm:List (SB×Bool):= [(.cmp .neq (.var 7) (.lit 0),false)]
def Tryz.rspl_ls:List Leaf:= [
 ⟨.tup [.opq 1 none,.int .i64 (.lit 0)],[],[],2,[]⟩]
def Tryz.rspl_ps:List (List (SB×Bool)×Nat):= [
 ([], 0)]
theorem Tryz.rspl_run:(evL prog (entOrc rspl_ents) (zao rspl_lents) (aentOrc rspl_aents) 100000 (.call 39 rspl_args (zaj 0 rspl_shs) (leafAt rspl_ls 0))).ways rspl_asm=some rspl_ps:=by kernel_rfl
theorem Tryz.rspl_ok:(shsSmall rspl_shs&&entsSmall rspl_ents&&lentsSmall rspl_lents&&aentsSmall rspl_aents&&AV.smallL rspl_args&&leavesExact rspl_ls)=true:=by kernel_rfl

def Tryz.rsplE_ents:List Ent:= [mayE]
def Tryz.rsplE_shs:List Sh:= []
def Tryz.rsplE_args:List AV:= [idL [],sl1 []]
def Tryz.rsplE_asm:List (SB×Bool):= [(.cmp .neq (.var 7) (.lit 0),true)]
def Tryz.rsplE_ls:List Leaf:= [
 ⟨.tup [.nils,.int .i64 (.var 7)],[],[],0,[]⟩]
def Tryz.rsplE_ps:List (List (SB×Bool)×Nat):= [
 ([], 0)]
theorem Tryz.rsplE_run:(ev prog (entOrc rsplE_ents) 100000 (.call 39 rsplE_args (zaj 0 rsplE_shs) (leafAt rsplE_ls 0))).ways rsplE_asm=some rsplE_ps:=by kernel_rfl
theorem Tryz.rsplE_ok:(shsSmall rsplE_shs&&entsSmall rsplE_ents&&AV.smallL rsplE_args&&leavesExact rsplE_ls)=true:=by kernel_rfl
end Go.Proofs
namespace Go.Proofs
open Go.Dw Go.RowKit Go.Maps Go.Sort

def Tryz.zaG (ids:List Int):List Value:=ids.map fun x=> .int .i64 x
theorem Tryz.zcO {w:World} {I o:Nat} {ids:List Int} (h:w.rangeAt I o (zaG ids)) (k:Nat) (hk:k<ids.length):w.rangeAt I (o+1*k) [.int .i64 ids[k]]:=fun j v hv=>by
 match j,hv with
 | 0,hv=>
  cases hv
  have:=h k (.int .i64 ids[k]) (by simp [zaG,hk])
  rw [show o+1*k+0=o+k by omega]
  exact this
 | j+1,hv=>cases hv
theorem Tryz.zqc {w:World} {I o:Nat} {ids:List Int} (h:w.rangeAt I o (zaG ids)) {k:Nat} (hk:k<ids.length):I<w.heap.size:=World.block_lt_of_cell? w _ (zcO h k hk 0 _ rfl)
def Tryz.OwnR (t:TypeId) (sz:Nat) (w:World) (b2:Nat) (v:Value) (n:Nat) (cs:List Value):Prop:=w.ownsRow b2 t sz v n cs
theorem Tryz.OwnR.kept {t:TypeId} {sz n:Nat} {w w':World} {b2:Nat} {v:Value} {cs:List Value} (h:OwnR t sz w b2 v n cs) (hb: ∀b,v.ownBlock=some b→w'.heap[b]? =w.heap[b]?):OwnR t sz w' b2 v n cs:=by
 obtain ⟨h1,h2⟩:=h
 refine ⟨h1,?_⟩
 rcases h2 with h2|⟨G,cap,cur,e,h3,h4,h5⟩
 ·exact .inl h2
 ·exact .inr ⟨G,cap,cur,e,h3,by rw [hb G (by rw [e];rfl)];exact h4,h5⟩
theorem Tryz.OwnR.lt {t:TypeId} {sz n:Nat} {w:World} {b2:Nat} {v:Value} {cs:List Value} (h:OwnR t sz w b2 v n cs): ∀b,v.ownBlock=some b→b2≤b∧b<w.heap.size:=fun b hb=>by
 obtain ⟨h1,h2⟩:=h
 rcases h2 with ⟨rfl,_⟩|⟨G,cap,cur,rfl,h3,h4,h5⟩
 ·cases hb
 ·cases hb;exact ⟨h3,(Array.getElem?_eq_some_iff.1 h4).1⟩
theorem Tryz.OwnR.one {t:TypeId} {sz n:Nat} {w:World} {b2:Nat} {v:Value} {cs:List Value} (h:OwnR t sz w b2 v n cs):v.oneCell'=true:=by
 obtain ⟨h1,h2⟩:=h
 rcases h2 with ⟨rfl,h2⟩|⟨G,cap,cur,rfl,_⟩<;>rfl
theorem Tryz.OwnR.mono {t:TypeId} {sz n:Nat} {w:World} {b1 b2:Nat} {v:Value} {cs:List Value} (h:OwnR t sz w b2 v n cs) (hb:b1≤b2):OwnR t sz w b1 v n cs:=by
 obtain ⟨h1,h2⟩:=h
 refine ⟨h1,?_⟩
 rcases h2 with h2|⟨G,cap,cur,e,h3,h4⟩
 ·exact .inl h2
 ·exact .inr ⟨G,cap,cur,e,Nat.le_trans hb h3,h4⟩
theorem Tryz.OwnR.nil (t:TypeId) (sz:Nat) (w:World) (b2:Nat):OwnR t sz w b2 (.slice none 0 0) 0 []:=⟨by simp,.inl ⟨rfl,rfl⟩⟩
theorem Tryz.OwnR.row {t:TypeId} {sz n:Nat} {w:World} {b2:Nat} {v:Value} {cs:List Value} (h:OwnR t sz w b2 v n cs): ∃sa c,v= .slice sa n c∧(cs= []∨ ∃G,sa=some ⟨G,0,none⟩∧v.ownBlock=some G∧w.rangeAt G 0 cs):=by
 obtain ⟨h1,h2⟩:=h
 rcases h2 with ⟨rfl,h2⟩|⟨G,cap,cur,rfl,h3,h4,h5,h6,h7,h8⟩
 ·refine ⟨none,0,by rw [h2],.inl ?_⟩
  rw [h2,Nat.zero_mul] at h1
  exact List.length_eq_zero_iff.1 h1
 ·refine ⟨_,cap,rfl,.inr ⟨G,rfl,rfl,fun i y hy=> ?_⟩⟩
  have hlt:i<cs.length:=(List.getElem?_eq_some_iff.1 hy).1
  rw [←h8] at hy
  rw [List.getElem?_take_of_lt (by omega)] at hy
  simp only [World.cell?,h4,Nat.zero_add]
  simpa using hy
structure Tryz.Pt where
 at0:Int
 a:Int
 ln:Int
 f:Int
 nx:Int
def Tryz.Pt.cells (p:Pt):List Value:= [.int .i64 p.at0,.int .u64 p.a,.int .u32 p.ln,.int .u16 p.f,.int .u16 p.nx]
def Tryz.putAt (ids:List Int) (l:List Sg) (k:Nat):Pt:=
 ⟨ids.getD k 0,(l.getD k ⟨0,0,false⟩).at1,(l.getD k ⟨0,0,false⟩).len,(if (l.getD k ⟨0,0,false⟩).wr then 2 else 0)+(if k+1<l.length then 1 else 0),if k+1<l.length then ids.getD (k+1) 0%65536 else 0⟩
def Tryz.zaS (ids:List Int) (l:List Sg) (k:Nat):List Pt:=(List.range k).map (putAt ids l)
def Tryz.zcq (ps:List Pt):List Value:=ps.flatMap Pt.cells
theorem Tryz.zkZ (ids:List Int) (l:List Sg) (k:Nat):zaS ids l (k+1)=zaS ids l k++ [putAt ids l k]:=by simp [zaS,List.range_succ]
theorem Tryz.zc2 (ids:List Int) (l:List Sg) (k:Nat):(zaS ids l k).length=k:=by simp [zaS]
def Tryz.zi6 (w:World) (b2:Nat) (v:Value) (ps:List Pt):Prop:=OwnR 104 5 w b2 v ps.length (zcq ps)
def Tryz.zsi (b2:Nat) (v:Value) (ps:List Pt) (F:Nat→Prop) (w:World):Prop:=zi6 w b2 v ps∧ ∀b,v.ownBlock=some b→F b
def Tryz.rsG (sa:Option Addr) (ls:List Sg) (b2 base:Nat) (v:Value) (p1 p2:List Pt):Gho where
 fact k q F w:=SegF F w sa ls∧(match k with|0=>True|1=>zsi b2 v p1 F w|_=> ∃u,q base=some u∧zsi b2 u p2 F w)
 loc:=fun k q q' F w w' h hq hb hs=>by
  obtain ⟨h0,h⟩:=h
  refine ⟨h0.kept hb,?_⟩
  match k,h with
  | 0,_=>trivial
  | 1,⟨h7,h8⟩=>exact ⟨OwnR.kept h7 fun b e=>hb b (h8 b e),h8⟩
  | k+2,⟨u,h7,h8,h9⟩=>exact ⟨u,hq _ _ h7,OwnR.kept h8 fun b e=>hb b (h9 b e),h9⟩
def Tryz.zhq (n k i e x9 x10:Int) (x:Sg) (iv sv ov:Value):Val:=vof [n,k,i,x.at1,x.len,0,0,e,0,x9,x10] [x.wr] [iv,sv,ov]
structure Tryz.SpD (ρ:Val) (n k i e x9 x10:Int) (x:Sg) (iv sv ov:Value):Prop where
 d0:(lnv 0).den ρ=n
 d1:(lnv 1).den ρ=k
 d2:(lnv 2).den ρ=i
 d3:(u64v 3).den ρ=x.at1
 d4:(u32v 4).den ρ=x.len
 i7:ρ.i 7=e
 i9:ρ.i 9=x9
 i10:ρ.i 10=x10
 b0:ρ.b 0=x.wr
 v0:ρ.v 0=iv
 v1:ρ.v 1=sv
 v2:ρ.v 2=ov
theorem Tryz.spD {n k i e x9 x10:Int} {x:Sg} {iv sv ov:Value} (hn:0≤n∧n<64000) (hk:0≤k∧k<64000) (hi:0≤i∧i<64000) (hx:x.ok):SpD (zhq n k i e x9 x10 x iv sv ov) n k i e x9 x10 x iv sv ov:=
 ⟨zaB hn.1 (by show n<_;omega),zaB hk.1 (by show k<_;omega),zaB hi.1 (by show i<_;omega),zav hx.1 hx.2.1,zbp hx.2.2.1 hx.2.2.2,rfl,rfl,rfl,rfl,rfl,rfl,rfl⟩
theorem Tryz.okSg0:(⟨0,1,false⟩:Sg).ok:=⟨by decide,by decide,by decide,by decide⟩
theorem Tryz.zqd {ρ:Val} {j:J} {ia:Option Addr} {n c:Nat} (hv:ρ.v 0= .slice ia n c) (hd:(lnv 0).den ρ=n):Dw.R ρ j (idL []) (.slice ia n c):=⟨hv.symm,ia,n,c,rfl,hd.symm,trivial⟩
set_option maxRecDepth 10000 in
set_option maxHeartbeats 1000000 in
theorem Tryz.zqi {ρ:Val} {w0:World} {K:Nat→Prop} {g:Gho} {ia sa:Option Addr} {ids:List Int} {c cs k:Nat} (hn:ids.length≤60000) (hnd:ids.Nodup) (hk:k<ids.length) (hK: ∀b,¬K b) (hr: ∃I o,ia=some ⟨I,o,none⟩∧w0.rangeAt I o (zaG ids))
  (hv0:ρ.v 0= .slice ia ids.length c) (hv1:ρ.v 1= .slice sa ids.length cs) (d0:(lnv 0).den ρ=ids.length) (d1:(lnv 1).den ρ=k):
  zgc prog ρ w0 K g dupLoop:=by
 refine zct rfl (fun d hd=>by unfold dupLoop at hd;simp at hd;rw [hd];rfl) fun cc hc j a w F hsz hdf hsl _ hf hs0 hold=> ?_
 have hsl0:=(hsl (0,idL [(lnv 1,1)]) (by simp [dupLoop])).2
 have hsl1:=(hsl (1,sl1 []) (by simp [dupLoop])).2
 have g0:=R_val rfl hsl0
 have g1:=R_val rfl hsl1
 have g7:=R_val rfl (hsl (7,.int .i64 (lnv 1)) (by simp [dupLoop])).2
 have g8:=R_val rfl (hsl (8,.int .i64 (.lit 0)) (by simp [dupLoop])).2
 simp only [AV.val,idL,sl1,hv0,hv1,d1,zac] at g0 g1 g7 g8
 have hcc:cc=codeR prog [0,0,1,1,0,0,1,0,0,1,0,1,1,1,1,39]:=by
  have:=zcU (P:=prog) (p:= [0,1,1,0,0,1,0,0,1,0,1,1,1,1,39]) (by kernel_rfl)
  have hc:codeR prog [0,1,1,0,0,1,0,0,1,0,1,1,1,1,39]= .loop cc:=hc
  rw [hc] at this
  injection this
 subst hcc
 have hsz:a.tmps.size=103:=hsz
 refine zbd (fun (i:Nat) a' w'=>i≤k∧a'.tmps.size=103∧a'.defers= []∧a'.tmps.getD 0 undef= .slice ia ids.length c∧a'.tmps.getD 1 undef= .slice sa ids.length cs∧a'.tmps.getD 7 undef= .int .i64 k∧a'.tmps.getD 8 undef= .int .i64 i∧Below w.heap.size w w')
  (fun i=>k-i) (fun i a1 w1 hI=> ?_) 0 a w ⟨Nat.zero_le _,hsz,hdf,g0,g1,g7,by rw [g8];rfl,Below.refl _ _⟩
 obtain ⟨hik,q0,qd,qi,qs,q7,q8,hb⟩:=hI
 by_cases hlt:i<k
 ·obtain ⟨I,o,rfl,hr⟩:=hr
  have hIl:=zqc hr hk
  have hr1:=zat hr ((hb.block I (by omega)).trans (hold I hIl (hK I)))
  have hx9:=zcO hr1 k hk
  have hx10:=zcO hr1 i (by omega)
  have hne:ids[i]≠ids[k]:=List.pairwise_iff_getElem.1 hnd i k (by omega) hk hlt
  have D:=spD (n:=ids.length) (k:=k) (i:=i) (e:=0) (x9:=ids[k]) (x10:=ids[i]) (x:=⟨0,1,false⟩) (iv:= .slice (some ⟨I,o,none⟩) ids.length c) (sv:= .slice sa ids.length cs) (ov:=undef) (by omega) (by omega) (by omega) okSg0
  generalize zhq ids.length k i 0 ids[k] ids[i] ⟨0,1,false⟩ (.slice (some ⟨I,o,none⟩) ids.length c) (.slice sa ids.length cs) undef=ρ' at D
  have hj1:jOf [(I,o+1*k),(I,o+1*i)] 1=some ⟨I,o+1*k,0,none⟩:=rfl
  have hj2:jOf [(I,o+1*k),(I,o+1*i)] 2=some ⟨I,o+1*i,0,none⟩:=rfl
  refine wp_mono (zam (ρ:=ρ') (K:=fun _=>False) (g:=Gho.none) (bl:= [(I,o+1*k),(I,o+1*i)]) mixed dupb_run dupb_ok (fun b h=>h.elim)
   ⟨zaw hx9 (by simp) (zaa (zab D.i9) RL.nil) (fun h=>h),zaw hx10 (by simp) (zaa (zab D.i10) RL.nil) (fun h=>h),trivial⟩
   ⟨fun h=>(by cases h),fun h=>(by cases h),trivial⟩ zas trivial trivial trivial q0 qd ?_
   (told_cons_iff.2 ⟨by rw [zaz,D.d0,D.d1];simp only [decide_eq_true_eq];omega,told_cons_iff.2 ⟨by rw [zaz,D.d0,D.d2];simp only [decide_eq_true_eq];omega,told_cons_iff.2 ⟨by rw [zaz,D.d1,D.d2];simp only [decide_eq_true_eq];omega,told_cons_iff.2 ⟨by rw [zbm,zai,zai,D.i9,D.i10];simpa using hne,told_nil.2 trivial⟩⟩⟩⟩)) fun ex a2 w2 hh=> ?_
  ·intro t ht
   simp only [dupb_slots,List.mem_cons,List.not_mem_nil,or_false] at ht
   rcases ht with rfl|rfl|rfl|rfl
   ·rw [qi];exact ⟨D.v0.symm,_,_,_,rfl,D.d0.symm,⟨I,o,_,k,rfl,hj1,rfl,D.d1,hk,rfl⟩,⟨I,o,_,i,rfl,hj2,rfl,D.d2,by omega,rfl⟩,trivial⟩
   ·rw [qs];exact ⟨D.v1.symm,_,_,_,rfl,D.d0.symm,trivial⟩
   ·rw [q7];exact zab D.d1
   ·rw [q8];exact zab D.d2
  ·obtain ⟨q,hq,hto,lf,hlf,rfl,hsz2,j2,hdf2,he⟩:=hh
   have hb3:=zag he (fun _ h=>h)
   have hwi:=zca i (by omega)
   unfold dupb_ps at hq
   simp only [List.mem_cons,List.not_mem_nil,or_false] at hq
   subst hq
   cases hlf
   have hs2:=zal he.ret
   simp only [AV.valL,AV.val,D.d0,D.d1,D.d2,D.v0,D.v1,den_add,zac,hwi,List.map_cons,List.map_nil,List.cons.injEq,and_true] at hs2
   obtain ⟨p0,p1',p7,p8⟩:=hs2
   exact ⟨i+1,by omega,by omega,hsz2,hdf2,p0,p1',p7,p8,hb.trans (hb3.mono hb.size)⟩
 ·have hkk:i=k:=by omega
  subst hkk
  have D:=spD (n:=ids.length) (k:=i) (i:=i) (e:=0) (x9:=0) (x10:=0) (x:=⟨0,1,false⟩) (iv:= .slice ia ids.length c) (sv:= .slice sa ids.length cs) (ov:=undef) (by omega) (by omega) (by omega) okSg0
  generalize zhq ids.length i i 0 0 0 ⟨0,1,false⟩ (.slice ia ids.length c) (.slice sa ids.length cs) undef=ρ' at D
  refine wp_mono (zam (ρ:=ρ') (K:=fun _=>False) (g:=Gho.none) (bl:= []) mixed dupe_run dupe_ok (fun b h=>h.elim) trivial trivial zas trivial trivial trivial q0 qd ?_ (told_cons_iff.2 ⟨by rw [zaz,D.d1,D.d2];simp,told_nil.2 trivial⟩)) fun ex a2 w2 hh=> ?_
  ·intro t ht
   simp only [dupe_slots,List.mem_cons,List.not_mem_nil,or_false] at ht
   rcases ht with rfl|rfl|rfl|rfl
   ·rw [qi];exact zqd D.v0 D.d0
   ·rw [qs];exact ⟨D.v1.symm,_,_,_,rfl,D.d0.symm,trivial⟩
   ·rw [q7];exact zab D.d1
   ·rw [q8];exact zab D.d2
  ·obtain ⟨q,hq,hto,lf,hlf,rfl,hsz2,j2,hdf2,he⟩:=hh
   have hb3:=zag he (fun _ h=>h)
   unfold dupe_ps at hq
   simp only [List.mem_cons,List.not_mem_nil,or_false] at hq
   subst hq
   cases hlf
   have hs2:=zal he.ret
   simp only [AV.valL,AV.val,D.d1,D.v0,D.v1,List.map_cons,List.map_nil,List.cons.injEq,and_true] at hs2
   obtain ⟨p0,p1',p7⟩:=hs2
   refine ⟨_,by unfold dupLoop;rw [zaT,if_pos (show SB.den ρ (.lit true)=true from rfl)],rfl,hsz2,hdf2,(fun t ht=>by cases ht),fun s hs=> ?_,hb.trans (hb3.mono hb.size)⟩
   simp only [List.mem_cons,List.not_mem_nil,or_false] at hs
   rcases hs with rfl|rfl|rfl
   ·rw [p0,←g0];exact hsl0
   ·rw [p1',←g1];exact hsl1
   ·rw [p7];exact zab d1
set_option maxRecDepth 10000 in
set_option maxHeartbeats 1000000 in
theorem Tryz.zrF {ρ:Val} {w0:World} {K:Nat→Prop} {g:Gho} {ia sa:Option Addr} {ids:List Int} {c cs:Nat} (hn:ids.length≤60000) (hnd:ids.Nodup) (hK: ∀b,¬K b) (hr:ids= []∨ ∃I o,ia=some ⟨I,o,none⟩∧w0.rangeAt I o (zaG ids)) (hin: ∀x∈ids,0≤x∧x<32768)
  (hv0:ρ.v 0= .slice ia ids.length c) (hv1:ρ.v 1= .slice sa ids.length cs) (d0:(lnv 0).den ρ=ids.length):
  zgc prog ρ w0 K g idLoop:=by
 refine zct rfl (fun d hd=>by unfold idLoop at hd;simp at hd;rw [hd];rfl) fun cc hc j a w F hsz hdf hsl _ hf hs0 hold=> ?_
 have hsl0:=(hsl (0,idL []) (by simp [idLoop])).2
 have hsl1:=(hsl (1,sl1 []) (by simp [idLoop])).2
 have g0:=R_val rfl hsl0
 have g1:=R_val rfl hsl1
 have g7:=R_val rfl (hsl (7,.int .i64 (.lit 0)) (by simp [idLoop])).2
 simp only [AV.val,idL,sl1,hv0,hv1,zac] at g0 g1 g7
 have hcc:cc=codeR prog [0,0,1,0,1,1,1,1,39]:=by
  have:=zcU (P:=prog) (p:= [0,1,0,1,1,1,1,39]) (by kernel_rfl)
  have hc:codeR prog [0,1,0,1,1,1,1,39]= .loop cc:=hc
  rw [hc] at this
  injection this
 subst hcc
 have hsz:a.tmps.size=103:=hsz
 refine zbd (fun (k:Nat) a' w'=>k≤ids.length∧a'.tmps.size=103∧a'.defers= []∧a'.tmps.getD 0 undef= .slice ia ids.length c∧a'.tmps.getD 1 undef= .slice sa ids.length cs∧a'.tmps.getD 7 undef= .int .i64 k∧Below w.heap.size w w')
  (fun k=>ids.length-k) (fun k a1 w1 hI=> ?_) 0 a w ⟨Nat.zero_le _,hsz,hdf,g0,g1,by rw [g7];rfl,Below.refl _ _⟩
 obtain ⟨hkl,q0,qd,qi,qs,q7,hb⟩:=hI
 by_cases hk:k<ids.length
 ·rcases hr with h0|⟨I,o,rfl,hr⟩
  ·rw [h0] at hk;simp at hk
  have hIl:=zqc hr hk
  have hr1:=zat hr ((hb.block I (by omega)).trans (hold I hIl (hK I)))
  have hx9:=zcO hr1 k hk
  have h9:=hin ids[k] (List.getElem_mem hk)
  have D:=spD (n:=ids.length) (k:=k) (i:=0) (e:=0) (x9:=ids[k]) (x10:=0) (x:=⟨0,1,false⟩) (iv:= .slice (some ⟨I,o,none⟩) ids.length c) (sv:= .slice sa ids.length cs) (ov:=undef) (by omega) (by omega) (by omega) okSg0
  generalize zhq ids.length k 0 0 ids[k] 0 ⟨0,1,false⟩ (.slice (some ⟨I,o,none⟩) ids.length c) (.slice sa ids.length cs) undef=ρ' at D
  have hj1:jOf [(I,o+1*k)] 1=some ⟨I,o+1*k,0,none⟩:=rfl
  refine wp_mono (zam (ρ:=ρ') (K:=fun _=>False) (g:=Gho.none) (bl:= [(I,o+1*k)]) mixed idb_run idb_ok (fun b h=>h.elim)
   ⟨zaw hx9 (by simp) (zaa (zab D.i9) RL.nil) (fun h=>h),trivial⟩
   ⟨fun h=>(by cases h),trivial⟩ zas trivial ⟨zqi hn hnd hk (fun _ h=>h) ⟨I,o,rfl,hr1⟩ D.v0 D.v1 D.d0 D.d1,trivial⟩ trivial q0 qd ?_
   (told_cons_iff.2 ⟨by rw [zaz,D.d0,D.d1];simp only [decide_eq_true_eq];omega,told_cons_iff.2 ⟨by rw [zaz,zai,zac,D.i9];simp only [decide_eq_false_iff_not];omega,told_cons_iff.2 ⟨by rw [zcz,zai,zac,D.i9];simp only [decide_eq_false_iff_not];omega,told_nil.2 trivial⟩⟩⟩)) fun ex a2 w2 hh=> ?_
  ·intro t ht
   simp only [idb_slots,List.mem_cons,List.not_mem_nil,or_false] at ht
   rcases ht with rfl|rfl|rfl
   ·rw [qi];exact ⟨D.v0.symm,_,_,_,rfl,D.d0.symm,⟨I,o,_,k,rfl,hj1,rfl,D.d1,hk,rfl⟩,trivial⟩
   ·rw [qs];exact ⟨D.v1.symm,_,_,_,rfl,D.d0.symm,trivial⟩
   ·rw [q7];exact zab D.d1
  ·obtain ⟨q,hq,hto,lf,hlf,rfl,hsz2,j2,hdf2,he⟩:=hh
   have hb3:=zag he (fun _ h=>h)
   have hwk:=zca k (by omega)
   unfold idb_ps at hq
   simp only [List.mem_cons,List.not_mem_nil,or_false] at hq
   subst hq
   cases hlf
   have hs2:=zal he.ret
   simp only [AV.valL,AV.val,D.d0,D.d1,D.v0,D.v1,den_add,zac,hwk,List.map_cons,List.map_nil,List.cons.injEq,and_true] at hs2
   obtain ⟨p0,p1',p7⟩:=hs2
   exact ⟨k+1,by omega,by omega,hsz2,hdf2,p0,p1',p7,hb.trans (hb3.mono hb.size)⟩
 ·have hkk:k=ids.length:=by omega
  subst hkk
  have D:=spD (n:=ids.length) (k:=ids.length) (i:=0) (e:=0) (x9:=0) (x10:=0) (x:=⟨0,1,false⟩) (iv:= .slice ia ids.length c) (sv:= .slice sa ids.length cs) (ov:=undef) (by omega) (by omega) (by omega) okSg0
  generalize zhq ids.length ids.length 0 0 0 0 ⟨0,1,false⟩ (.slice ia ids.length c) (.slice sa ids.length cs) undef=ρ' at D
  refine wp_mono (zam (ρ:=ρ') (K:=fun _=>False) (g:=Gho.none) (bl:= []) mixed idbe_run idbe_ok (fun b h=>h.elim) trivial trivial zas trivial trivial trivial q0 qd ?_ (told_cons_iff.2 ⟨by rw [zaz,D.d0,D.d1];simp,told_nil.2 trivial⟩)) fun ex a2 w2 hh=> ?_
  ·intro t ht
   simp only [idbe_slots,List.mem_cons,List.not_mem_nil,or_false] at ht
   rcases ht with rfl|rfl|rfl
   ·rw [qi];exact zqd D.v0 D.d0
   ·rw [qs];exact ⟨D.v1.symm,_,_,_,rfl,D.d0.symm,trivial⟩
   ·rw [q7];exact zab D.d1
  ·obtain ⟨q,hq,hto,lf,hlf,rfl,hsz2,j2,hdf2,he⟩:=hh
   have hb3:=zag he (fun _ h=>h)
   unfold idbe_ps at hq
   simp only [List.mem_cons,List.not_mem_nil,or_false] at hq
   subst hq
   cases hlf
   have hs2:=zal he.ret
   simp only [AV.valL,AV.val,D.v0,D.v1,List.map_cons,List.map_nil,List.cons.injEq,and_true] at hs2
   obtain ⟨p0,p1'⟩:=hs2
   refine ⟨_,by unfold idLoop;rw [zaT,if_pos (show SB.den ρ (.lit true)=true from rfl)],rfl,hsz2,hdf2,(fun t ht=>by cases ht),fun s hs=> ?_,hb.trans (hb3.mono hb.size)⟩
   simp only [List.mem_cons,List.not_mem_nil,or_false] at hs
   rcases hs with rfl|rfl
   ·rw [p0,←g0];exact hsl0
   ·rw [p1',←g1];exact hsl1
end Go.Proofs
namespace Go.Proofs
open Go.Dw Go.RowKit Go.Maps Go.Sort

theorem Tryz.infoPut:(prog.info? 104).map (fun i=>(i.zero.isSome,i.size,i.bytes))=some (true,5,24):=by kernel_rfl
theorem Tryz.infoPutZ:((prog.info? 104).bind (·.zero)).map (·.cells.size)=some 5:=by kernel_rfl
set_option maxRecDepth 10000 in
theorem Tryz.zir {ρ:Val} {w0:World} {K:Nat→Prop} {b2 base:Nat} {v:Value} {p1:List Pt} {p:Pt} {f nx:SE} (hv2:ρ.v 2=v) (h9:ρ.i 9=p.at0) (h3:(u64v 3).den ρ=p.a) (h4:(u32v 4).den ρ=p.ln) (hf:f.den ρ=p.f) (hnx:nx.den ρ=p.nx)
  (hb2:b2≤w0.heap.size) (hK: ∀b,v.ownBlock=some b→K b) (hl:p1.length≤100000):zqB prog ρ w0 K (rsG none [] b2 base v p1 (p1++ [p])) (putA base f nx):=by
 intro j w F n us bb o cap vals ty hus hcells hxs hnone hbase hF hsz hfa
 have hb:n=base:=hbase (by show (1:Nat)≠0;decide)
 subst hb
 obtain ⟨_,f5,f6⟩:=hfa
 have hus:=R_val rfl hus
 have hus:us=v:=by rw [hus];exact hv2
 subst hus
 obtain ⟨x0,_,rfl,e0,hxs⟩:=hxs
 obtain ⟨x1,_,rfl,e1,hxs⟩:=hxs
 obtain ⟨x2,_,rfl,e2,hxs⟩:=hxs
 obtain ⟨x3,_,rfl,e3,hxs⟩:=hxs
 obtain ⟨x4,_,rfl,e4,hxs⟩:=hxs
 have hxs:_= []:=hxs
 subst hxs
 have e0:x0= .int .i64 p.at0:=by rw [show x0= .int .i64 (SE.den ρ (.var 9)) from e0,zai,h9]
 have e1:x1= .int .u64 p.a:=by rw [show x1= .int .u64 (SE.den ρ (u64v 3)) from e1,h3]
 have e2:x2= .int .u32 p.ln:=by rw [show x2= .int .u32 (SE.den ρ (u32v 4)) from e2,h4]
 have e3:x3= .int .u16 p.f:=by rw [show x3= .int .u16 (SE.den ρ f) from e3,hf]
 have e4:x4= .int .u16 p.nx:=by rw [show x4= .int .u16 (SE.den ρ nx) from e4,hnx]
 subst e0 e1 e2 e3 e4
 have hinfo:=infoPut
 have hinfoZ:=infoPutZ
 cases hi:prog.info? 104 with
 | none=>rw [hi] at hinfo;cases hinfo
 | some i=>
 rw [hi] at hinfo hinfoZ
 simp only [Option.map_some,Option.some.injEq,Prod.mk.injEq] at hinfo
 obtain ⟨i1,i2,i3⟩:=hinfo
 obtain ⟨z,hz⟩:=Option.isSome_iff_exists.1 i1
 simp only [Option.bind_some,hz,Option.map_some,Option.some.injEq] at hinfoZ
 obtain ⟨u,w',h1,h2,h3,h4,h5⟩:=run_append_own_at (P:=prog) w b2 100 ty 104 i z 5 24 (by kernel_rfl) hi hz i2 i3 hinfoZ (by decide) us p1.length (zcq p1) f5 ⟨bb,o,none⟩ 1 cap p.cells rfl
  (fun q y hy=>by rw [Dw.addr_add];exact hcells q y hy) (fun y hy=>by simp only [Pt.cells,List.mem_cons,List.not_mem_nil,or_false] at hy;rcases hy with rfl|rfl|rfl|rfl|rfl<;>rfl) (by unfold maxLen;omega) (by omega) (by omega)
 have hseg:zcq p1++p.cells=zcq (p1++ [p]):=by simp [zcq]
 have hown:zi6 w' b2 u (p1++ [p]):=by
  unfold zi6 OwnR
  rw [←hseg,List.length_append]
  exact h2
 have hub:=OwnR.lt hown
 have hub1: ∀b,u.ownBlock=some b→us.ownBlock=some b∨w.heap.size≤b:=fun b hb=>by
  rcases h5 with h5|h5
  ·exact .inl (h5▸hb)
  ·rw [hb] at h5;cases h5;exact .inr (Nat.le_refl _)
 have hmv:Dw.Mv (fun b=>us.ownBlock=some b) w w':=⟨h3.os,h3.tape,h3.output,h3.size,fun b hb hn=>h3.block b hb (fun e=>hn e.symm)⟩
 refine ⟨u,w',[u],fun b=>F b∨u.ownBlock=some b,h1,rfl,⟨⟨⟨0,0,0,some u⟩,?_,rfl⟩,OwnR.one hown,fun _ h=>(by cases h)⟩,⟨.inl rfl,u,za7,hown,fun b hb=> .inr hb⟩,?_,hmv.mono fun b hb=>⟨f6 b hb,.inr (hK b hb)⟩⟩
 ·show jq j n _ n=_
  unfold jq
  rw [if_pos ⟨Nat.le_refl _,by simp⟩]
  simp
 ·rintro b (hb|hb)
  ·exact ⟨Nat.lt_of_lt_of_le (hF b hb) hmv.size,.inl hb⟩
  ·refine ⟨(hub b hb).2,?_⟩
   rcases hub1 b hb with h|h
   ·exact .inl (f6 b h)
   ·exact .inr h
set_option maxRecDepth 10000 in
set_option maxHeartbeats 2000000 in
theorem Tryz.zpQ {ρ:Val} {w0:World} {K:Nat→Prop} {ia sa:Option Addr} {ids:List Int} {l:List Sg} {c cs:Nat} {v:Value} {p1:List Pt} (hn:l.length≤60000) (hil:ids.length=l.length) (hok: ∀x∈l,x.ok) (hK: ∀b,¬K b)
  (hri:ids= []∨ ∃I o,ia=some ⟨I,o,none⟩∧w0.rangeAt I o (zaG ids)) (hrs:l= []∨ ∃R o,sa=some ⟨R,o,none⟩∧w0.rangeAt R o (zaA l))
  (hv0:ρ.v 0= .slice ia l.length c) (hv1:ρ.v 1= .slice sa l.length cs) (d0:(lnv 0).den ρ=l.length):
  zgc prog ρ w0 K (rsG sa l w0.heap.size 1 v p1 (zaS ids l l.length)) putLoop:=by
 refine zed ?_
 intro cc hc j a w F n hsz hdf hsl _ hnone hbase hF hs0 hf hold
 have hb:n=1:=hbase (by show (1:Nat)≠0;decide)
 subst hb
 have g0:=R_val rfl (hsl (0,idL []) (by simp [putLoop])).2
 have g1:=R_val rfl (hsl (1,sl1 []) (by simp [putLoop])).2
 have g9:=R_val rfl (hsl (9,.nils) (by simp [putLoop])).2
 have g10:=R_val rfl (hsl (10,.int .i64 (.lit 0)) (by simp [putLoop])).2
 simp only [AV.val,idL,sl1,hv0,hv1,zac] at g0 g1 g9 g10
 have hcc:cc=codeR prog [0,0,1,0,1,1,1,1,1,1,39]:=by
  have:=zcU (P:=prog) (p:= [0,1,0,1,1,1,1,1,1,39]) (by kernel_rfl)
  have hc:codeR prog [0,1,0,1,1,1,1,1,1,39]= .loop cc:=hc
  rw [hc] at this
  injection this
 subst hcc
 have hsz:a.tmps.size=103:=hsz
 refine zbd (fun (x:Nat×Value) a' w'=>x.1≤l.length∧a'.tmps.size=103∧a'.defers= []∧a'.tmps.getD 0 undef= .slice ia l.length c∧a'.tmps.getD 1 undef= .slice sa l.length cs∧a'.tmps.getD 9 undef=x.2∧a'.tmps.getD 10 undef= .int .i64 x.1∧Below w.heap.size w w'∧zi6 w' w.heap.size x.2 (zaS ids l x.1))
  (fun x=>l.length-x.1) (fun x a1 w1 hI=> ?_) (0,.slice none 0 0) a w ⟨Nat.zero_le _,hsz,hdf,g0,g1,g9,by rw [g10];rfl,Below.refl _ _,OwnR.nil _ _ _ _⟩
 obtain ⟨k,vk⟩:=x
 obtain ⟨hkl,q0,qd,qi,qs,q9,q10,hb,hov⟩:=hI
 simp only at hkl q9 q10 hov
 have hvo:=OwnR.one hov
 have hvlt:=OwnR.lt hov
 have hwk:=zca k (by omega)
 by_cases hk:k<l.length
 ·rcases hri with h0|⟨I,o,rfl,hri⟩
  ·rw [h0] at hil;simp at hil;omega
  rcases hrs with h0|⟨R,p,rfl,hrs⟩
  ·rw [h0] at hk;simp at hk
  have hIl:=zqc hri (k:=k) (by omega)
  have hRl:=zcZ hrs (by intro h0;rw [h0] at hk;simp at hk)
  have hri1:=zat hri ((hb.block I (by omega)).trans (hold I hIl (hK I)))
  have hrs1:=zat hrs ((hb.block R (by omega)).trans (hold R hRl (hK R)))
  have hx9:=zcO hri1 k (by omega)
  have hxs:=zcm hrs1 k hk
  have hxo:=hok l[k] (List.getElem_mem hk)
  have hKw: ∀b,vk.ownBlock=some b→b<w1.heap.size:=fun b hb'=>(hvlt b hb').2
  have hnI:vk.ownBlock≠some I:=fun e=>by have:=(hvlt I e).1;omega
  have hnR:vk.ownBlock≠some R:=fun e=>by have:=(hvlt R e).1;omega
  have fin: ∀ {j2:J} {base:Nat} {p2:Pt} {a2:Act} {w2:World} {ρ':Val},a2.tmps.size=103→a2.defers= []→p2=putAt ids l k→Dw.Mv (fun b=>vk.ownBlock=some b) w1 w2→
    (rsG none [] w.heap.size base vk (zaS ids l k) (zaS ids l k++ [p2])).G 2 j2 w2→([0,1,9,10].map fun t=>a2.tmps.getD t undef)= [.slice (some ⟨I,o,none⟩) l.length c,.slice (some ⟨R,p,none⟩) l.length cs,(AV.opq base none).val ρ' (lcOf j2),.int .i64 (k+1:Nat)]→
    ∃ x':Nat×Value,l.length-x'.1<l.length-k∧x'.1≤l.length∧a2.tmps.size=103∧a2.defers= []∧a2.tmps.getD 0 undef= .slice (some ⟨I,o,none⟩) l.length c∧a2.tmps.getD 1 undef= .slice (some ⟨R,p,none⟩) l.length cs∧a2.tmps.getD 9 undef=x'.2∧a2.tmps.getD 10 undef= .int .i64 x'.1∧Below w.heap.size w w2∧zi6 w2 w.heap.size x'.2 (zaS ids l x'.1):=by
   intro j2 base p2 a2 w2 ρ' r1 r2 r3 r4 r5 r6
   obtain ⟨F2,_,_,u,hu,hou,_⟩:=r5
   simp only [List.map_cons,List.map_nil,List.cons.injEq,and_true] at r6
   obtain ⟨t0,t1,t9,t10⟩:=r6
   rw [zcR hu] at t9
   refine ⟨(k+1,u),by simp only;omega,hk,r1,r2,t0,t1,t9,t10,⟨r4.os.trans hb.os,r4.tape.trans hb.tape,r4.output.trans hb.output,Nat.le_trans hb.size r4.size,fun b hb'=>(r4.block b (Nat.lt_of_lt_of_le hb' hb.size) fun e=>by have:=(hvlt b e).1;omega).trans (hb.block b hb')⟩,?_⟩
   rw [zkZ,←r3];exact hou
  have hat0:(putAt ids l k).at0=ids[k]:=by simp [putAt,List.getD_eq_getElem?_getD,hil,hk]
  have hsx:l.getD k ⟨0,0,false⟩=l[k]:=by simp [List.getD_eq_getElem?_getD,hk]
  have ha0:(putAt ids l k).a=l[k].at1:=by simp only [putAt,hsx]
  have hl0:(putAt ids l k).ln=l[k].len:=by simp only [putAt,hsx]
  by_cases hk1:k+1<l.length
  ·have hx10:=zcO hri1 (k+1) (by omega)
   have D:=spD (n:=l.length) (k:=k) (i:=0) (e:=0) (x9:=ids[k]) (x10:=ids[k+1]) (x:=l[k]) (iv:= .slice (some ⟨I,o,none⟩) l.length c) (sv:= .slice (some ⟨R,p,none⟩) l.length cs) (ov:=vk) (by omega) (by omega) (by omega) hxo
   generalize zhq l.length k 0 0 ids[k] ids[k+1] l[k] (.slice (some ⟨I,o,none⟩) l.length c) (.slice (some ⟨R,p,none⟩) l.length cs) vk=ρ' at D
   have dk1:(SE.bin .add .i64 (lnv 1) (.lit 1)).den ρ'=((k+1:Nat):Int):=by rw [den_add,D.d1,zac,hwk]
   have hj1:jOf [(I,o+1*k),(I,o+1*(k+1)),(R,p+3*k)] 1=some ⟨I,o+1*k,0,none⟩:=rfl
   have hj2:jOf [(I,o+1*k),(I,o+1*(k+1)),(R,p+3*k)] 2=some ⟨I,o+1*(k+1),0,none⟩:=rfl
   have hj3:jOf [(I,o+1*k),(I,o+1*(k+1)),(R,p+3*k)] 3=some ⟨R,p+3*k,0,none⟩:=rfl
   have hG:(rsG none [] w.heap.size 6 vk (zaS ids l k) (zaS ids l k++ [putAt ids l k])).G 1 (jOf [(I,o+1*k),(I,o+1*(k+1)),(R,p+3*k)]) w1:=
    ⟨fun b=>vk.ownBlock=some b,fun b hb'=>⟨hKw b hb',fun hm=>by
     have:=zce hm
     simp only [List.map_cons,List.map_nil,List.mem_cons,List.not_mem_nil,or_false] at this
     rcases this with e|e|e<;>(subst e;contradiction)⟩,.inl rfl,hov,fun b hb'=>hb'⟩
   have hfl: ∀wr:Bool,l[k].wr=wr→(putAt ids l k).f=if wr then 3 else 1:=fun wr hwr=>by
    simp only [putAt,hsx,hwr]
    rw [if_pos hk1]
    cases wr<;>rfl
   have hnx:(SE.wrap .u16 (.var 10)).den ρ'=(putAt ids l k).nx:=by
    show IntKind.wrap .u16 (ρ'.i 10)=_
    rw [D.i10,zaC]
    simp only [putAt]
    rw [if_pos hk1]
    simp [List.getD_eq_getElem?_getD,hil,hk1]
   have hsl0:Dw.R ρ' (jOf [(I,o+1*k),(I,o+1*(k+1)),(R,p+3*k)]) (idL [(lnv 1,1),(.bin .add .i64 (lnv 1) (.lit 1),2)]) (.slice (some ⟨I,o,none⟩) l.length c):=
    ⟨D.v0.symm,_,_,_,rfl,D.d0.symm,⟨I,o,_,k,rfl,hj1,rfl,D.d1,hk,rfl⟩,⟨I,o,_,k+1,rfl,hj2,rfl,dk1,hk1,rfl⟩,trivial⟩
   have hsl1:Dw.R ρ' (jOf [(I,o+1*k),(I,o+1*(k+1)),(R,p+3*k)]) (sl1 [(lnv 1,3)]) (.slice (some ⟨R,p,none⟩) l.length cs):=⟨D.v1.symm,_,_,_,rfl,D.d0.symm,⟨R,p,_,k,rfl,hj3,rfl,D.d1,hk,rfl⟩,trivial⟩
   cases hwr:l[k].wr
   ·have hf:(SE.lit 1).den ρ'=(putAt ids l k).f:=by rw [zac,hfl false hwr];rfl
    refine wp_mono (zam (ρ:=ρ') (K:=fun b=>vk.ownBlock=some b) (g:=rsG none [] w.heap.size 6 vk (zaS ids l k) (zaS ids l k++ [putAt ids l k])) (bl:= [(I,o+1*k),(I,o+1*(k+1)),(R,p+3*k)]) mixed putbR_run putbR_ok hKw
     ⟨zaw hx9 (by simp) (zaa (zab D.i9) RL.nil) hnI,zaw hx10 (by simp) (zaa (zab D.i10) RL.nil) hnI,zaw hxs (by unfold Sg.cells;simp) (zaa (zab D.d3) (zaa (zab D.d4) (zaa (zaH D.b0) RL.nil))) hnR,trivial⟩
     ⟨fun h=>(by cases h),fun h=>(by cases h),fun h=>(by cases h),trivial⟩ hG trivial trivial ⟨zir D.v2 (D.i9.trans hat0.symm) (D.d3.trans ha0.symm) (D.d4.trans hl0.symm) hf hnx hb.size (fun _ h=>h) (by rw [zc2];omega),trivial⟩ q0 qd ?_
     (told_cons_iff.2 ⟨by rw [zaz,D.d0,D.d1];simp only [decide_eq_true_eq];omega,told_cons_iff.2 ⟨by rw [zaz,D.d0,dk1];simp only [decide_eq_true_eq,decide_eq_false_iff_not];omega,told_cons_iff.2 ⟨by rw [zau,D.b0];exact hwr,told_nil.2 trivial⟩⟩⟩)) fun ex a2 w2 hh=> ?_
    ·intro t ht
     simp only [putbR_slots,List.mem_cons,List.not_mem_nil,or_false] at ht
     rcases ht with rfl|rfl|rfl|rfl
     ·rw [qi];exact hsl0
     ·rw [qs];exact hsl1
     ·rw [q9];exact zaD D.v2 hvo
     ·rw [q10];exact zab D.d1
    ·obtain ⟨q,hq,hto,lf,hlf,rfl,hsz2,j2,hdf2,he⟩:=hh
     unfold putbR_ps at hq
     simp only [List.mem_cons,List.not_mem_nil,or_false] at hq
     subst hq
     cases hlf
     have hs2:=zal he.ret
     refine fin (base:=6) (ρ':=ρ') hsz2 hdf2 rfl he.mv he.gho ?_
     rw [hs2]
     simp only [AV.valL,D.v0,D.v1,dk1,AV.val]
   ·have hf:(SE.lit 3).den ρ'=(putAt ids l k).f:=by rw [zac,hfl true hwr];rfl
    refine wp_mono (zam (ρ:=ρ') (K:=fun b=>vk.ownBlock=some b) (g:=rsG none [] w.heap.size 6 vk (zaS ids l k) (zaS ids l k++ [putAt ids l k])) (bl:= [(I,o+1*k),(I,o+1*(k+1)),(R,p+3*k)]) mixed putbW_run putbW_ok hKw
     ⟨zaw hx9 (by simp) (zaa (zab D.i9) RL.nil) hnI,zaw hx10 (by simp) (zaa (zab D.i10) RL.nil) hnI,zaw hxs (by unfold Sg.cells;simp) (zaa (zab D.d3) (zaa (zab D.d4) (zaa (zaH D.b0) RL.nil))) hnR,trivial⟩
     ⟨fun h=>(by cases h),fun h=>(by cases h),fun h=>(by cases h),trivial⟩ hG trivial trivial ⟨zir D.v2 (D.i9.trans hat0.symm) (D.d3.trans ha0.symm) (D.d4.trans hl0.symm) hf hnx hb.size (fun _ h=>h) (by rw [zc2];omega),trivial⟩ q0 qd ?_
     (told_cons_iff.2 ⟨by rw [zaz,D.d0,D.d1];simp only [decide_eq_true_eq];omega,told_cons_iff.2 ⟨by rw [zaz,D.d0,dk1];simp only [decide_eq_true_eq,decide_eq_false_iff_not];omega,told_cons_iff.2 ⟨by rw [zau,D.b0];exact hwr,told_nil.2 trivial⟩⟩⟩)) fun ex a2 w2 hh=> ?_
    ·intro t ht
     simp only [putbW_slots,List.mem_cons,List.not_mem_nil,or_false] at ht
     rcases ht with rfl|rfl|rfl|rfl
     ·rw [qi];exact hsl0
     ·rw [qs];exact hsl1
     ·rw [q9];exact zaD D.v2 hvo
     ·rw [q10];exact zab D.d1
    ·obtain ⟨q,hq,hto,lf,hlf,rfl,hsz2,j2,hdf2,he⟩:=hh
     unfold putbW_ps at hq
     simp only [List.mem_cons,List.not_mem_nil,or_false] at hq
     subst hq
     cases hlf
     have hs2:=zal he.ret
     refine fin (base:=6) (ρ':=ρ') hsz2 hdf2 rfl he.mv he.gho ?_
     rw [hs2]
     simp only [AV.valL,D.v0,D.v1,dk1,AV.val]
  ·have D:=spD (n:=l.length) (k:=k) (i:=0) (e:=0) (x9:=ids[k]) (x10:=0) (x:=l[k]) (iv:= .slice (some ⟨I,o,none⟩) l.length c) (sv:= .slice (some ⟨R,p,none⟩) l.length cs) (ov:=vk) (by omega) (by omega) (by omega) hxo
   generalize zhq l.length k 0 0 ids[k] 0 l[k] (.slice (some ⟨I,o,none⟩) l.length c) (.slice (some ⟨R,p,none⟩) l.length cs) vk=ρ' at D
   have dk1:(SE.bin .add .i64 (lnv 1) (.lit 1)).den ρ'=((k+1:Nat):Int):=by rw [den_add,D.d1,zac,hwk]
   have hj1:jOf [(I,o+1*k),(R,p+3*k)] 1=some ⟨I,o+1*k,0,none⟩:=rfl
   have hj3:jOf [(I,o+1*k),(R,p+3*k)] 2=some ⟨R,p+3*k,0,none⟩:=rfl
   have hG:(rsG none [] w.heap.size 5 vk (zaS ids l k) (zaS ids l k++ [putAt ids l k])).G 1 (jOf [(I,o+1*k),(R,p+3*k)]) w1:=
    ⟨fun b=>vk.ownBlock=some b,fun b hb'=>⟨hKw b hb',fun hm=>by
     have:=zce hm
     simp only [List.map_cons,List.map_nil,List.mem_cons,List.not_mem_nil,or_false] at this
     rcases this with e|e<;>(subst e;contradiction)⟩,.inl rfl,hov,fun b hb'=>hb'⟩
   have hfl: ∀wr:Bool,l[k].wr=wr→(putAt ids l k).f=if wr then 2 else 0:=fun wr hwr=>by
    simp only [putAt,hsx,hwr]
    rw [if_neg hk1]
    cases wr<;>rfl
   have hnx:(SE.lit 0).den ρ'=(putAt ids l k).nx:=by
    simp only [putAt]
    rw [if_neg hk1];rfl
   have hsl0:Dw.R ρ' (jOf [(I,o+1*k),(R,p+3*k)]) (idL [(lnv 1,1)]) (.slice (some ⟨I,o,none⟩) l.length c):=
    ⟨D.v0.symm,_,_,_,rfl,D.d0.symm,⟨I,o,_,k,rfl,hj1,rfl,D.d1,hk,rfl⟩,trivial⟩
   have hsl1:Dw.R ρ' (jOf [(I,o+1*k),(R,p+3*k)]) (sl1 [(lnv 1,2)]) (.slice (some ⟨R,p,none⟩) l.length cs):=⟨D.v1.symm,_,_,_,rfl,D.d0.symm,⟨R,p,_,k,rfl,hj3,rfl,D.d1,hk,rfl⟩,trivial⟩
   cases hwr:l[k].wr
   ·have hf:(SE.lit 0).den ρ'=(putAt ids l k).f:=by rw [zac,hfl false hwr];rfl
    refine wp_mono (zam (ρ:=ρ') (K:=fun b=>vk.ownBlock=some b) (g:=rsG none [] w.heap.size 5 vk (zaS ids l k) (zaS ids l k++ [putAt ids l k])) (bl:= [(I,o+1*k),(R,p+3*k)]) mixed putlR_run putlR_ok hKw
     ⟨zaw hx9 (by simp) (zaa (zab D.i9) RL.nil) hnI,zaw hxs (by unfold Sg.cells;simp) (zaa (zab D.d3) (zaa (zab D.d4) (zaa (zaH D.b0) RL.nil))) hnR,trivial⟩
     ⟨fun h=>(by cases h),fun h=>(by cases h),trivial⟩ hG trivial trivial ⟨zir D.v2 (D.i9.trans hat0.symm) (D.d3.trans ha0.symm) (D.d4.trans hl0.symm) hf hnx hb.size (fun _ h=>h) (by rw [zc2];omega),trivial⟩ q0 qd ?_
     (told_cons_iff.2 ⟨by rw [zaz,D.d0,D.d1];simp only [decide_eq_true_eq];omega,told_cons_iff.2 ⟨by rw [zaz,D.d0,dk1];simp only [decide_eq_true_eq,decide_eq_false_iff_not];omega,told_cons_iff.2 ⟨by rw [zau,D.b0];exact hwr,told_nil.2 trivial⟩⟩⟩)) fun ex a2 w2 hh=> ?_
    ·intro t ht
     simp only [putlR_slots,List.mem_cons,List.not_mem_nil,or_false] at ht
     rcases ht with rfl|rfl|rfl|rfl
     ·rw [qi];exact hsl0
     ·rw [qs];exact hsl1
     ·rw [q9];exact zaD D.v2 hvo
     ·rw [q10];exact zab D.d1
    ·obtain ⟨q,hq,hto,lf,hlf,rfl,hsz2,j2,hdf2,he⟩:=hh
     unfold putlR_ps at hq
     simp only [List.mem_cons,List.not_mem_nil,or_false] at hq
     subst hq
     cases hlf
     have hs2:=zal he.ret
     refine fin (base:=5) (ρ':=ρ') hsz2 hdf2 rfl he.mv he.gho ?_
     rw [hs2]
     simp only [AV.valL,D.v0,D.v1,dk1,AV.val]
   ·have hf:(SE.lit 2).den ρ'=(putAt ids l k).f:=by rw [zac,hfl true hwr];rfl
    refine wp_mono (zam (ρ:=ρ') (K:=fun b=>vk.ownBlock=some b) (g:=rsG none [] w.heap.size 5 vk (zaS ids l k) (zaS ids l k++ [putAt ids l k])) (bl:= [(I,o+1*k),(R,p+3*k)]) mixed putlW_run putlW_ok hKw
     ⟨zaw hx9 (by simp) (zaa (zab D.i9) RL.nil) hnI,zaw hxs (by unfold Sg.cells;simp) (zaa (zab D.d3) (zaa (zab D.d4) (zaa (zaH D.b0) RL.nil))) hnR,trivial⟩
     ⟨fun h=>(by cases h),fun h=>(by cases h),trivial⟩ hG trivial trivial ⟨zir D.v2 (D.i9.trans hat0.symm) (D.d3.trans ha0.symm) (D.d4.trans hl0.symm) hf hnx hb.size (fun _ h=>h) (by rw [zc2];omega),trivial⟩ q0 qd ?_
     (told_cons_iff.2 ⟨by rw [zaz,D.d0,D.d1];simp only [decide_eq_true_eq];omega,told_cons_iff.2 ⟨by rw [zaz,D.d0,dk1];simp only [decide_eq_true_eq,decide_eq_false_iff_not];omega,told_cons_iff.2 ⟨by rw [zau,D.b0];exact hwr,told_nil.2 trivial⟩⟩⟩)) fun ex a2 w2 hh=> ?_
    ·intro t ht
     simp only [putlW_slots,List.mem_cons,List.not_mem_nil,or_false] at ht
     rcases ht with rfl|rfl|rfl|rfl
     ·rw [qi];exact hsl0
     ·rw [qs];exact hsl1
     ·rw [q9];exact zaD D.v2 hvo
     ·rw [q10];exact zab D.d1
    ·obtain ⟨q,hq,hto,lf,hlf,rfl,hsz2,j2,hdf2,he⟩:=hh
     unfold putlW_ps at hq
     simp only [List.mem_cons,List.not_mem_nil,or_false] at hq
     subst hq
     cases hlf
     have hs2:=zal he.ret
     refine fin (base:=5) (ρ':=ρ') hsz2 hdf2 rfl he.mv he.gho ?_
     rw [hs2]
     simp only [AV.valL,D.v0,D.v1,dk1,AV.val]
 ·have hkk:k=l.length:=by omega
  subst hkk
  have D:=spD (n:=l.length) (k:=l.length) (i:=0) (e:=0) (x9:=0) (x10:=0) (x:=⟨0,1,false⟩) (iv:= .slice ia l.length c) (sv:= .slice sa l.length cs) (ov:=vk) (by omega) (by omega) (by omega) okSg0
  generalize zhq l.length l.length 0 0 0 0 ⟨0,1,false⟩ (.slice ia l.length c) (.slice sa l.length cs) vk=ρ' at D
  refine wp_mono (zam (ρ:=ρ') (K:=fun _=>False) (g:=Gho.none) (bl:= []) mixed pute_run pute_ok (fun b h=>h.elim) trivial trivial zas trivial trivial trivial q0 qd ?_ (told_cons_iff.2 ⟨by rw [zaz,D.d0,D.d1];simp,told_nil.2 trivial⟩)) fun ex a2 w2 hh=> ?_
  ·intro t ht
   simp only [pute_slots,List.mem_cons,List.not_mem_nil,or_false] at ht
   rcases ht with rfl|rfl|rfl|rfl
   ·rw [qi];exact zqd D.v0 D.d0
   ·rw [qs];exact ⟨D.v1.symm,_,_,_,rfl,D.d0.symm,trivial⟩
   ·rw [q9];exact zaD D.v2 hvo
   ·rw [q10];exact zab D.d1
  ·obtain ⟨q,hq,hto,lf,hlf,rfl,hsz2,j2,hdf2,he⟩:=hh
   have hb3:=zag he (fun _ h=>h)
   unfold pute_ps at hq
   simp only [List.mem_cons,List.not_mem_nil,or_false] at hq
   subst hq
   cases hlf
   have hs2:=zal he.ret
   simp only [AV.valL,AV.val,D.v2,List.map_cons,List.map_nil,List.cons.injEq,and_true] at hs2
   have hov2:zi6 w2 w.heap.size vk (zaS ids l l.length):=OwnR.kept hov fun b e=>hb3.block b (hvlt b e).2
   have hlt2:=OwnR.lt hov2
   refine ⟨⟨.lit true,.exit 4,[(9,.opq 1 none)],2⟩,[vk],fun b=>F b∨vk.ownBlock=some b,by unfold putLoop;rw [zaT,if_pos (show SB.den ρ (.lit true)=true from rfl)],rfl,hsz2,hdf2,(fun t ht=>by cases ht),rfl,fun s hs=> ?_,⟨?_,vk,za7,OwnR.mono hov2 hs0,fun b hb'=> .inr hb'⟩,?_,Dw.Mv.of_below (hb.trans (hb3.mono hb.size))⟩
   ·simp only [List.mem_cons,List.not_mem_nil,or_false] at hs
    subst hs
    rw [hs2]
    refine ⟨⟨⟨0,0,0,some vk⟩,?_,rfl⟩,hvo,fun _ h=>(by cases h)⟩
    show jq j 1 _ 1=_
    unfold jq
    rw [if_pos ⟨Nat.le_refl _,by simp⟩]
    simp
   ·rcases hf.1 with h0|⟨R,o,e,hFR,hr⟩
    ·exact .inl h0
    ·exact .inr ⟨R,o,e,.inl hFR,zat hr ((hb3.block R (Nat.lt_of_lt_of_le (hF R hFR) hb.size)).trans (hb.block R (hF R hFR)))⟩
   ·rintro b (h|h)
    ·exact ⟨Nat.lt_of_lt_of_le (hF b h) (Nat.le_trans hb.size hb3.size),.inl h⟩
    ·exact ⟨(hlt2 b h).2,.inr (hlt2 b h).1⟩
end Go.Proofs
namespace Go.Proofs
open Go.Dw Go.RowKit Go.Maps Go.Sort

def Tryz.zbc (l:List Sg):Int:=if zaO l=0∧l.length=0 then 2 else zaO l
theorem Tryz.zn6 {A:Nat→Prop} {w:World} {v:Value} {l:List Sg} (h:SegV A w v l) (hl:l.length≤60000):
  Calls prog 50 #[v] w fun e w'=>e= .returned (.int .i64 (zbc l))∧Below w.heap.size w w':=by
 have h0:=h
 obtain ⟨sa,c,rfl,hok,hr⟩:=h
 obtain ⟨F0,hF0,hF1⟩:=zbJ h0
 have D:=spD (n:=l.length) (k:=0) (i:=0) (e:=zaO l) (x9:=0) (x10:=0) (x:=⟨0,1,false⟩) (iv:=undef) (sv:= .slice sa l.length c) (ov:=undef) (by omega) (by omega) (by omega) okSg0
 generalize zhq l.length 0 0 (zaO l) 0 0 ⟨0,1,false⟩ undef (.slice sa l.length c) undef=ρ at D
 refine Calls.mono (zap (ρ:=ρ) (K:=fun _=>False) (g:=segG sa l) (bl:= []) (vals:= [.slice sa l.length c]) mixed rcm_run rcm_ok (fun b h=>h.elim) trivial trivial ⟨F0,hF0,hF1⟩
  ⟨zak (Dw.enters_of (by kernel_rfl)) (by decide) [.slice sa l.length c] (.int .i64 (zaO l)) (fun j=>zaa (zf4 D.v1 D.d0) RL.nil) (fun j=>zab D.i7) fun w F q h=>zpE (SegF.v h hok c),trivial⟩ (zaa (zf4 D.v1 D.d0) RL.nil) (told_nil.2 trivial)) fun e w' hh=> ?_
 obtain ⟨p,hpm,hto,lf,hlf,j,he⟩:=hh
 have hb:=zag he (fun _ h=>h)
 unfold rcm_ps at hpm
 simp only [List.mem_cons,List.not_mem_nil,or_false] at hpm
 unfold zbc
 rcases hpm with rfl|rfl|rfl
 all_goals
  simp only [told_cons_iff,told_nil,zbm,zai,zac,D.i7,D.d0,beq_iff_eq,beq_eq_false_iff_ne,ne_eq,and_true] at hto
  cases hlf
 ·rw [if_pos ⟨hto.1,by omega⟩];exact ⟨he.ret,hb⟩
 ·rw [if_neg (by omega)];exact ⟨he.ret.trans (by simp only [AV.val,zai,D.i7]),hb⟩
 ·rw [if_neg (fun h=>hto h.1)];exact ⟨he.ret.trans (by simp only [AV.val,zai,D.i7]),hb⟩
theorem Tryz.zmD {A:Nat→Prop} {w:World} {ia:Option Addr} {c:Nat} {v:Value} {ids:List Int} {l:List Sg} (h:SegV A w v l) (hl:l.length≤60000) (hil:ids.length=l.length) (hnd:ids.Nodup) (hin: ∀x∈ids,0≤x∧x<32768)
  (hri:ids= []∨ ∃I o,ia=some ⟨I,o,none⟩∧w.rangeAt I o (zaG ids)):
  Calls prog 39 #[.slice ia ids.length c,v] w fun e w'=>Below w.heap.size w w'∧((zbc l=0∧ ∃u,e= .returned (.tuple #[u,.int .i64 0])∧zi6 w' w.heap.size u (zaS ids l l.length))∨(zbc l≠0∧e= .returned (.tuple #[.slice none 0 0,.int .i64 (zbc l)]))):=by
 have h0:=h
 obtain ⟨sa,cs,rfl,hok,hr⟩:=h
 have hrs:l= []∨ ∃R o,sa=some ⟨R,o,none⟩∧w.rangeAt R o (zaA l):=hr.imp_right fun ⟨R,o,e,_,h⟩=>⟨R,o,e,h⟩
 have D:=spD (n:=l.length) (k:=0) (i:=0) (e:=zbc l) (x9:=0) (x10:=0) (x:=⟨0,1,false⟩) (iv:= .slice ia l.length c) (sv:= .slice sa l.length cs) (ov:=undef) (by omega) (by omega) (by omega) okSg0
 generalize zhq l.length 0 0 (zbc l) 0 0 ⟨0,1,false⟩ (.slice ia l.length c) (.slice sa l.length cs) undef=ρ at D
 have hargs:RL ρ (jOf []) [idL [],sl1 []] [.slice ia ids.length c,.slice sa l.length cs]:=zaa (hil▸zqd D.v0 D.d0) (zaa (zf4 D.v1 D.d0) RL.nil)
 by_cases hm:zbc l=0
 ·obtain ⟨F0,hF0,hF1⟩:=zbJ h0
  have hmE:zaJ prog ρ w (fun _=>False) (rsG sa l w.heap.size 1 undef [] (zaS ids l l.length)) mayE:=by
   exact zak (Dw.enters_of (by kernel_rfl)) (by decide) [.slice sa l.length cs] (.int .i64 (zbc l)) (fun j=>zaa (zf4 D.v1 D.d0) RL.nil) (fun j=>zab D.i7) fun w F q h=>zn6 (SegF.v h.1 hok cs) hl
  refine Calls.mono (zc3 (ρ:=ρ) (K:=fun _=>False) (g:=rsG sa l w.heap.size 1 undef [] (zaS ids l l.length)) (bl:= []) (vals:= [.slice ia ids.length c,.slice sa l.length cs]) mixed rspl_run rspl_ok (fun b h=>h.elim) trivial trivial ⟨F0,hF0,hF1,trivial⟩
   ⟨hmE,trivial⟩ ⟨zrF (by omega) hnd (fun _ h=>h) hri hin (hil▸D.v0) (hil▸D.v1) (hil▸D.d0),zpQ hl hil hok (fun _ h=>h) hri hrs D.v0 D.v1 D.d0,trivial⟩ trivial hargs
   (told_cons_iff.2 ⟨by rw [zbf,zai,zac,D.i7,hm];rfl,told_nil.2 trivial⟩)) fun e w' hh=> ?_
  obtain ⟨p,hpm,hto,lf,hlf,j,he⟩:=hh
  have hb:=zag he (fun _ h=>h)
  unfold rspl_ps at hpm
  simp only [List.mem_cons,List.not_mem_nil,or_false] at hpm
  subst hpm
  cases hlf
  obtain ⟨F2,_,_,u,hu,hou,_⟩:=he.gho
  refine ⟨hb,.inl ⟨hm,u,he.ret.trans ?_,hou⟩⟩
  show Ending.returned (.tuple #[(AV.opq 1 none).val ρ (lcOf j),.int .i64 0])=_
  rw [zcR hu]
 ·obtain ⟨F0,hF0,hF1⟩:=zbJ h0
  have hmE:zaJ prog ρ w (fun _=>False) (segG sa l) mayE:=by
   exact zak (Dw.enters_of (by kernel_rfl)) (by decide) [.slice sa l.length cs] (.int .i64 (zbc l)) (fun j=>zaa (zf4 D.v1 D.d0) RL.nil) (fun j=>zab D.i7) fun w F q h=>zn6 (SegF.v h hok cs) hl
  refine Calls.mono (zap (ρ:=ρ) (K:=fun _=>False) (g:=segG sa l) (bl:= []) (vals:= [.slice ia ids.length c,.slice sa l.length cs]) mixed rsplE_run rsplE_ok (fun b h=>h.elim) trivial trivial ⟨F0,hF0,hF1⟩ ⟨hmE,trivial⟩ hargs
   (told_cons_iff.2 ⟨by rw [zbf,zai,zac,D.i7];simpa using hm,told_nil.2 trivial⟩)) fun e w' hh=> ?_
  obtain ⟨_,j,he⟩:=za1 hh
  have hb:=zag he (fun _ h=>h)
  exact ⟨hb,.inr ⟨hm,he.ret.trans (by simp only [AV.val,AV.valL,zai,D.i7])⟩⟩
end Go.Proofs
namespace Go.Proofs
open Go.Dw Go.RowKit Go.Maps Go.Sort

def Tryz.bytesOf (v:Int) (n:Nat):List Int:=(List.range n).map fun i=>v/2^(8*i)%256
theorem Tryz.zkp (v:Int) (n:Nat):bytesOf v (n+1)=bytesOf v n++ [v/2^(8*n)%256]:=by simp [bytesOf,List.range_succ]
theorem Tryz.zcA (v:Int) (n:Nat):(bytesOf v n).length=n:=by simp [bytesOf]
theorem Tryz.zlC (v:Int) (n:Nat): ∀x∈bytesOf v n,0≤x∧x<256:=fun x hx=>by
 obtain ⟨i,_,rfl⟩:=List.mem_map.1 hx
 exact ⟨Int.emod_nonneg _ (by decide),Int.emod_lt_of_pos _ (by decide)⟩
def Tryz.zbe (xs:List Int):List Value:=xs.map fun x=> .int .u8 x
theorem Tryz.infoU8:(prog.info? 5).map (fun i=>(i.zero,i.size,i.bytes))=some (some (.int .u8 0),1,1):=by kernel_rfl
set_option maxRecDepth 100000 in
set_option maxHeartbeats 1000000 in
theorem Tryz.zpF {w:World} {b2:Nat} {b:Value} {xs:List Int} {v:Int} {n:Nat} (h:OwnR 5 1 w b2 b xs.length (zbe xs)) (hb2:b2≤w.heap.size) (hn:n≤8) (hx:xs.length≤10000):
    Calls prog 77 #[b,.int .u64 v,.int .i64 n] w fun e w'=> ∃u,e= .returned u∧OwnR 5 1 w' b2 u (xs++bytesOf v n).length (zbe (xs++bytesOf v n))∧Below b2 w w'∧Dw.Mv (fun y=>b.ownBlock=some y) w w'∧(∀y,u.ownBlock=some y→b.ownBlock=some y∨w.heap.size≤y):=by
  have hinfo:=infoU8
  cases hi:prog.info? 5 with
  | none=>rw [hi] at hinfo;cases hinfo
  | some i=>
  rw [hi] at hinfo
  simp only [Option.map_some,Option.some.injEq,Prod.mk.injEq] at hinfo
  obtain ⟨i1,i2,i3⟩:=hinfo
  go_enter func77,ntmps77
  go_wp2
  go_loopw [0,7] (fun c k wr=> ∃(q:Nat) (cv:Value),cv=c∧q≤n∧k= .int .i64 q∧OwnR 5 1 wr b2 cv (xs++bytesOf v q).length (zbe (xs++bytesOf v q))∧Below b2 w wr∧Dw.Mv (fun y=>b.ownBlock=some y) w wr∧(∀y,cv.ownBlock=some y→b.ownBlock=some y∨w.heap.size≤y)) (fun _ k _=>n-(RowKit.intOf k).toNat)
  case atStart=>exact ⟨0,_,rfl,Nat.zero_le _,rfl,by simpa [bytesOf] using h,Below.refl _ _,Dw.Mv.refl _ _,fun y hy=> .inl hy⟩
  case round=>
    obtain ⟨q,cv,hcv,hq,rfl,ho,hb,hm,hown⟩:=hrel
    subst hcv
    by_cases hqn:q<n
    · have hw8:=wrap_u8 (v/2^(8*q))
      have hsz:=hb.size
      have hol:=OwnR.lt ho
      have ho2: ∀t,(wr.alloc (.cells #[.int .u8 (v/2^(8*q)%256)] t)).ownsRow b2 5 1 cv (xs++bytesOf v q).length (zbe (xs++bytesOf v q)):=fun t=>OwnR.kept ho fun b e=>(MapKept.heap_alloc _ _).2 _ (hol b e).2
      have hnew: ∀t j u,([Value.int .u8 (v/2^(8*q)%256)]:List Value)[j]? =some u→(wr.alloc (.cells #[.int .u8 (v/2^(8*q)%256)] t)).cell? ((⟨wr.heap.size,0,none⟩:Addr).add j)=some u:=fun t j u hu=>by
        rw [Dw.addr_add]
        exact (Cl.new wr #[.int .u8 (v/2^(8*q)%256)] t).cell (0+j) u (by rw [Nat.zero_add];exact hu)
      have hlen:(xs++bytesOf v q).length≤10010:=by rw [List.length_append,zcA];omega
      go_wp2_with (first
        | (at_builtin;go_loud (refine wpList_append_own_at _ rfl _ _ 77 rfl b2 5 i _ 1 1 (by kernel_rfl) hi i1 i2 i3 rfl (by decide) cv _ (zbe (xs++bytesOf v q)) rfl (ho2 _) ⟨wr.heap.size,0,none⟩ 1 1 [.int .u8 (v/2^(8*q)%256)] rfl rfl (hnew _) (by intro y hy;rw [List.mem_singleton] at hy;subst hy;rfl) (by unfold maxLen;omega) (by omega) (by simp;omega) ?_);intro u w' h2 h3 h4 h5;go_frame)
        | go_in)
      refine ⟨⟨q+1,u,rfl,by omega,by push_cast;rfl,?_,?_,?_,?_⟩,by simp only [RowKit.intOf];omega⟩
      · have e1:xs++bytesOf v (q+1)=(xs++bytesOf v q)++ [v/2^(8*q)%256]:=by rw [zkp,List.append_assoc]
        have e2:zbe (xs++bytesOf v (q+1))=zbe (xs++bytesOf v q)++ [.int .u8 (v/2^(8*q)%256)]:=by rw [e1];simp [zbe]
        rw [e2,e1,List.length_append]
        exact h2
      · have hsz2:=h3.size
        simp only [zbF] at hsz2
        exact ⟨h3.os.trans hb.os,h3.tape.trans hb.tape,h3.output.trans hb.output,by omega,fun y hy=>(h3.block y (by simp only [zbF];omega) (fun e=>by have:=(hol y e.symm).1;omega)).trans (((MapKept.heap_alloc _ _).2 y (by omega)).trans (hb.block y hy))⟩
      · have hsz2:=h3.size
        simp only [zbF] at hsz2
        have hms:=hm.size
        exact ⟨h3.os.trans hm.os,h3.tape.trans hm.tape,h3.output.trans hm.output,by omega,fun y hy hn=>(h3.block y (by simp only [zbF];omega) (fun e=>by
          rcases hown y e.symm with h|h
          · exact hn h
          · omega)).trans (((MapKept.heap_alloc _ _).2 y (by omega)).trans (hm.block y hy hn))⟩
      · intro y hy
        have hms:=hm.size
        rcases h5 with h5|h5
        · exact hown y (h5▸hy)
        · rw [hy] at h5;cases h5;right;simp only [zbF];omega
    · have hqq:q=n:=by omega
      subst hqq
      go_wp2
      go_ret
      exact ⟨_,rfl,ho,hb,hm,hown⟩
def Tryz.rbE (k:Nat) (s:AV) (e:SE) (n:Int):Ent:=⟨77,[s,.int .u64 e,.int .i64 (.lit n)],k,k+2,1,.opq (k+2) none,k+1⟩
def Tryz.rbEnts:List Ent:= [rbE 0 .nils (u64v 3) 8,rbE 1 (.opq 2 none) (u32v 4) 4,rbE 2 (.opq 3 none) (u16v 5) 2,rbE 3 (.opq 4 none) (u16v 6) 2]
def Tryz.rbG (b2:Nat) (L:Nat→List Int):Gho where
 fact k q F w:=match k with|0=>True|k+1=> ∃u,q (k+2)=some u∧OwnR 5 1 w b2 u (L (k+1)).length (zbe (L (k+1)))∧ ∀b,u.ownBlock=some b→F b
 loc:=fun k q q' F w w' h hq hb hs=>by
  match k,h with
  | 0,_=>trivial
  | k+1,⟨u,h7,h8,h9⟩=>exact ⟨u,hq _ _ h7,OwnR.kept h8 fun b e=>hb b (h9 b e),h9⟩
end Go.Proofs
namespace Go.Proofs
open Go.Dw

def Tryz.rby_ents:List Ent:=rbEnts
def Tryz.rby_shs:List Sh:= []
def Tryz.rby_args:List AV:= [.agg [.int .u64 (u64v 3),.int .u32 (u32v 4),.int .u16 (u16v 5),.int .u16 (u16v 6)]]
def Tryz.rby_asm:List (SB×Bool):= []
def Tryz.rby_ls:List Leaf:= [
 ⟨.opq 5 none,[],[],4,[]⟩]
def Tryz.rby_ps:List (List (SB×Bool)×Nat):= [
 ([], 0)]
theorem Tryz.rby_run:(ev prog (entOrc rby_ents) 100000 (.call 37 rby_args (zaj 0 rby_shs) (leafAt rby_ls 0))).ways rby_asm=some rby_ps:=by kernel_rfl
theorem Tryz.rby_ok:(shsSmall rby_shs&&entsSmall rby_ents&&AV.smallL rby_args&&leavesExact rby_ls)=true:=by kernel_rfl
end Go.Proofs
namespace Go.Proofs
open Go.Dw Go.RowKit Go.Maps Go.Sort

theorem Tryz.zlR {ρ:Val} {w0:World} {K:Nat→Prop} {L:Nat→List Int} {k n:Nat} {s:AV} {e:SE} (hs:(k=0∧s= .nils)∨(0<k∧s= .opq (k+1) none)) (h0:L 0= []) (hL:L (k+1)=L k++bytesOf (e.den ρ) n) (hn:n≤8) (hl:(L k).length≤10000):
  zaJ prog ρ w0 K (rbG w0.heap.size L) (rbE k s e n):=by
 refine ⟨Dw.enters_of (by kernel_rfl),fun j w1 vals F m hv hnone hb hF hsz hf _=> ?_⟩
 have hb:m=k+2:=hb (by show (1:Nat)≠0;decide)
 subst hb
 obtain ⟨us,_,rfl,hus,hv⟩:=hv
 obtain ⟨x1,_,rfl,e1,hv⟩:=hv
 obtain ⟨x2,_,rfl,e2,hv⟩:=hv
 have hv:_= []:=hv
 subst hv
 have e1:x1= .int .u64 (e.den ρ):=e1
 have e2:x2= .int .i64 (n:Int):=e2
 subst e1 e2
 have hown:OwnR 5 1 w1 w0.heap.size us (L k).length (zbe (L k))∧ ∀b,us.ownBlock=some b→F b:=by
  rcases hs with ⟨rfl,rfl⟩|⟨hk,rfl⟩
  ·have:us= .slice none 0 0:=hus
   subst this
   rw [h0]
   exact ⟨OwnR.nil _ _ _ _,fun b h=>by cases h⟩
  ·obtain ⟨k',rfl⟩: ∃k',k=k'+1:=⟨k-1,by omega⟩
   obtain ⟨u,hq,ho,hF'⟩:=hf
   have:us=u:=by
    obtain ⟨⟨Lq,hj,hu⟩,_⟩:=hus
    unfold opqs at hq
    rw [hj] at hq
    simp only [Option.bind_some] at hq
    rw [hu] at hq
    injection hq
   subst this
   exact ⟨ho,hF'⟩
 obtain ⟨hown,hFo⟩:=hown
 refine Calls.mono (zpF (v:=e.den ρ) hown hsz hn hl) fun en w' hh=> ?_
 obtain ⟨u,rfl,hu,hbl,hmv,hou⟩:=hh
 rw [←hL] at hu
 refine ⟨_,[u],fun b=>F b∨u.ownBlock=some b,rfl,rfl,⟨⟨⟨0,0,0,some u⟩,?_,rfl⟩,OwnR.one hu,fun _ h=>(by cases h)⟩,⟨u,za7,hu,fun b hb=> .inr hb⟩,?_,hmv.mono fun b hb=>⟨hFo b hb,.inl (OwnR.lt hown b hb).1⟩⟩
 ·show jq j (k+2) _ (k+2)=_
  unfold jq
  rw [if_pos ⟨Nat.le_refl _,by simp⟩]
  simp
 ·rintro b (hb|hb)
  ·exact ⟨Nat.lt_of_lt_of_le (hF b hb) hmv.size,.inl hb⟩
  ·refine ⟨(OwnR.lt hu b hb).2,?_⟩
   rcases hou b hb with h|h
   ·exact .inl (hFo b h)
   ·exact .inr h
def Tryz.Pt.bytes (p:Pt):List Int:=bytesOf p.a 8++bytesOf p.ln 4++bytesOf p.f 2++bytesOf p.nx 2
theorem Tryz.Pt.bytes_len (p:Pt):p.bytes.length=16:=by simp [Pt.bytes,zcA]
theorem Tryz.Pt.bytes_bnd (p:Pt): ∀x∈p.bytes,0≤x∧x<256:=fun x hx=>by
 unfold Pt.bytes at hx
 rw [List.mem_append,List.mem_append,List.mem_append] at hx
 rcases hx with ((h|h)|h)|h<;>exact zlC _ _ x h
structure Tryz.Pt.ok (p:Pt):Prop where
 a:0≤p.a∧p.a<18446744073709551616
 ln:0≤p.ln∧p.ln<4294967296
 f:0≤p.f∧p.f<65536
 nx:0≤p.nx∧p.nx<65536
theorem Tryz.zmJ (p:Pt) (hp:p.ok) (w:World):
  Calls prog 37 #[.agg #[.int .u64 p.a,.int .u32 p.ln,.int .u16 p.f,.int .u16 p.nx]] w fun e w'=> ∃u,e= .returned u∧OwnR 5 1 w' w.heap.size u p.bytes.length (zbe p.bytes)∧Below w.heap.size w w':=by
 obtain ⟨ρ,d3,d4,d5,d6⟩: ∃ρ:Val,(u64v 3).den ρ=p.a∧(u32v 4).den ρ=p.ln∧(u16v 5).den ρ=p.f∧(u16v 6).den ρ=p.nx:=
  ⟨vof [0,0,0,p.a,p.ln,p.f,p.nx] [] [],zav hp.a.1 hp.a.2,zbp hp.ln.1 hp.ln.2,zaW hp.f.1 hp.f.2,zaW hp.nx.1 hp.nx.2⟩
 let L:Nat→List Int:=fun k=>match k with
  | 0=> []|1=>bytesOf p.a 8|2=>bytesOf p.a 8++bytesOf p.ln 4|3=>bytesOf p.a 8++bytesOf p.ln 4++bytesOf p.f 2|_=>p.bytes
 have l1:(L 1).length=8:=by simp [L,zcA]
 have l2:(L 2).length=12:=by simp [L,zcA]
 have l3:(L 3).length=14:=by simp [L,zcA]
 refine Calls.mono (zap (ρ:=ρ) (K:=fun _=>False) (g:=rbG w.heap.size L) (bl:= []) (vals:= [.agg #[.int .u64 p.a,.int .u32 p.ln,.int .u16 p.f,.int .u16 p.nx]]) mixed rby_run rby_ok (fun b h=>h.elim) trivial trivial ⟨fun _=>False,fun _ h=>h.elim,trivial⟩
  ⟨zlR (n:=8) (.inl ⟨rfl,rfl⟩) rfl (by rw [d3];rfl) (by decide) (Nat.zero_le _),zlR (n:=4) (.inr ⟨by decide,rfl⟩) rfl (by rw [d4];rfl) (by decide) (by omega),zlR (n:=2) (.inr ⟨by decide,rfl⟩) rfl (by rw [d5];rfl) (by decide) (by omega),zlR (n:=2) (.inr ⟨by decide,rfl⟩) rfl (by rw [d6];rfl) (by decide) (by omega),trivial⟩
  (zaa (zlG (zaa (zab d3) (zaa (zab d4) (zaa (zab d5) (zaa (zab d6) RL.nil))))) RL.nil) (told_nil.2 trivial)) fun e w' hh=> ?_
 obtain ⟨_,j,he⟩:=za1 hh
 have hb:=zag he (fun _ h=>h)
 obtain ⟨F2,_,u,hu,hou,_⟩:=he.gho
 exact ⟨u,he.ret.trans (by rw [zcR hu]),hou,hb⟩
end Go.Proofs
namespace Go.Proofs
open Go.Dw Go.RowKit
def Tryz.ofIds (l:List (SE×Nat)):AV:= .sx 3 (lnv 4) 1 l
def Tryz.ofSegs:AV:= .sx 1 (lnv 4) 3 []
def Tryz.rowRg:List AV:= [.bool (.lit false),.int .i64 (szv 0),.int .u64 (u64v 1),.int .u64 (u64v 2),.int .u64 (u64v 3)]
def Tryz.ziy (ids:AV) (q:Nat):Ent:=⟨39,[ids,ofSegs],0,q,1,.tup [.opq q none,.int .i64 (.var 7)],1⟩
def Tryz.ofPickE:Ent:=⟨7,[.int .i64 (.var 5),.int .i64 (szv 0)],2,0,0,.int .i64 (.var 14),2⟩
def Tryz.ofRingE:Ent:=⟨20,[rg,.int .i64 (.lit 4),.int .i64 (.var 14)],2,0,0,.tup [.int .u64 (.var 15),.int .i64 (.lit 2),.int .i64 (.lit 0)],2⟩
def Tryz.ofIdxE:Ent:=⟨20,[rg,.int .i64 (.lit 3),.int .i64 (.lit 0)],2,0,0,.tup [.int .u64 (.var 16),.int .i64 (.lit 2),.int .i64 (.lit 0)],2⟩
def Tryz.zix (k:Nat) (a v:SE):Ent:=⟨26,[.cst 0 none,.int .u64 a,.int .i64 (.lit 2),.int .u64 v],k,0,0,.int .i64 (.lit 0),k+1⟩
def Tryz.zb7 (b:Nat) (ids p i:AV):List (Nat×AV):= [(0,.cst 0 none),(2,ids),(4,.int .i64 (.var 5)),(6,.ptr b 0),(11,p),(12,.int .i64 (.var 7)),(13,i)]
def Tryz.zdy (b q:Nat) (ids:AV):LEnt:=⟨[0,1,0,1,1,12],87,1,zb7 b ids (.opq q none) (.int .i64 (.lit 0)),[],[(b,rowRg)],0,0,[⟨.lit true,.exit 0,[(0,.cst 0 none),(2,ids),(4,.int .i64 (.var 5)),(6,.ptr b 0),(12,.int .i64 (.var 7))],2⟩]⟩
def Tryz.ofBytesE:Ent:=⟨37,[.agg [.int .u64 (u64v 10),.int .u32 (u32v 11),.int .u16 (u16v 12),.int .u16 (u16v 13)]],0,3,1,.opq 3 none,1⟩
def Tryz.ofWriteE:Ent:=⟨52,[.cst 0 none,.int .u64 (.bin .add .u64 (u64v 1) (.bin .mul .u64 (.lit 16) (.wrap .u64 (.var 8)))),.opq 3 none],1,0,0,.int .i64 (.lit 0),2⟩
end Go.Proofs
namespace Go.Proofs
open Go.Dw

def Tryz.ofb_ents:List Ent:= [ofBytesE,ofWriteE]
def Tryz.ofb_shs:List Sh:= [.ro rowRg,.ro [.int .i64 (.var 8),.int .u64 (u64v 10),.int .u32 (u32v 11),.int .u16 (u16v 12),.int .u16 (u16v 13)]]
def Tryz.ofb_slots:List (Nat×AV):=zb7 1 (ofIds []) (.sx 2 (lnv 17) 5 [(lnv 6,2)]) (.int .i64 (lnv 6))
def Tryz.ofb_lents:List LEnt:= []
def Tryz.ofb_aents:List AEnt:= []
def Tryz.ofb_dfr:Option AV:=none
def Tryz.ofb_asm:List (SB×Bool):= [(.cmp .lss (lnv 6) (lnv 17),true)]
def Tryz.ofb_ls:List CLeaf:= [
 ⟨.normal,[0,2,4,6,11,12,13],none,⟨.tup [.cst 0 none,.sx 3 ((lnv 4)) 1 [],.int .i64 (.var 5),.ptr 1 0,.sx 2 ((lnv 17)) 5 [((lnv 6),2)],.int .i64 (.var 7),.int .i64 (.bin .add .i64 (lnv 6) (.lit 1))],[(1,[.bool (.lit false),.int .i64 (szv 0),.int .u64 (u64v 1),.int .u64 (u64v 2),.int .u64 (u64v 3)])],[],2,[]⟩⟩]
def Tryz.ofb_ps:List (List (SB×Bool)×Nat):= [
 ([], 0)]
theorem Tryz.ofb_run:(evL prog (entOrc ofb_ents) (zao ofb_lents) (aentOrc ofb_aents) 100000 (.code (codeR prog [0,0,1,0,1,1,12]) [0,0,1,0,1,1,12] 87 (envS 87 ofb_slots ofb_dfr) (zaj 0 ofb_shs) (cleafAt ofb_ls 0))).ways ofb_asm=some ofb_ps:=by kernel_rfl
theorem Tryz.ofb_ok:(shsSmall ofb_shs&&entsSmall ofb_ents&&lentsSmall ofb_lents&&aentsSmall ofb_aents&&slotsSmall ofb_slots&&cleavesExact ofb_ls&&zaq 87 ofb_slots&&Nat.ble 87 dslot&&dfrSmall ofb_dfr)=true:=by kernel_rfl

def Tryz.ofbe_ents:List Ent:= []
def Tryz.ofbe_shs:List Sh:= [.ro rowRg]
def Tryz.ofbe_slots:List (Nat×AV):=zb7 1 (ofIds []) (.sx 2 (lnv 17) 5 []) (.int .i64 (lnv 6))
def Tryz.ofbe_lents:List LEnt:= []
def Tryz.ofbe_aents:List AEnt:= []
def Tryz.ofbe_dfr:Option AV:=none
def Tryz.ofbe_asm:List (SB×Bool):= [(.cmp .lss (lnv 6) (lnv 17),false)]
def Tryz.ofbe_ls:List CLeaf:= [
 ⟨(.exit 0),[0,2,4,6,12],none,⟨.tup [.cst 0 none,.sx 3 ((lnv 4)) 1 [],.int .i64 (.var 5),.ptr 1 0,.int .i64 (.var 7)],[(1,[.bool (.lit false),.int .i64 (szv 0),.int .u64 (u64v 1),.int .u64 (u64v 2),.int .u64 (u64v 3)])],[],0,[]⟩⟩]
def Tryz.ofbe_ps:List (List (SB×Bool)×Nat):= [
 ([], 0)]
theorem Tryz.ofbe_run:(evL prog (entOrc ofbe_ents) (zao ofbe_lents) (aentOrc ofbe_aents) 100000 (.code (codeR prog [0,0,1,0,1,1,12]) [0,0,1,0,1,1,12] 87 (envS 87 ofbe_slots ofbe_dfr) (zaj 0 ofbe_shs) (cleafAt ofbe_ls 0))).ways ofbe_asm=some ofbe_ps:=by kernel_rfl
theorem Tryz.ofbe_ok:(shsSmall ofbe_shs&&entsSmall ofbe_ents&&lentsSmall ofbe_lents&&aentsSmall ofbe_aents&&slotsSmall ofbe_slots&&cleavesExact ofbe_ls&&zaq 87 ofbe_slots&&Nat.ble 87 dslot&&dfrSmall ofbe_dfr)=true:=by kernel_rfl

def Tryz.of1_ents:List Ent:= [ziy (ofIds [(.lit 0,1)]) 3,ofPickE,ofRingE,ofIdxE,zix 2 (.var 15) (.wrap .u64 (.var 9)),zix 3 (.var 16) (.wrap .u64 (.bin .add .i64 (.var 5) (.lit 1)))]
def Tryz.of1_shs:List Sh:= [.ro [.int .i64 (.var 9)]]
def Tryz.of1_args:List AV:= [.cst 0 none,rg,ofIds [(.lit 0,1)],ofSegs,.int .i64 (.var 5)]
def Tryz.of1_lents:List LEnt:= [zdy 2 3 (ofIds [(.lit 0,1)])]
def Tryz.of1_aents:List AEnt:= []
def Tryz.of1_asm:List (SB×Bool):= [(.cmp .eql (.var 7) (.lit 0),true),(.cmp .lss (.lit 0) (lnv 4),true)]
def Tryz.of1_ls:List Leaf:= [
 ⟨.bool (.lit true),[],[],4,[]⟩]
def Tryz.of1_ps:List (List (SB×Bool)×Nat):= [
 ([], 0)]
theorem Tryz.of1_run:(evL prog (entOrc of1_ents) (zao of1_lents) (aentOrc of1_aents) 100000 (.call 12 of1_args (zaj 0 of1_shs) (leafAt of1_ls 0))).ways of1_asm=some of1_ps:=by kernel_rfl
theorem Tryz.of1_ok:(shsSmall of1_shs&&entsSmall of1_ents&&lentsSmall of1_lents&&aentsSmall of1_aents&&AV.smallL of1_args&&leavesExact of1_ls)=true:=by kernel_rfl

def Tryz.of0_ents:List Ent:= [ziy (ofIds []) 2,ofPickE,ofRingE,ofIdxE]
def Tryz.of0_shs:List Sh:= []
def Tryz.of0_args:List AV:= [.cst 0 none,rg,ofIds [],ofSegs,.int .i64 (.var 5)]
def Tryz.of0_lents:List LEnt:= [zdy 1 2 (ofIds [])]
def Tryz.of0_aents:List AEnt:= []
def Tryz.of0_asm:List (SB×Bool):= [(.cmp .eql (.var 7) (.lit 0),false)]
def Tryz.of0_ls:List Leaf:= [
 ⟨.bool (.lit false),[],[],2,[]⟩]
def Tryz.of0_ps:List (List (SB×Bool)×Nat):= [
 ([], 0)]
theorem Tryz.of0_run:(evL prog (entOrc of0_ents) (zao of0_lents) (aentOrc of0_aents) 100000 (.call 12 of0_args (zaj 0 of0_shs) (leafAt of0_ls 0))).ways of0_asm=some of0_ps:=by kernel_rfl
theorem Tryz.of0_ok:(shsSmall of0_shs&&entsSmall of0_ents&&lentsSmall of0_lents&&aentsSmall of0_aents&&AV.smallL of0_args&&leavesExact of0_ls)=true:=by kernel_rfl
end Go.Proofs
namespace Go.Proofs
open Go.Dw Go.RowKit Go.Maps Go.Sort

theorem Tryz.zhy (ps:List Pt):(zcq ps).length=5*ps.length:=by
 induction ps with
 | nil=>rfl
 | cons p ps ih=>simp only [zcq,List.flatMap_cons,List.length_append,List.length_cons] at ih ⊢;rw [ih];simp [Pt.cells];omega
theorem Tryz.ptCells_get: ∀(ps:List Pt) (k:Nat) (hk:k<ps.length) (j:Nat),j<5→(zcq ps)[5*k+j]? =ps[k].cells[j]?
 | p::ps,0,_,j,hj=>by
  simp only [zcq,List.flatMap_cons,Nat.mul_zero,Nat.zero_add,List.getElem_cons_zero]
  rw [List.getElem?_append_left (by simp [Pt.cells];omega)]
 | p::ps,k+1,hk,j,hj=>by
  have:=ptCells_get ps k (by simpa using hk) j hj
  simp only [zcq,List.flatMap_cons,List.getElem_cons_succ] at this ⊢
  rw [List.getElem?_append_right (by simp [Pt.cells];omega),←this]
  congr 1
  simp [Pt.cells];omega
theorem Tryz.zpR {w:World} {G o:Nat} {ps:List Pt} (h:w.rangeAt G o (zcq ps)) (k:Nat) (hk:k<ps.length):w.rangeAt G (o+5*k) ps[k].cells:=fun j v hv=>by
 have hj:j<5:=by
  have:=(List.getElem?_eq_some_iff.1 hv).1
  simpa [Pt.cells] using this
 have:=h (5*k+j) v (by rw [ptCells_get ps k hk j hj];exact hv)
 rw [show o+5*k+j=o+(5*k+j) by omega]
 exact this
def Tryz.zeX (d:Int) (ps:List Pt) (g:Nat→Int):Nat→Int:=ps.foldl (fun g p=>putL g (d+16*p.at0).toNat p.bytes) g
theorem Tryz.zmK (d:Int) (ps:List Pt) (p:Pt) (g:Nat→Int):zeX d (ps++ [p]) g=putL (zeX d ps g) (d+16*p.at0).toNat p.bytes:=by simp [zeX]
def Tryz.memC (P L Bs B N:Nat) (gk:Nat→Nat→Int) (C:Gho):Gho where
 fact k q F w:=(F P∧F L∧F Bs∧F B∧GM w P L Bs B N (gk k))∧C.fact k q F w
 loc:=fun k q q' F w w' h hq hb hs=>by
  obtain ⟨⟨h1,h2,h3,h4,h6⟩,h7⟩:=h
  exact ⟨⟨h1,h2,h3,h4,h6.kept (fun b _ hb'=>by rcases hb' with rfl|rfl|rfl|rfl<;>exact hb _ (by assumption)) hs⟩,C.loc k q q' F w w' h7 hq hb hs⟩
def Tryz.byC (b2:Nat) (xs:List Int):Gho where
 fact k q F w:=match k with|1=> ∃u,q 3=some u∧OwnR 5 1 w b2 u xs.length (zbe xs)∧ ∀b,u.ownBlock=some b→F b|_=>True
 loc:=fun k q q' F w w' h hq hb hs=>by
  match k,h with
  | 0,_=>trivial
  | 1,⟨u,h7,h8,h9⟩=>exact ⟨u,hq _ _ h7,OwnR.kept h8 fun b e=>hb b (h9 b e),h9⟩
  | k+2,_=>trivial
def Tryz.ptC (sa:Option Addr) (ls:List Sg) (b2 qn:Nat) (ps:List Pt):Gho where
 fact k q F w:=match k with|0=>SegF F w sa ls|1=> ∃u,q qn=some u∧zi6 w b2 u ps∧ ∀b,u.ownBlock=some b→F b|_=>True
 loc:=fun k q q' F w w' h hq hb hs=>by
  match k,h with
  | 0,h=>exact SegF.kept h hb
  | 1,⟨u,h7,h8,h9⟩=>exact ⟨u,hq _ _ h7,OwnR.kept h8 fun b e=>hb b (h9 b e),h9⟩
  | k+2,_=>trivial
def Tryz.zpY (r:Rg) (len n5 k e x8 x9:Int) (p:Pt) (x14 x15 x16 l17:Int) (mv sv pv iv:Value):Val:=vof [r.n,r.d,r.v,r.c,len,n5,k,e,x8,x9,p.a,p.ln,p.f,p.nx,x14,x15,x16,l17] [] [mv,sv,pv,iv]
structure Tryz.OfD (ρ:Val) (r:Rg) (len n5 k e x8 x9:Int) (p:Pt) (x14 x15 x16 l17:Int) (mv sv pv iv:Value):Prop where
 n:(szv 0).den ρ=r.n
 d:(u64v 1).den ρ=r.d
 v:(u64v 2).den ρ=r.v
 c:(u64v 3).den ρ=r.c
 d4:(lnv 4).den ρ=len
 i5:ρ.i 5=n5
 d6:(lnv 6).den ρ=k
 i7:ρ.i 7=e
 i8:ρ.i 8=x8
 i9:ρ.i 9=x9
 d10:(u64v 10).den ρ=p.a
 d11:(u32v 11).den ρ=p.ln
 d12:(u16v 12).den ρ=p.f
 d13:(u16v 13).den ρ=p.nx
 i14:ρ.i 14=x14
 i15:ρ.i 15=x15
 i16:ρ.i 16=x16
 d17:(lnv 17).den ρ=l17
 v0:ρ.v 0=mv
 v1:ρ.v 1=sv
 v2:ρ.v 2=pv
 v3:ρ.v 3=iv
theorem Tryz.ofD {r:Rg} {len n5 k e x8 x9:Int} {p:Pt} {x14 x15 x16 l17:Int} {mv sv pv iv:Value} (hr:RgOk r) (h4:0≤len∧len<64000) (h6:0≤k∧k<64000) (hp:p.ok) (h17:0≤l17∧l17<64000):OfD (zpY r len n5 k e x8 x9 p x14 x15 x16 l17 mv sv pv iv) r len n5 k e x8 x9 p x14 x15 x16 l17 mv sv pv iv:=by
 have hb:=hr.bnd
 have q1:=hr.dE
 have q2:=hr.vE
 have q3:=hr.cE
 exact ⟨zds (is:= [len,n5,k,e,x8,x9,p.a,p.ln,p.f,p.nx,x14,x15,x16,l17]) (bs:= []) (vs:= [mv,sv,pv,iv]) hr,zav hr.d0 (by show r.d<_;omega),zav hr.v0 (by show r.v<_;omega),zav hr.c0 (by show r.c<_;omega),
  zaB h4.1 (by show len<_;omega),rfl,zaB h6.1 (by show k<_;omega),rfl,rfl,rfl,zav hp.a.1 hp.a.2,zbp hp.ln.1 hp.ln.2,zaW hp.f.1 hp.f.2,zaW hp.nx.1 hp.nx.2,rfl,rfl,rfl,zaB h17.1 (by show l17<_;omega),rfl,rfl,rfl,rfl⟩
def Tryz.okPt0:Pt:=⟨0,0,0,0,0⟩
theorem Tryz.okPt0_ok:okPt0.ok:=⟨by decide,by decide,by decide,by decide⟩
theorem Tryz.OfD.rgL {ρ:Val} {j:J} {r:Rg} {len n5 k e x8 x9:Int} {p:Pt} {x14 x15 x16 l17:Int} {mv sv pv iv:Value} (D:OfD ρ r len n5 k e x8 x9 p x14 x15 x16 l17 mv sv pv iv):RL ρ j rowRg [.bool false,.int .i64 r.n,.int .u64 r.d,.int .u64 r.v,.int .u64 r.c]:=
 zaa (zaH rfl) (zaa (zab D.n) (zaa (zab D.d) (zaa (zab D.v) (zaa (zab D.c) RL.nil))))
theorem Tryz.OfD.rgR {ρ:Val} {j:J} {r:Rg} {len n5 k e x8 x9:Int} {p:Pt} {x14 x15 x16 l17:Int} {mv sv pv iv:Value} (D:OfD ρ r len n5 k e x8 x9 p x14 x15 x16 l17 mv sv pv iv):Dw.R ρ j rg r.val:=zlG D.rgL
theorem Tryz.zjy {w:World} {L:Dw.Loc} {vals:List Value} (h:Row w L vals):w.rangeAt L.blk L.off vals:=fun i v hv=>by
 obtain ⟨arr,e,fr,h1,h2⟩:=h
 simp only [World.cell?,h1]
 exact h2 i v hv
theorem Tryz.zb1 {w:World} {L:Dw.Loc} {ρ:Val} {j:J} {K:Nat→Prop} {g:Gho} {row:List AV} {vals:List Value} (h:Row w L vals) (h0:vals≠ []) (hr:RL ρ j row vals) (hK: ¬K L.blk):ShOk ρ j (cxOf w K g) (L.blk,L.off) (.ro row):=zaw (zjy h) h0 hr hK
set_option maxRecDepth 10000 in
set_option maxHeartbeats 2000000 in
theorem Tryz.zn0 {ρ:Val} {w0:World} {P L Bs B N:Nat} {gk:Nat→Nat→Int} {sa ia:Option Addr} {ls:List Sg} {b qn c nl:Nat} {sx:List (SE×Nat)} {ps:List Pt} {r:Rg} {n5 e x8 x9 x14 x15 x16 l17:Int} {sv pv:Value} {p0:Pt}
  (D:OfD ρ r nl n5 0 e x8 x9 p0 x14 x15 x16 l17 (.pointer (some ⟨P,0,none⟩)) sv pv (.slice ia nl c)) (hr:RgOk r) (hN:N≤1048576) (hfit:r.d+16*r.n≤N) (hnl:nl<60000) (hpl:ps.length<60000) (hps: ∀p∈ps,p.ok∧0≤p.at0∧p.at0<r.n)
  (hlo:P<w0.heap.size∧L<w0.heap.size∧Bs<w0.heap.size∧B<w0.heap.size) (hg2:gk 2=zeX r.d ps (gk 1)):
  zgc prog ρ w0 (fun y=>y=B) (memC P L Bs B N gk (ptC sa ls w0.heap.size qn ps)) (zdy b qn (ofIds sx)):=by
 refine zed ?_
 intro cc hc j a w F n hsz hdf hsl hrw hnone hbase hF hs0 hf hold
 obtain ⟨⟨fP,fL,fS,fB,hm⟩,u,hq,hou,hFu⟩:=hf
 have hsl0:=(hsl (0,.cst 0 none) (by simp [zdy,zb7])).2
 have hsl2:=(hsl (2,ofIds sx) (by simp [zdy,zb7])).2
 have hsl4:=(hsl (4,.int .i64 (.var 5)) (by simp [zdy,zb7])).2
 have hsl6:=(hsl (6,.ptr b 0) (by simp [zdy,zb7])).2
 have hsl11:=(hsl (11,.opq qn none) (by simp [zdy,zb7])).2
 have hsl12:=(hsl (12,.int .i64 (.var 7)) (by simp [zdy,zb7])).2
 have hsl13:=(hsl (13,.int .i64 (.lit 0)) (by simp [zdy,zb7])).2
 have g0:=R_val rfl hsl0
 have g2:=R_val rfl hsl2
 have g4:=R_val rfl hsl4
 have g12:=R_val rfl hsl12
 have g13:=R_val rfl hsl13
 simp only [AV.val,ofIds,D.v0,D.v3,zac,zai,D.i5,D.i7] at g0 g2 g4 g12 g13
 obtain ⟨Lb,hjb,g6⟩:=hsl6
 obtain ⟨hLF,vals,hvals,hrow⟩:=hrw (b,rowRg) (by simp [zdy]) Lb hjb
 have hvals:=zbY (show AV.exactL rowRg=true by decide) hvals D.rgL
 subst hvals
 have g11:a.tmps.getD 11 undef=u:=by
  obtain ⟨⟨Lq,hj,hu⟩,_⟩:=hsl11
  unfold opqs at hq
  rw [hj] at hq
  simp only [Option.bind_some] at hq
  rw [hu] at hq
  injection hq
 have hcc:cc=codeR prog [0,0,1,0,1,1,12]:=by
  have:=zcU (P:=prog) (p:= [0,1,0,1,1,12]) (by kernel_rfl)
  have hc:codeR prog [0,1,0,1,1,12]= .loop cc:=hc
  rw [hc] at this
  injection this
 subst hcc
 have hsz:a.tmps.size=87:=hsz
 have hult:=OwnR.lt hou
 obtain ⟨su,cu,rfl,hur⟩:=OwnR.row hou
 have hLlt:Lb.blk<w.heap.size:=zeW hrow
 have hLB:Lb.blk≠B:=fun e=>hLF (e▸fB)
 refine zbd (fun (k:Nat) a' w'=>k≤ps.length∧a'.tmps.size=87∧a'.defers= []∧a'.tmps.getD 0 undef= .pointer (some ⟨P,0,none⟩)∧a'.tmps.getD 2 undef= .slice ia nl c∧a'.tmps.getD 4 undef= .int .i64 n5∧a'.tmps.getD 6 undef= .pointer (some ⟨Lb.blk,Lb.off+0,none⟩)∧a'.tmps.getD 11 undef= .slice su ps.length cu∧
   a'.tmps.getD 12 undef= .int .i64 e∧a'.tmps.getD 13 undef= .int .i64 k∧GM w' P L Bs B N (zeX r.d (ps.take k) (gk 1))∧Dw.Mv (fun y=>y=B) w w')
  (fun k=>ps.length-k) (fun k a1 w1 hI=> ?_) 0 a w ⟨Nat.zero_le _,hsz,hdf,g0,g2,g4,g6,g11,g12,by rw [g13];rfl,hm,Dw.Mv.refl _ _⟩
 obtain ⟨hkl,q0,qd,q00,q2,q4,q6,q11,q12,q13,hm1,hmv⟩:=hI
 have hrow1:Row w1 Lb [.bool false,.int .i64 r.n,.int .u64 r.d,.int .u64 r.v,.int .u64 r.c]:=hrow.kept (hmv.block _ hLlt hLB)
 have hwk:=zca k (by omega)
 have hj1: ∀x,jOf ((Lb.blk,Lb.off)::x) 1=some ⟨Lb.blk,Lb.off,0,none⟩:=fun _=>rfl
 by_cases hk:k<ps.length
 ·rcases hur with h0|⟨G,rfl,hGo,hur⟩
  ·have:=congrArg List.length h0
   rw [zhy] at this
   simp at this
   omega
  have hGlt:=hult G hGo
  have hur1:=zat hur (hmv.block G hGlt.2 (by omega))
  have hx:=zpR hur1 k hk
  obtain ⟨hpo,ha0,ha1⟩:=hps ps[k] (List.getElem_mem hk)
  have htk:ps.take (k+1)=ps.take k++ [ps[k]]:=by rw [List.take_add_one,List.getElem?_eq_getElem hk];rfl
  generalize hX:ps[k]=X at hx hpo ha0 ha1 htk
  have D':=ofD (r:=r) (len:=nl) (n5:=n5) (k:=k) (e:=e) (x8:=X.at0) (x9:=0) (p:=X) (x14:=0) (x15:=0) (x16:=0) (l17:=ps.length) (mv:= .pointer (some ⟨P,0,none⟩)) (sv:=undef) (pv:= .slice (some ⟨G,0,none⟩) ps.length cu) (iv:= .slice ia nl c) hr (by omega) (by omega) hpo (by omega)
  generalize zpY r nl n5 k e X.at0 0 X 0 0 0 ps.length (.pointer (some ⟨P,0,none⟩)) undef (.slice (some ⟨G,0,none⟩) ps.length cu) (.slice ia nl c)=ρ' at D'
  have hj2:jOf [(Lb.blk,Lb.off),(G,0+5*k)] 2=some ⟨G,0+5*k,0,none⟩:=rfl
  have hd0:=hr.d0
  have hda:(SE.bin .add .u64 (u64v 1) (.bin .mul .u64 (.lit 16) (.wrap .u64 (.var 8)))).den ρ'=((r.d+16*X.at0).toNat:Nat):=by
   have e8:(SE.wrap .u64 (.var 8)).den ρ'=X.at0:=by
    show IntKind.wrap .u64 (ρ'.i 8)=_
    rw [D'.i8];exact zay (by omega) (by omega)
   rw [den_add,den_mul,e8,zac,D'.d,zay (k:=16*X.at0) (by omega) (by omega),zay (by omega) (by omega)]
   omega
  refine wp_mono (zam (ρ:=ρ') (K:=fun y=>y=B) (g:=memC P L Bs B N (fun k'=>match k' with|2=>zeX r.d (ps.take (k+1)) (gk 1)|_=>zeX r.d (ps.take k) (gk 1)) (byC w1.heap.size X.bytes)) (bl:= [(Lb.blk,Lb.off),(G,0+5*k)]) mixed ofb_run ofb_ok (fun y h=>by rw [h];exact hm1.bl)
   ⟨zb1 hrow1 (by simp) D'.rgL hLB,zaw hx (by simp [Pt.cells]) (zaa (zab D'.i8) (zaa (zab D'.d10) (zaa (zab D'.d11) (zaa (zab D'.d12) (zaa (zab D'.d13) RL.nil))))) (by omega),trivial⟩
   ⟨fun h=>(by cases h),fun h=>(by cases h),trivial⟩ ?_ ⟨?_,?_,trivial⟩ trivial trivial q0 qd ?_ (told_cons_iff.2 ⟨by rw [zaz,D'.d6,D'.d17];simp only [decide_eq_true_eq];omega,told_nil.2 trivial⟩)) fun ex a2 w2 hh=> ?_
  ·refine ⟨fun y=>y=P∨y=L∨y=Bs∨y=B,fun y hy=>⟨?_,fun hmn=> ?_⟩,⟨.inl rfl,.inr (.inl rfl),.inr (.inr (.inl rfl)),.inr (.inr (.inr rfl)),hm1⟩,trivial⟩
   ·rcases hy with rfl|rfl|rfl|rfl
    ·exact hm1.pl
    ·exact hm1.ll
    ·exact hm1.sl
    ·exact hm1.bl
   ·have:=zce hmn
    simp only [List.map_cons,List.map_nil,List.mem_cons,List.not_mem_nil,or_false] at this
    rcases this with e1|e1
    ·rcases hy with h|h|h|h<;>(rw [h] at e1;rw [←e1] at hLF;contradiction)
    ·rcases hy with h|h|h|h<;>omega
  ·refine ⟨Dw.enters_of (by kernel_rfl),fun j' w3 vals' F' m hv hnone' hb' hF' hsz' hf' _=> ?_⟩
   have hb':m=3:=hb' (by show (1:Nat)≠0;decide)
   subst hb'
   have hv:=zbY (show AV.exactL ofBytesE.args=true by decide) hv (zaa (zlG (zaa (zab D'.d10) (zaa (zab D'.d11) (zaa (zab D'.d12) (zaa (zab D'.d13) RL.nil))))) RL.nil)
   subst hv
   obtain ⟨⟨f1,f2,f3,f4,hm3⟩,_⟩:=hf'
   refine Calls.mono (zmJ X hpo w3) fun en w' hh=> ?_
   obtain ⟨v,rfl,hv,hbl⟩:=hh
   refine ⟨_,[v],fun y=>F' y∨v.ownBlock=some y,rfl,rfl,⟨⟨⟨0,0,0,some v⟩,?_,rfl⟩,OwnR.one hv,fun _ h=>(by cases h)⟩,⟨⟨.inl f1,.inl f2,.inl f3,.inl f4,GM.below (g:=zeX r.d (ps.take k) (gk 1)) hm3 hbl⟩,v,za7,OwnR.mono hv hsz',fun y h=> .inr h⟩,?_,Dw.Mv.of_below hbl⟩
   ·show jq j' 3 _ 3=_
    unfold jq
    rw [if_pos ⟨Nat.le_refl _,by simp⟩]
    simp
   ·rintro y (h|h)
    ·exact ⟨Nat.lt_of_lt_of_le (hF' y h) hbl.size,.inl h⟩
    ·exact ⟨(OwnR.lt hv y h).2,.inr (OwnR.lt hv y h).1⟩
  ·refine ⟨Dw.enters_of (by kernel_rfl),fun j' w3 vals' F' m hv hnone' hb' hF' hsz' hf' _=> ?_⟩
   obtain ⟨x0,_,rfl,e0,hv⟩:=hv
   obtain ⟨x1,_,rfl,e1,hv⟩:=hv
   obtain ⟨x2,_,rfl,e2,hv⟩:=hv
   have hv:_= []:=hv
   subst hv
   obtain ⟨⟨f1,f2,f3,f4,hm3⟩,v,hq3,hv3,hFv⟩:=hf'
   have hm3:GM w3 P L Bs B N (zeX r.d (ps.take k) (gk 1)):=hm3
   have e0:x0= .pointer (some ⟨P,0,none⟩):=by rw [R_val rfl e0];exact D'.v0
   have e1:x1= .int .u64 ((r.d+16*X.at0).toNat:Nat):=by rw [show x1= .int .u64 (SE.den ρ' (.bin .add .u64 (u64v 1) (.bin .mul .u64 (.lit 16) (.wrap .u64 (.var 8))))) from e1,hda]
   have e2:x2=v:=by
    obtain ⟨⟨Lq,hj,hu⟩,_⟩:=e2
    unfold opqs at hq3
    rw [hj] at hq3
    simp only [Option.bind_some] at hq3
    rw [hu] at hq3
    injection hq3
   subst e0 e1 e2
   have hvl:=OwnR.lt hv3
   obtain ⟨sv',cv,rfl,hvr⟩:=OwnR.row hv3
   rcases hvr with h0|⟨G',rfl,hGo',hvr⟩
   ·have:=congrArg List.length h0
    rw [zbe,List.length_map,Pt.bytes_len] at this
    cases this
   refine Calls.mono (zpg P L Bs B N _ G' 0 cv X.bytes _ w3 hm3 hN (by rw [Pt.bytes_len];decide) (by rw [Pt.bytes_len];omega) X.bytes_bnd hvr (hvl G' hGo').2) fun en w' hh=> ?_
   obtain ⟨rfl,hm4,hmv4⟩:=hh
   refine ⟨_,[],F',rfl,rfl,?_,⟨⟨f1,f2,f3,f4,?_⟩,trivial⟩,fun y h=>⟨Nat.lt_of_lt_of_le (hF' y h) hmv4.size,.inl h⟩,(zsn hmv4).mono fun y h=>by subst h;exact ⟨f4,.inr rfl⟩⟩
   ·exact zab rfl
   ·show GM w' P L Bs B N (zeX r.d (ps.take (k+1)) (gk 1))
    rw [htk,zmK];exact hm4
  ·intro t ht
   simp only [ofb_slots,zb7,List.mem_cons,List.not_mem_nil,or_false] at ht
   rcases ht with rfl|rfl|rfl|rfl|rfl|rfl|rfl
   ·rw [q00];exact zaD D'.v0 rfl
   ·rw [q2];exact ⟨D'.v3.symm,_,_,_,rfl,D'.d4.symm,trivial⟩
   ·rw [q4];exact zab D'.i5
   ·rw [q6];exact ⟨_,hj1 _,rfl⟩
   ·rw [q11];exact ⟨D'.v2.symm,_,_,_,rfl,D'.d17.symm,⟨G,0,_,k,rfl,hj2,rfl,D'.d6,hk,rfl⟩,trivial⟩
   ·rw [q12];exact zab D'.i7
   ·rw [q13];exact zab D'.d6
  ·obtain ⟨q,hq',hto,lf,hlf,rfl,hsz2,j2,hdf2,he⟩:=hh
   unfold ofb_ps at hq'
   simp only [List.mem_cons,List.not_mem_nil,or_false] at hq'
   subst hq'
   cases hlf
   obtain ⟨F2,_,⟨_,_,_,_,hm5⟩,_⟩:=he.gho
   have hs2:=zal he.ret
   have lc1:=zad (he.sub _ _ (hj1 [(G,0+5*k)]))
   simp only [AV.valL,AV.val,D'.v0,D'.v2,D'.v3,D'.d6,D'.i5,D'.i7,zai,den_add,zac,hwk,lc1,List.map_cons,List.map_nil,List.cons.injEq,and_true] at hs2
   obtain ⟨p0',p2',p4',p6',p11',p12',p13'⟩:=hs2
   exact ⟨k+1,by omega,hk,hsz2,hdf2,p0',p2',p4',p6',p11',p12',p13',hm5,hmv.trans he.mv⟩
 ·have hkk:k=ps.length:=by omega
  subst hkk
  have D':=ofD (r:=r) (len:=nl) (n5:=n5) (k:=ps.length) (e:=e) (x8:=0) (x9:=0) (p:=okPt0) (x14:=0) (x15:=0) (x16:=0) (l17:=ps.length) (mv:= .pointer (some ⟨P,0,none⟩)) (sv:=undef) (pv:= .slice su ps.length cu) (iv:= .slice ia nl c) hr (by omega) (by omega) okPt0_ok (by omega)
  generalize zpY r nl n5 ps.length e 0 0 okPt0 0 0 0 ps.length (.pointer (some ⟨P,0,none⟩)) undef (.slice su ps.length cu) (.slice ia nl c)=ρ' at D'
  refine wp_mono (zam (ρ:=ρ') (K:=fun _=>False) (g:=Gho.none) (bl:= [(Lb.blk,Lb.off)]) mixed ofbe_run ofbe_ok (fun y h=>h.elim) ⟨zb1 hrow1 (by simp) D'.rgL (fun h=>h),trivial⟩ ⟨fun h=>(by cases h),trivial⟩ zas trivial trivial trivial q0 qd ?_ (told_cons_iff.2 ⟨by rw [zaz,D'.d6,D'.d17];simp,told_nil.2 trivial⟩)) fun ex a2 w2 hh=> ?_
  ·intro t ht
   simp only [ofbe_slots,zb7,List.mem_cons,List.not_mem_nil,or_false] at ht
   rcases ht with rfl|rfl|rfl|rfl|rfl|rfl|rfl
   ·rw [q00];exact zaD D'.v0 rfl
   ·rw [q2];exact ⟨D'.v3.symm,_,_,_,rfl,D'.d4.symm,trivial⟩
   ·rw [q4];exact zab D'.i5
   ·rw [q6];exact ⟨_,hj1 _,rfl⟩
   ·rw [q11];exact ⟨D'.v2.symm,_,_,_,rfl,D'.d17.symm,trivial⟩
   ·rw [q12];exact zab D'.i7
   ·rw [q13];exact zab D'.d6
  ·obtain ⟨q,hq',hto,lf,hlf,rfl,hsz2,j2,hdf2,he⟩:=hh
   have hb3:=zag he (fun _ h=>h)
   unfold ofbe_ps at hq'
   simp only [List.mem_cons,List.not_mem_nil,or_false] at hq'
   subst hq'
   cases hlf
   have hs2:=zal he.ret
   have lc1:=zad (he.sub _ _ (hj1 []))
   simp only [AV.valL,AV.val,D'.v0,D'.v3,D'.i5,D'.i7,zai,lc1,List.map_cons,List.map_nil,List.cons.injEq,and_true] at hs2
   obtain ⟨p0',p2',p4',p6',p12'⟩:=hs2
   rw [List.take_length] at hm1
   refine ⟨⟨.lit true,.exit 0,[(0,.cst 0 none),(2,ofIds sx),(4,.int .i64 (.var 5)),(6,.ptr b 0),(12,.int .i64 (.var 7))],2⟩,[],F,by unfold zdy;rw [zaT,if_pos (show SB.den ρ (.lit true)=true from rfl)],rfl,hsz2,hdf2,(fun t ht=>by cases ht),rfl,fun s hs=> ?_,⟨⟨fP,fL,fS,fB,?_⟩,trivial⟩,fun y h=>⟨Nat.lt_of_lt_of_le (hF y h) (Nat.le_trans hmv.size hb3.size),.inl h⟩,(hmv.trans (Dw.Mv.of_below hb3)).mono fun y h=>by subst h;exact ⟨fB,.inr rfl⟩⟩
   ·rw [zcb]
    simp only [List.mem_cons,List.not_mem_nil,or_false] at hs
    rcases hs with rfl|rfl|rfl|rfl|rfl
    ·rw [p0',←g0];exact hsl0
    ·rw [p2',←g2];exact hsl2
    ·rw [p4',←g4];exact hsl4
    ·rw [p6'];exact ⟨Lb,hjb,rfl⟩
    ·rw [p12',←g12];exact hsl12
   ·rw [hg2];exact hm1.below hb3
end Go.Proofs
namespace Go.Proofs
open Go.Dw Go.RowKit Go.Maps Go.Sort

def Tryz.zjF (r:Rg) (ids:List Int) (l:List Sg) (n:Int) (g:Nat→Int):Nat→Int:=
 if zbc l=0 then putW (putW (zeX r.d (zaS ids l l.length) g) (r.v+4+2*(n%r.n)).toNat 2 (ids.getD 0 0)) (r.v+2).toNat 2 (n+1) else g
theorem Tryz.znT {ids:List Int} {l:List Sg} {m:Int} (hil:ids.length=l.length) (hok: ∀x∈l,x.ok) (hin: ∀x∈ids,0≤x∧x<m): ∀p∈zaS ids l l.length,p.ok∧0≤p.at0∧p.at0<m:=fun p hp=>by
 obtain ⟨k,hk,rfl⟩:=List.mem_map.1 hp
 have hk:k<l.length:=List.mem_range.1 hk
 have h1:=hok l[k] (List.getElem_mem hk)
 have h2:=hin ids[k] (List.getElem_mem (by omega))
 have e1:l.getD k ⟨0,0,false⟩=l[k]:=by simp [List.getD_eq_getElem?_getD,hk]
 have e2:ids.getD k 0=ids[k]:=by simp [List.getD_eq_getElem?_getD,hil,hk]
 refine ⟨⟨?_,?_,?_,?_⟩,?_⟩
 ·simp only [putAt,e1];exact ⟨h1.1,h1.2.1⟩
 ·simp only [putAt,e1];exact ⟨h1.2.2.1,h1.2.2.2⟩
 ·simp only [putAt];split<;>split<;>omega
 ·simp only [putAt];split<;>omega
 ·simp only [putAt,e2];exact h2
theorem Tryz.zhW {ρ:Val} {w0:World} {K:Nat→Prop} {P L Bs B N:Nat} {gk:Nat→Nat→Int} {ia sa:Option Addr} {c cs qn:Nat} {ids:List Int} {l:List Sg} {sx:List (SE×Nat)}
  (hv3:ρ.v 3= .slice ia ids.length c) (hv1:ρ.v 1= .slice sa l.length cs) (h7:ρ.i 7=zbc l) (hok: ∀x∈l,x.ok) (hl:l.length≤60000) (hil:ids.length=l.length) (hnd:ids.Nodup) (hin: ∀x∈ids,0≤x∧x<32768)
  (hri:ids= []∨ ∃I o,ia=some ⟨I,o,none⟩∧ ¬K I∧w0.rangeAt I o (zaG ids)) (hgk:gk 1=gk 0):
  zaJ prog ρ w0 K (memC P L Bs B N gk (ptC sa l w0.heap.size qn (if zbc l=0 then zaS ids l l.length else []))) (ziy (ofIds sx) qn):=by
 refine ⟨Dw.enters_of (by kernel_rfl),fun j w1 vals F m hv hnone hb hF hsz hf hold=> ?_⟩
 have hb:m=qn:=hb (by show (1:Nat)≠0;decide)
 subst hb
 obtain ⟨x0,_,rfl,e0,hv⟩:=hv
 obtain ⟨x1,_,rfl,e1,hv⟩:=hv
 have hv:_= []:=hv
 subst hv
 have e0:x0= .slice ia ids.length c:=by rw [R_val rfl e0];exact hv3
 have e1:x1= .slice sa l.length cs:=by rw [R_val rfl e1];exact hv1
 subst e0 e1
 obtain ⟨⟨f1,f2,f3,f4,hm⟩,hsg⟩:=hf
 have hri1:ids= []∨ ∃I o,ia=some ⟨I,o,none⟩∧w1.rangeAt I o (zaG ids):=by
  rcases hri with h|⟨I,o,e,hK,hr⟩
  ·exact .inl h
  ·by_cases h0:ids= []
   ·exact .inl h0
   ·have hlt:=zqc hr (k:=0) (by cases ids with|nil=>exact absurd rfl h0|cons x t=>simp)
    exact .inr ⟨I,o,e,zat hr (hold I hlt hK)⟩
 refine Calls.mono (zmD (SegF.v hsg hok cs) hl hil hnd hin hri1) fun en w' hh=> ?_
 obtain ⟨hbl,hh⟩:=hh
 have key: ∃u,en= .returned (.tuple #[u,.int .i64 (zbc l)])∧zi6 w' w1.heap.size u (if zbc l=0 then zaS ids l l.length else []):=by
  rcases hh with ⟨h0,u,rfl,hu⟩|⟨h0,rfl⟩
  ·rw [h0,if_pos rfl];exact ⟨u,rfl,hu⟩
  ·rw [if_neg h0];exact ⟨_,rfl,OwnR.nil _ _ _ _⟩
 obtain ⟨u,rfl,hu⟩:=key
 refine ⟨_,[u],fun b=>F b∨u.ownBlock=some b,rfl,rfl,zcX (zaa ⟨⟨⟨0,0,0,some u⟩,?_,rfl⟩,OwnR.one hu,fun _ h=>(by cases h)⟩ (zaa (zab h7) RL.nil)),⟨⟨.inl f1,.inl f2,.inl f3,.inl f4,?_⟩,u,za7,OwnR.mono hu hsz,fun b h=> .inr h⟩,?_,Dw.Mv.of_below hbl⟩
 ·show jq j m _ m=_
  unfold jq
  rw [if_pos ⟨Nat.le_refl _,by simp⟩]
  simp
 ·show GM w' P L Bs B N (gk 1)
  rw [hgk];exact hm.below hbl
 ·rintro b (h|h)
  ·exact ⟨Nat.lt_of_lt_of_le (hF b h) hbl.size,.inl h⟩
  ·exact ⟨(OwnR.lt hu b h).2,.inr (OwnR.lt hu b h).1⟩
theorem Tryz.zhV {ρ:Val} {w0:World} {K:Nat→Prop} {P L Bs B N:Nat} {gk:Nat→Nat→Int} {C:Gho} {k:Nat} {a:Int} {x:Int} {ae ve:SE} (hv0:ρ.v 0= .pointer (some ⟨P,0,none⟩)) (ha:ae.den ρ=a) (hx:ve.den ρ=x) (h0:0≤a) (hin:a+2≤N) (hN:N≤1048576) (hK:K B)
    (hg:gk (k+1)=putW (gk k) a.toNat 2 x) (hC: ∀q F w,C.fact (k+1) q F w):zaJ prog ρ w0 K (memC P L Bs B N gk C) (zix k ae ve):=
  zfY (Dw.enters_of (by kernel_rfl)) rfl [.pointer (some ⟨P,0,none⟩),.int .u64 a,.int .i64 2,.int .u64 x] (.int .i64 0) (fun j=>zaa (zaD hv0 rfl) (zaa (zab ha) (zaa (zab rfl) (zaa (zab hx) RL.nil))))
    (fun j=>zab rfl) (fun w F q hf=>by
      obtain ⟨⟨h1,h2,h3,h4,hm⟩,_⟩:=hf
      exact Calls.mono (zij (k:=2) hm hN (.inr (.inl rfl)) x h0 hin) fun e w' ⟨e1,e2,e3⟩=>⟨e1,⟨⟨h1,h2,h3,h4,by rw [hg];exact e2⟩,hC _ _ _⟩,e3.mono fun b hb=>hb▸⟨h4,hK⟩⟩)
set_option maxRecDepth 10000 in
set_option maxHeartbeats 2000000 in
theorem Tryz.znZ {A:Nat→Prop} {w:World} {P L Bs B N c:Nat} {g:Nat→Int} {r:Rg} {ia:Option Addr} {sv:Value} {ids:List Int} {l:List Sg} {n:Int} (hm:GM w P L Bs B N g) (hN:N≤1048576) (hr:RgOk r) (hfit:r.d+16*r.n≤N∧r.v+6+2*r.n≤N)
  (hsv:SegV A w sv l) (hl:l.length<60000) (hil:ids.length=l.length) (hnd:ids.Nodup) (hin: ∀x∈ids,0≤x∧x<r.n) (hn:0≤n∧n<1000000) (hpw:r.n≤32768)
  (hI:ids= []∨ ∃I o,ia=some ⟨I,o,none⟩∧w.rangeAt I o (zaG ids)∧I≠P∧I≠L∧I≠Bs∧I≠B∧ ∀R o',(∃c',sv= .slice (some ⟨R,o',none⟩) l.length c')→I≠R):
  Calls prog 12 #[.pointer (some ⟨P,0,none⟩),r.val,.slice ia ids.length c,sv,.int .i64 n] w fun e w'=>e= .returned (.bool (decide (zbc l=0)))∧GM w' P L Bs B N (zjF r ids l n g)∧Dw.Mv (fun b=>b=B) w w':=by
 have h0:=hsv
 obtain ⟨sa,cs,rfl,hok,hrs⟩:=hsv
 obtain ⟨F0,hF0,hF1⟩:=zbJ h0
 have hb:=hr.bnd
 have q1:=hr.d0
 have q2:=hr.v0
 have hmod:0≤n%r.n∧n%r.n<r.n:=⟨Int.emod_nonneg _ (by omega),Int.emod_lt_of_pos _ (by omega)⟩
 have hps:=znT hil hok hin
 have hin': ∀x∈ids,0≤x∧x<32768:=fun x hx=>⟨(hin x hx).1,by have:=(hin x hx).2;omega⟩
 have hpl:=zc2 ids l l.length
 have D:=ofD (r:=r) (len:=l.length) (n5:=n) (k:=0) (e:=zbc l) (x8:=0) (x9:=ids.getD 0 0) (p:=okPt0) (x14:=n%r.n) (x15:=r.v+4+2*(n%r.n)) (x16:=r.v+2) (l17:=0) (mv:= .pointer (some ⟨P,0,none⟩)) (sv:= .slice sa l.length cs) (pv:=undef) (iv:= .slice ia l.length c) hr (by omega) (by omega) okPt0_ok (by omega)
 generalize zpY r l.length n 0 (zbc l) 0 (ids.getD 0 0) okPt0 (n%r.n) (r.v+4+2*(n%r.n)) (r.v+2) 0 (.pointer (some ⟨P,0,none⟩)) (.slice sa l.length cs) undef (.slice ia l.length c)=ρ at D
 have hri:ids= []∨ ∃I o,ia=some ⟨I,o,none⟩∧ ¬(fun y=>y=B) I∧w.rangeAt I o (zaG ids):=by
  rcases hI with h|⟨I,o,e,h,_,_,_,h4,_⟩
  ·exact .inl h
  ·exact .inr ⟨I,o,e,h4,h⟩
 have hF: ∀b,(b=P∨b=L∨b=Bs∨b=B∨(l≠ []∧ ∃o',sa=some ⟨b,o',none⟩))→b<w.heap.size:=fun b h=>by
  rcases h with rfl|rfl|rfl|rfl|⟨h,o',e⟩
  ·exact hm.pl
  ·exact hm.ll
  ·exact hm.sl
  ·exact hm.bl
  ·rcases hrs with h1|⟨R,o,e1,_,h2⟩
   ·exact absurd h1 h
   ·rw [e] at e1;cases e1
    exact zcZ h2 h
 have hSF:SegF (fun b=>b=P∨b=L∨b=Bs∨b=B∨(l≠ []∧ ∃o',sa=some ⟨b,o',none⟩)) w sa l:=by
  by_cases h:l= []
  ·exact .inl h
  ·rcases hrs with h1|⟨R,o,e1,_,h2⟩
   ·exact .inl h1
   ·exact .inr ⟨R,o,e1,.inr (.inr (.inr (.inr ⟨h,o,e1⟩))),h2⟩
 unfold zjF
 by_cases he0:zbc l=0
 ·have hl0:l≠ []:=fun h=>by
   subst h
   revert he0
   decide
  have hlp:0<l.length:=List.length_pos_iff.2 hl0
  rcases hI with h|⟨I,o,rfl,hIr,i1,i2,i3,i4,i5⟩
  ·rw [h] at hil;simp at hil;omega
  have hx9:=zcO hIr 0 (by omega)
  have hid:ids.getD 0 0=ids[0]'(by omega):=by simp [List.getD_eq_getElem?_getD,show 0<ids.length by omega]
  have hid2:=hin (ids[0]'(by omega)) (List.getElem_mem (by omega))
  have hj1:jOf [(I,o+1*0)] 1=some ⟨I,o+1*0,0,none⟩:=rfl
  rw [if_pos he0,decide_eq_true he0]
  have hpe:(if zbc l=0 then zaS ids l l.length else [])=zaS ids l l.length:=if_pos he0
  refine Calls.mono (zc3 (ρ:=ρ) (K:=fun y=>y=B) (g:=memC P L Bs B N (fun k=>match k with|0=>g|1=>g|2=>zeX r.d (zaS ids l l.length) g|3=>putW (zeX r.d (zaS ids l l.length) g) (r.v+4+2*(n%r.n)).toNat 2 (ids.getD 0 0)|_=>putW (putW (zeX r.d (zaS ids l l.length) g) (r.v+4+2*(n%r.n)).toNat 2 (ids.getD 0 0)) (r.v+2).toNat 2 (n+1)) (ptC sa l w.heap.size 3 (if zbc l=0 then zaS ids l l.length else []))) (bl:= [(I,o+1*0)])
   (vals:= [.pointer (some ⟨P,0,none⟩),r.val,.slice (some ⟨I,o,none⟩) ids.length c,.slice sa l.length cs,.int .i64 n]) mixed of1_run of1_ok (fun b h=>by rw [h];exact hm.bl)
   ⟨zaw hx9 (by simp) (zaa (zab (D.i9.trans hid)) RL.nil) i4,trivial⟩ ⟨fun h=>(by cases h),trivial⟩
   ⟨fun b=>b=P∨b=L∨b=Bs∨b=B∨(l≠ []∧ ∃o',sa=some ⟨b,o',none⟩),fun b h=>⟨hF b h,fun hmn=> ?_⟩,⟨.inl rfl,.inr (.inl rfl),.inr (.inr (.inl rfl)),.inr (.inr (.inr (.inl rfl))),hm⟩,hSF⟩
   ⟨zhW (hil▸D.v3) D.v1 D.i7 hok (by omega) hil hnd hin' hri rfl,
   zak (Dw.enters_of (by kernel_rfl)) (by decide) [.int .i64 n,.int .i64 r.n] (.int .i64 (n%r.n)) (fun j=>zaa (zab D.i5) (zaa (zab D.n) RL.nil)) (fun j=>zab D.i14) (fun w F q hf=>Calls.mono (zdc n r.n (by omega) w) fun e w' hh=>⟨hh.1,hh.2▸Below.refl _ _⟩),
   zak (Dw.enters_of (by kernel_rfl)) (by decide) [r.val,.int .i64 4,.int .i64 (n%r.n)] (.tuple #[.int .u64 (r.v+4+2*(n%r.n)),.int .i64 2,.int .i64 0]) (fun j=>zaa D.rgR (zaa (zab rfl) (zaa (zab D.i14) RL.nil))) (fun j=>zcX (zaa (zab D.i15) (zaa (zab rfl) (zaa (zab rfl) RL.nil)))) (fun w F q hf=>zlP r hr (n%r.n) hmod w),
   zak (Dw.enters_of (by kernel_rfl)) (by decide) [r.val,.int .i64 3,.int .i64 0] (.tuple #[.int .u64 (r.v+2),.int .i64 2,.int .i64 0]) (fun j=>zaa D.rgR (zaa (zab rfl) (zaa (zab rfl) RL.nil))) (fun j=>zcX (zaa (zab D.i16) (zaa (zab rfl) (zaa (zab rfl) RL.nil)))) (fun w F q hf=>zlQ r hr w),
   zhV D.v0 D.i15 (x:=ids.getD 0 0) (by show IntKind.wrap .u64 (ρ.i 9)=_;rw [D.i9];exact zay (by omega) (by omega)) (by omega) (by omega) hN rfl rfl (fun _ _ _=>trivial),
   zhV D.v0 D.i16 (x:=n+1) (by show IntKind.wrap .u64 ((SE.bin .add .i64 (.var 5) (.lit 1)).den ρ)=_;rw [den_add,zai,D.i5,zac,zbM (by omega) (by omega)];exact zay (by omega) (by omega)) (by omega) (by omega) hN rfl rfl (fun _ _ _=>trivial),trivial⟩
   ⟨zn0 D hr hN hfit.1 hl (by rw [hpe,hpl];omega) (by rw [hpe];exact hps) ⟨hm.pl,hm.ll,hm.sl,hm.bl⟩ (by rw [hpe];rfl),trivial⟩ trivial
   (zaa (zaD D.v0 rfl) (zaa D.rgR (zaa ?_ (zaa ⟨D.v1.symm,_,_,_,rfl,D.d4.symm,trivial⟩ (zaa (zab D.i5) RL.nil)))))
   (told_cons_iff.2 ⟨by rw [zbm,zai,zac,D.i7,he0];rfl,told_cons_iff.2 ⟨by rw [zaz,D.d4,zac];simp only [decide_eq_true_eq];omega,told_nil.2 trivial⟩⟩)) fun e w' hh=> ?_
  ·have:=zce hmn
   simp only [List.map_cons,List.map_nil,List.mem_cons,List.not_mem_nil,or_false] at this
   subst this
   rcases h with h|h|h|h|⟨_,o',h⟩
   ·exact i1 h
   ·exact i2 h
   ·exact i3 h
   ·exact i4 h
   ·exact i5 b o' ⟨cs,by rw [h]⟩ rfl
  ·rw [hil]
   exact ⟨D.v3.symm,_,_,_,rfl,D.d4.symm,⟨I,o,_,0,rfl,hj1,rfl,rfl,hlp,rfl⟩,trivial⟩
  ·obtain ⟨p,hpm,hto,lf,hlf,j,he⟩:=hh
   unfold of1_ps at hpm
   simp only [List.mem_cons,List.not_mem_nil,or_false] at hpm
   subst hpm
   cases hlf
   obtain ⟨F2,_,⟨_,_,_,_,hm2⟩,_⟩:=he.gho
   exact ⟨he.ret,hm2,he.mv⟩
 ·rw [if_neg he0,decide_eq_false he0]
  have hpe:(if zbc l=0 then zaS ids l l.length else [])= []:=if_neg he0
  refine Calls.mono (zc3 (ρ:=ρ) (K:=fun y=>y=B) (g:=memC P L Bs B N (fun _=>g) (ptC sa l w.heap.size 2 (if zbc l=0 then zaS ids l l.length else []))) (bl:= [])
   (vals:= [.pointer (some ⟨P,0,none⟩),r.val,.slice ia ids.length c,.slice sa l.length cs,.int .i64 n]) mixed of0_run of0_ok (fun b h=>by rw [h];exact hm.bl) trivial trivial
   ⟨fun b=>b=P∨b=L∨b=Bs∨b=B∨(l≠ []∧ ∃o',sa=some ⟨b,o',none⟩),fun b h=>⟨hF b h,fun hmn=> ?_⟩,⟨.inl rfl,.inr (.inl rfl),.inr (.inr (.inl rfl)),.inr (.inr (.inr (.inl rfl))),hm⟩,hSF⟩
   ⟨zhW (hil▸D.v3) D.v1 D.i7 hok (by omega) hil hnd hin' hri rfl,
   zak (Dw.enters_of (by kernel_rfl)) (by decide) [.int .i64 n,.int .i64 r.n] (.int .i64 (n%r.n)) (fun j=>zaa (zab D.i5) (zaa (zab D.n) RL.nil)) (fun j=>zab D.i14) (fun w F q hf=>Calls.mono (zdc n r.n (by omega) w) fun e w' hh=>⟨hh.1,hh.2▸Below.refl _ _⟩),
   zak (Dw.enters_of (by kernel_rfl)) (by decide) [r.val,.int .i64 4,.int .i64 (n%r.n)] (.tuple #[.int .u64 (r.v+4+2*(n%r.n)),.int .i64 2,.int .i64 0]) (fun j=>zaa D.rgR (zaa (zab rfl) (zaa (zab D.i14) RL.nil))) (fun j=>zcX (zaa (zab D.i15) (zaa (zab rfl) (zaa (zab rfl) RL.nil)))) (fun w F q hf=>zlP r hr (n%r.n) hmod w),
   zak (Dw.enters_of (by kernel_rfl)) (by decide) [r.val,.int .i64 3,.int .i64 0] (.tuple #[.int .u64 (r.v+2),.int .i64 2,.int .i64 0]) (fun j=>zaa D.rgR (zaa (zab rfl) (zaa (zab rfl) RL.nil))) (fun j=>zcX (zaa (zab D.i16) (zaa (zab rfl) (zaa (zab rfl) RL.nil)))) (fun w F q hf=>zlQ r hr w),trivial⟩
   ⟨zn0 D hr hN hfit.1 hl (by rw [hpe];exact Nat.zero_lt_of_lt hl) (by rw [hpe];intro p hp;cases hp) ⟨hm.pl,hm.ll,hm.sl,hm.bl⟩ (by rw [hpe];rfl),trivial⟩ trivial
   (zaa (zaD D.v0 rfl) (zaa D.rgR (zaa ?_ (zaa ⟨D.v1.symm,_,_,_,rfl,D.d4.symm,trivial⟩ (zaa (zab D.i5) RL.nil)))))
   (told_cons_iff.2 ⟨by rw [zbm,zai,zac,D.i7];simpa using he0,told_nil.2 trivial⟩)) fun e w' hh=> ?_
  ·obtain ⟨k,L',h1,_⟩:=hmn
   cases k<;>cases h1
  ·rw [hil]
   exact ⟨D.v3.symm,_,_,_,rfl,D.d4.symm,trivial⟩
  ·obtain ⟨p,hpm,hto,lf,hlf,j,he⟩:=hh
   unfold of0_ps at hpm
   simp only [List.mem_cons,List.not_mem_nil,or_false] at hpm
   subst hpm
   cases hlf
   obtain ⟨F2,_,⟨_,_,_,_,hm2⟩,_⟩:=he.gho
   exact ⟨he.ret,hm2,he.mv⟩
end Go.Proofs
namespace Go.Proofs
open Go.Dw Go.RowKit

structure Tryz.EInv (s:SS) (steps i:Int):Prop where
 br:s.br=true→s.ph=0
 phs:s.ph=0∨s.ph=1∨s.ph=2∨s.ph=3∨s.ph=4∨s.ph=5∨s.ph=6∨s.ph=7∨s.ph=11∨s.ph=12∨s.ph=13∨s.ph=14∨s.ph=15
 lo:0≤steps
 hi:steps≤7+i
 s1:1≤s.ph→s.ph≤7→steps≤(s.ph:Int)-1
 s2:11≤s.ph→steps≤(s.ph:Int)-11
 len: ∀e∈s.tk,e.2.length≤40000
 cnt:(s.tk.length:Int)≤i
theorem Tryz.zft {g:Nat→Int} {a k j:Nat} {v:Int} (h:putW g a k v j≠g j):a≤j∧j<a+k:=by
 unfold putW at h
 by_cases hh:a≤j∧j<a+k
 ·exact hh
 ·rw [if_neg hh] at h;exact absurd rfl h
theorem Tryz.zjb (x:Int): ∀tk:List (Int×List Sg),(zfo x tk).length≤tk.length∧tk.length≤(zfo x tk).length+1
 | [] => ⟨Nat.le_refl _,Nat.zero_le _⟩
 | e::r=>by
  unfold zfo
  have:=zjb x r
  split
  ·simp
  ·simp only [List.length_cons];omega
theorem Tryz.EInv.stay {s:SS} {steps i:Int} (h:EInv s steps i):EInv s steps (i+1):=⟨h.br,h.phs,h.lo,by have:=h.hi;omega,h.s1,h.s2,h.len,by have:=h.cnt;omega⟩
theorem Tryz.EInv.poll {s:SS} {steps i:Int} (h:EInv s steps i) (hi:0≤i):EInv (zbL s).2 (if (zbL s).1=0 then 0 else steps) (i+1)∧(zbL s).2.tk=s.tk:=by
 unfold zbL
 split
 ·exact ⟨by rw [if_neg (fun hh=>by cases hh)];exact h.stay,rfl⟩
 ·split
  ·exact ⟨by rw [if_neg (fun hh=>by cases hh)];exact h.stay,rfl⟩
  ·refine ⟨⟨fun hh=>(by cases hh),.inr (.inl rfl),?_,?_,?_,?_,h.len,by have:=h.cnt;show (s.tk.length:Int)≤i+1;omega⟩,rfl⟩
   ·simp
   ·simp;omega
   ·intro _ _;simp [SS.goto]
   ·intro hh;simp [SS.goto] at hh
theorem Tryz.EInv.ret {s:SS} {steps i:Int} {head wr:Int} (h:EInv s steps i) (hi:0≤i):EInv (retS s head wr).2 (if (retS s head wr).1=0 then 0 else steps) (i+1)∧(retS s head wr).2.tk=s.tk:=by
 unfold retS
 split
 ·exact ⟨by rw [if_neg (fun hh=>by cases hh)];exact h.stay,rfl⟩
 ·split
  ·exact ⟨by rw [if_neg (fun hh=>by cases hh)];exact h.stay,rfl⟩
  ·split
   ·exact ⟨by rw [if_neg (fun hh=>by cases hh)];exact h.stay,rfl⟩
   ·split
    ·exact ⟨by rw [if_neg (fun hh=>by cases hh)];exact h.stay,rfl⟩
    ·refine ⟨⟨fun hh=>(by cases hh),by simp [SS.goto],?_,?_,?_,?_,h.len,by have:=h.cnt;show (s.tk.length:Int)≤i+1;omega⟩,rfl⟩
     ·simp
     ·simp;omega
     ·intro _ hh;simp [SS.goto] at hh
     ·intro _;simp [SS.goto]
theorem Tryz.EInv.goto {s s0:SS} {steps i:Int} {p:Nat} (h:EInv s steps i) (htk:s0.tk=s.tk) (hp:(2≤p∧p≤7∧steps+1≤(p:Int)-1)∨(12≤p∧p≤15∧steps+1≤(p:Int)-11)):EInv (s0.goto p) (steps+1) (i+1):=by
 have h3:=h.hi
 have h2:=h.lo
 have h7:=h.cnt
 refine ⟨fun hh=>(by cases hh),?_,by omega,by omega,?_,?_,by show∀e∈s0.tk,_;rw [htk];exact h.len,by show (s0.tk.length:Int)≤_;rw [htk];omega⟩
 ·simp only [SS.goto];omega
 ·intro q1 q2
  have q2:p≤7:=q2
  show steps+1≤(p:Int)-1
  omega
 ·intro q1
  have q1:11≤p:=q1
  show steps+1≤(p:Int)-11
  omega
theorem Tryz.EInv.still {s s0:SS} {steps i:Int} (h:EInv s steps i) (h0:s0.ph=0) (hl: ∀e∈s0.tk,e.2.length≤40000) (hc:s0.tk.length≤s.tk.length+1):EInv s0 (steps+1) (i+1):=by
 have h3:=h.hi
 have h2:=h.lo
 have h7:=h.cnt
 exact ⟨fun _=>h0,.inl h0,by omega,by omega,fun q=>by omega,fun q=>by omega,hl,by omega⟩
structure Tryz.StepL (s s':SS) (e steps i:Int) (r:Rg) (g g':Nat→Int):Prop where
 inv:EInv s' (steps+1) (i+1)
 idle:s.ph=0→e≠0
 soon:s.ph≠0→steps+1≤7
 bad:e=4→s'.ph=0
 up:s'.tk.length≤s.tk.length+1
 down:s.tk.length≤s'.tk.length+1
 own: ∀j,g' j≠g j→r.c≤(j:Int)∧(j:Int)<r.c+(6+8*r.n)
theorem Tryz.zpq {N:Nat} {r:Rg} {s:SS} {g:Nat→Int} {steps i:Int} (h:EInv s steps i) (hr:RgOk r) (hg: ∀j,0≤g j∧g j<256) (hi:0≤i) (hus:0≤s.us):
  StepL s (zaZ N r s g).2.2.1 (zaZ N r s g).2.1 steps i r g (zaZ N r s g).2.2.2:=by
 have hb:=hr.bnd
 have hc:=hr.c0
 obtain ⟨h1,hph,h2,h3,h4,h5,h6,h7⟩:=h
 have hsame: ∀j,g j≠g j→r.c≤(j:Int)∧(j:Int)<r.c+(6+8*r.n):=fun j hj=>absurd rfl hj
 have hmod:0≤s.us.tmod r.n∧s.us.tmod r.n<r.n:=by
  rw [Int.tmod_eq_emod_of_nonneg hus]
  exact ⟨Int.emod_nonneg _ (by omega),Int.emod_lt_of_pos _ (by omega)⟩
 unfold zaZ
 split
 ·rename_i hbr
  have:=h1 hbr
  simp only
  exact ⟨⟨h1,hph,by omega,by omega,fun hh=>by omega,fun hh=>by omega,h6,by omega⟩,fun _=>by decide,fun hn=>absurd this hn,fun _=>this,by omega,by omega,hsame⟩
 ·rename_i hbr
  have H:EInv s steps i:=⟨h1,hph,h2,h3,h4,h5,h6,h7⟩
  rcases hph with hp|hp|hp|hp|hp|hp|hp|hp|hp|hp|hp|hp|hp
  all_goals
   rw [hp] at h4 h5
   rw [hp]
   unfold zq3
   simp only
  ·exact ⟨H.still hp h6 (by omega),fun _=>by decide,fun hn=>absurd hp hn,fun q=>(by cases q),by omega,by omega,hsame⟩
  ·unfold zdh
   split
   ·exact ⟨H.still rfl h6 (Nat.le_succ _),fun q=>by omega,fun _=>by omega,fun _=>rfl,Nat.le_succ _,Nat.le_succ _,hsame⟩
   ·split
    ·exact ⟨H.goto rfl (by omega),fun q=>by omega,fun _=>by omega,fun q=>(by cases q),Nat.le_succ _,Nat.le_succ _,hsame⟩
    ·split
     ·exact ⟨H.goto rfl (by omega),fun q=>by omega,fun _=>by omega,fun q=>(by cases q),Nat.le_succ _,Nat.le_succ _,hsame⟩
     ·exact ⟨H.still rfl h6 (Nat.le_succ _),fun q=>by omega,fun _=>by omega,fun q=>(by cases q),Nat.le_succ _,Nat.le_succ _,hsame⟩
  ·exact ⟨H.goto rfl (by omega),fun q=>by omega,fun _=>by omega,fun q=>(by cases q),Nat.le_succ _,Nat.le_succ _,fun j hj=>by have:=zft hj;omega⟩
  ·exact ⟨H.goto rfl (by omega),fun q=>by omega,fun _=>by omega,fun q=>(by cases q),Nat.le_succ _,Nat.le_succ _,hsame⟩
  ·unfold zcD
   split
   ·exact ⟨H.still rfl h6 (Nat.le_succ _),fun q=>by omega,fun _=>by omega,fun _=>rfl,Nat.le_succ _,Nat.le_succ _,hsame⟩
   ·split
    ·exact ⟨H.goto rfl (by omega),fun q=>by omega,fun _=>by omega,fun q=>(by cases q),Nat.le_succ _,Nat.le_succ _,hsame⟩
    ·exact ⟨H.still rfl h6 (Nat.le_succ _),fun q=>by omega,fun _=>by omega,fun q=>(by cases q),Nat.le_succ _,Nat.le_succ _,hsame⟩
  ·exact ⟨H.goto rfl (by omega),fun q=>by omega,fun _=>by omega,fun q=>(by cases q),Nat.le_succ _,Nat.le_succ _,hsame⟩
  ·exact ⟨H.goto rfl (by omega),fun q=>by omega,fun _=>by omega,fun q=>(by cases q),Nat.le_succ _,Nat.le_succ _,hsame⟩
  ·have hS:=zhn (N:=N) (head:=s.hd) (table:=s.tb) hg hr
   unfold chnS
   split
   ·refine ⟨H.still rfl (fun e he=> ?_) ?_,fun q=>by omega,fun _=>by omega,fun q=>(by cases q),?_,?_,hsame⟩
    ·have he:e∈s.tk++ [(s.hd,(za2 N g r s.hd s.tb).1)]:=he
     rcases List.mem_append.1 he with he|he
     ·exact h6 e he
     ·rw [List.mem_singleton] at he;subst he;exact hS.2
    all_goals
     simp only [SS.stop,List.length_append,List.length_cons,List.length_nil]
     omega
   ·exact ⟨H.still rfl h6 (Nat.le_succ _),fun q=>by omega,fun _=>by omega,fun _=>rfl,Nat.le_succ _,Nat.le_succ _,hsame⟩
  ·exact ⟨H.goto rfl (by omega),fun q=>by omega,fun _=>by omega,fun q=>(by cases q),Nat.le_succ _,Nat.le_succ _,fun j hj=>by have:=zft hj;omega⟩
  ·exact ⟨H.goto rfl (by omega),fun q=>by omega,fun _=>by omega,fun q=>(by cases q),Nat.le_succ _,Nat.le_succ _,hsame⟩
  ·exact ⟨H.goto rfl (by omega),fun q=>by omega,fun _=>by omega,fun q=>(by cases q),Nat.le_succ _,Nat.le_succ _,fun j hj=>by have:=zft hj;omega⟩
  ·exact ⟨H.goto rfl (by omega),fun q=>by omega,fun _=>by omega,fun q=>(by cases q),Nat.le_succ _,Nat.le_succ _,hsame⟩
  ·have hd:=zjb s.hd s.tk
   exact ⟨H.still rfl (fun e he=>h6 e ((zd4 s.hd s.tk).subset he)) (Nat.le_succ_of_le hd.1),fun q=>by omega,fun _=>by omega,fun q=>(by cases q),Nat.le_succ_of_le hd.1,hd.2,hsame⟩
end Go.Proofs
namespace Go.Proofs
open Go.Dw Go.RowKit

theorem Tryz.SegV.set {A A':Nat→Prop} {w:World} {v:Value} {l:List Sg} (h:SegV A w v l) (hA: ∀b,b<w.heap.size→A' b→A b):SegV A' w v l:=by
 obtain ⟨sa,c,e,hok,hr⟩:=h
 refine ⟨sa,c,e,hok,?_⟩
 by_cases h0:l= []
 ·exact .inl h0
 ·rcases hr with hr|⟨R,o,e1,h1,h2⟩
  ·exact .inl hr
  ·exact .inr ⟨R,o,e1,fun h=>h1 (hA R (zcZ h2 h0) h),h2⟩
theorem Tryz.NextOk.set {A A':Nat→Prop} {w:World} {S ph:Nat} {v:Value} (h:NextOk A w S ph v) (hA: ∀b,b<w.heap.size→A' b→A b):NextOk A' w S ph v:=by
 cases h with
 | idle h hv=>exact .idle h hv
 | meth f h hv=>exact .meth f h hv
 | fence f X Y h hv hX hY aX aY=>exact .fence f X Y h hv hX hY (fun h=>aX (hA X (zeW hX) h)) (fun h=>aY (hA Y (zeW hY) h))
theorem Tryz.TkW.set {A A':Nat→Prop} {w:World} {M:Nat} {tk:List (Int×List Sg)} (h:TkW A w M tk) (hA: ∀b,b<w.heap.size→A' b→A b):TkW A' w M tk:=by
 obtain ⟨arr,clock,h1,h2,h3⟩:=h.map
 refine ⟨⟨arr,clock,h1,h2,fun k=>⟨(h3 k).1,fun l hl=> ?_⟩⟩,h.keys,h.u16⟩
 obtain ⟨v,h4,h5⟩:=(h3 k).2 l hl
 exact ⟨v,h4,h5.set hA⟩
theorem Tryz.SrvW.set {A A':Nat→Prop} {w:World} {S P M:Nat} {r:Rg} {s:SS} (h:SrvW A w S P M r s) (hA: ∀b,b<w.heap.size→A' b→A b) (aS:A' S) (aM:A' M):SrvW A' w S P M r s:=by
 obtain ⟨nv,sv,h1,h2,h3⟩:=h.obj
 exact ⟨⟨nv,sv,h1,h2.set hA,h3.set hA⟩,h.tk.set hA,h.ne,aS,aM,h.rg,h.nx,h.us,h.hd,h.wr⟩
theorem Tryz.SW.set {A A':Nat→Prop} {w:World} {S P L Bs B M N:Nat} {r:Rg} {s:SS} {g:Nat→Int} (h:SW A w S P L Bs B M N r s g) (hA: ∀b,b<w.heap.size→A' b→A b) (aS:A' S) (aM:A' M) (aB:A' B) (hl: ∀b,A' b→b<w.heap.size):SW A' w S P L Bs B M N r s g:=
 ⟨h.srv.set hA aS aM,h.mem,h.hN,h.sd,h.md,aB,hl,h.fit⟩
def Tryz.AF (S M B:Nat) (F:Nat→Prop) (w:World) (b:Nat):Prop:=b<w.heap.size∧(¬F b∨b=S∨b=M∨b=B)
structure Tryz.LwF (S P L Bs B M N:Nat) (r:Rg) (s:SS) (g:Nat→Int) (F:Nat→Prop) (w:World):Prop where
 fS:F S
 fM:F M
 fP:F P
 fL:F L
 fs:F Bs
 fB:F B
 sw:SW (AF S M B F w) w S P L Bs B M N r s g
theorem Tryz.LwF.kept {S P L Bs B M N:Nat} {r:Rg} {s:SS} {g:Nat→Int} {F:Nat→Prop} {w w':World} (h:LwF S P L Bs B M N r s g F w) (hb: ∀b,F b→w'.heap[b]? =w.heap[b]?) (hs:w.heap.size≤w'.heap.size):LwF S P L Bs B M N r s g F w':=by
 obtain ⟨h1,h2,h3,h4,h5,h6,h7⟩:=h
 have l1:=h7.srv.ltS
 have l2:=h7.srv.ltM
 have l3:=h7.mem.bl
 have e1:=h7.srv.set (A':=fun b=> ¬F b∨b=S∨b=M∨b=B) (fun b hb hh=>⟨hb,hh⟩) (.inr (.inl rfl)) (.inr (.inr (.inl rfl)))
 have e2:=e1.kept (hb S h1) (hb M h2) (fun k hk hn=>hb k (Classical.byContradiction fun hF=>hn (.inl hF)))
 exact ⟨h1,h2,h3,h4,h5,h6,⟨e2.set (fun b _ hh=>hh.2) ⟨by omega,.inr (.inl rfl)⟩ ⟨by omega,.inr (.inr (.inl rfl))⟩,h7.mem.kept (fun k _ hk=>by rcases hk with rfl|rfl|rfl|rfl<;>exact hb _ (by assumption)) hs,h7.hN,h7.sd,h7.md,⟨by omega,.inr (.inr (.inr rfl))⟩,fun b hb=>hb.1,h7.fit⟩⟩
theorem Tryz.LwF.next {S P L Bs B M N:Nat} {r:Rg} {s s':SS} {g g':Nat→Int} {F F':Nat→Prop} {w w':World} (h:LwF S P L Bs B M N r s g F w) (hsw:SW (AF S M B F w) w' S P L Bs B M N r s' g') (hs:w.heap.size≤w'.heap.size) (hF: ∀b,F b→F' b) (hn: ∀b,w.heap.size≤b→b<w'.heap.size→F' b):LwF S P L Bs B M N r s' g' F' w':=by
 obtain ⟨h1,h2,h3,h4,h5,h6,h7⟩:=h
 have l1:=h7.srv.ltS
 have l2:=h7.srv.ltM
 have l3:=h7.mem.bl
 refine ⟨hF S h1,hF M h2,hF P h3,hF L h4,hF Bs h5,hF B h6,hsw.set (fun b hb hh=> ?_) ⟨by omega,.inr (.inl rfl)⟩ ⟨by omega,.inr (.inr (.inl rfl))⟩ ⟨by omega,.inr (.inr (.inr rfl))⟩ fun b hb=>hb.1⟩
 obtain ⟨_,hh⟩:=hh
 by_cases hlt:b<w.heap.size
 ·rcases hh with hh|hh
  ·exact ⟨hlt,.inl fun hf=>hh (hF b hf)⟩
  ·exact ⟨hlt,.inr hh⟩
 ·rcases hh with hh|hh
  ·exact absurd (hn b (by omega) hb) hh
  ·rcases hh with rfl|rfl|rfl<;>exact absurd (by assumption) hlt
theorem Tryz.LwF.mem {S P L Bs B M N:Nat} {r:Rg} {s:SS} {g:Nat→Int} {F:Nat→Prop} {w:World} (h:LwF S P L Bs B M N r s g F w):GM w P L Bs B N g:=h.sw.mem
theorem Tryz.LwF.stored {S P L Bs B M N:Nat} {r:Rg} {s:SS} {g g':Nat→Int} {F:Nat→Prop} {w w':World} (h:LwF S P L Bs B M N r s g F w) (hm:Dw.Mv (fun b=>b=B) w w') (hg:GM w' P L Bs B N g'):LwF S P L Bs B M N r s g' F w':=by
 obtain ⟨h1,h2,h3,h4,h5,h6,h7⟩:=h
 have hs:=hm.size
 have l1:=h7.srv.ltS
 have l2:=h7.srv.ltM
 have l3:=h7.mem.bl
 have hB: ∀b,b≠B→b<w.heap.size→w'.heap[b]? =w.heap[b]? :=fun b hb hlt=>hm.block b hlt hb
 have e1:=h7.srv.set (A':=fun b=> ¬F b∨b=S∨b=M∨b=B) (fun b hb hh=>⟨hb,hh⟩) (.inr (.inl rfl)) (.inr (.inr (.inl rfl)))
 have e2:=e1.kept (hB S (fun e=>h7.sd.2.2.2 e) l1) (hB M (fun e=>h7.md.2.2.2 e) l2) (fun k hk hn=>hB k (fun e=>hn (.inr (.inr (.inr e)))) hk)
 exact ⟨h1,h2,h3,h4,h5,h6,⟨e2.set (fun b _ hh=>hh.2) ⟨by omega,.inr (.inl rfl)⟩ ⟨by omega,.inr (.inr (.inl rfl))⟩,hg,h7.hN,h7.sd,h7.md,⟨by omega,.inr (.inr (.inr rfl))⟩,fun b hb=>hb.1,h7.fit⟩⟩
end Go.Proofs
namespace Go.Proofs
open Go.Dw Go.RowKit
def Tryz.lwAct:List AV:= [.int .i64 (.var 8),.int .i64 (.var 9),.int .u32 (u32v 10),.int .u64 (u64v 11),.int .u32 (u32v 12),.int .u16 (u16v 13),.int .u16 (u16v 14),ofSegs]
def Tryz.zcM (l:List Nat):List (Nat×AV):=l.map fun t=>(t,.cst (100+t) none)
def Tryz.zbA (acts:AV) (steps pub i:SE):List (Nat×AV):= [(0,.int .i64 (szv 0)),(2,acts),(7,.cst 0 none),(8,.cst 2 none),(9,.ptr 1 0),(13,.int .u64 (u64v 19)),(14,.int .i64 steps),(15,.int .i64 pub),(16,.int .i64 i)]
def Tryz.lwActs:AV:= .sx 4 (lnv 7) 8 [(lnv 6,2)]
def Tryz.zb4 (k q k':Nat):Ent:=⟨25,[.cst 0 none],k,q,1,.opq q none,k'⟩
def Tryz.zcs (k q n:Nat):Ent:=⟨18,[.cst 2 none],k,q,1,.opq q (some (lnv n)),k⟩
def Tryz.zk9 (a m:SE) (x:Nat) (k:Nat):Ent:=⟨7,[.int .i64 a,.int .i64 m],k,0,0,.int .i64 (.var x),k⟩
def Tryz.zdL (k:Int):Ent:=⟨7,[.int .i64 (.var 8),.int .i64 (.lit 7)],1,0,0,.int .i64 (.lit k),1⟩
def Tryz.lwPollE:Ent:=⟨13,[.cst 2 none],1,0,0,.int .i64 (.var 21),2⟩
def Tryz.lwStepE:Ent:=⟨28,[.cst 2 none],1,0,0,.tup [.agg [.int .i64 (.var 30),.int .i64 (.var 31),.int .i64 (.var 32)],.int .i64 (.var 21)],2⟩
def Tryz.zcT (k b:Nat):Ent:=⟨27,[.cst 2 none],k,0,0,.bool (.var b),k⟩
def Tryz.zfV (k:Nat):Ent:=⟨29,[.cst 2 none],k,0,0,.int .i64 (.var 23),k⟩
def Tryz.lwStoreE:Ent:=⟨26,[.cst 0 none,.int .u64 (.wrap .u64 (.var 20)),.int .i64 (.lit 4),.int .u64 (u32v 10)],1,0,0,.int .i64 (.lit 0),2⟩
def Tryz.zbj (steps pub:SE) (hds:AV):List (Nat×AV):= [(0,.int .i64 (szv 0)),(2,lwActs),(7,.cst 0 none),(8,.cst 2 none),(14,.int .i64 steps),(15,.int .i64 pub),(16,.int .i64 (lnv 6)),(19,hds)]
def Tryz.zaI (k was now:Nat) (steps pub:SE) (hds:AV):LEnt:=⟨[0,1,0,1,1,1,1,1,0,0,1,0,0,1,0,1,1,1,1,1,1,1,1,4],237,k,[(9,.ptr 1 0),(13,.int .u64 (u64v 19)),(18,.opq was none),(26,.opq now none),(27,.int .i64 (.lit 0))]++zbj steps pub hds,[],[(1,rowRg)],0,0,
 [⟨.lit true,.exit 5,[(9,.ptr 1 0),(13,.int .u64 (u64v 19))]++zbj steps pub hds,k⟩]⟩
def Tryz.lwHds2E:Ent:=⟨18,[.cst 2 none],1,6,1,.opq 6 (some (lnv 17)),6⟩
def Tryz.k1Rest:List (Nat×AV):= [(0,.int .i64 (szv 0)),(2,lwActs),(7,.cst 0 none),(8,.cst 2 none),(9,.ptr 1 0),(13,.int .u64 (u64v 19)),(15,.int .i64 (.var 5)),(16,.int .i64 (lnv 6)),(18,.opq 4 none),(19,.int .i64 (lnv 17))]
def Tryz.k1Stmt:LEnt:=⟨[1,0,1,1,1,0,1,0,1,1,1,0,0,1,0,0,1,0,1,1,1,1,1,1,1,1,4],237,6,[(14,.int .i64 (.var 15)),(17,.ptr 3 0),(20,.opq 6 (some (lnv 17)))]++k1Rest,[],[(3,lwAct)],0,0,
 [⟨.var 3,.normal,(14,.int .i64 (.lit 0))::k1Rest,2⟩,⟨.lit true,.normal,(14,.int .i64 (.var 15))::k1Rest,2⟩]⟩
def Tryz.idsRest:List (Nat×AV):= [(2,lwActs),(7,.cst 0 none),(8,.cst 2 none),(9,.ptr 1 0),(13,.int .u64 (u64v 19)),(14,.int .i64 (.var 15)),(15,.int .i64 (.var 5)),(16,.int .i64 (lnv 6)),(18,.opq 4 none),(19,.int .i64 (lnv 17))]
def Tryz.idsLoop:LEnt:=⟨[0,1,0,1,0,1,0,1,1,1,1,1,1,1,0,1,0,1,1,1,0,0,1,0,0,1,0,1,1,1,1,1,1,1,1,4],237,1,[(0,.int .i64 (szv 0)),(17,.ptr 3 0),(21,.nils),(22,.int .i64 (.lit 0))]++idsRest,[],[(3,lwAct)],6,1,
 [⟨.lit true,.exit 3,[(0,.int .i64 (szv 0)),(17,.ptr 3 0),(21,.opq 6 none)]++idsRest,5⟩]⟩
def Tryz.lwOfferE:Ent:=⟨12,[.cst 0 none,rg,.opq 6 none,ofSegs,.int .i64 (.var 5)],5,0,0,.bool (.var 2),2⟩
def Tryz.idsA (base:Nat) (x:SE):AEnt:=⟨35,.cst 3 none,1,[.int .i64 x],1,base,1,.opq base none,2⟩
end Go.Proofs
namespace Go.Proofs
open Go.Dw

def Tryz.cmpA_ents:List Ent:= []
def Tryz.cmpA_shs:List Sh:= [.ro rowRg,.ro [.int .u8 (.var 27)],.ro [.int .u8 (.var 28)]]
def Tryz.cmpA_slots:List (Nat×AV):= [(9,.ptr 1 0),(13,.int .u64 (u64v 19)),(18,.sx 6 (lnv 29) 1 [(lnv 26,2)]),(26,.sx 7 (lnv 29) 1 [(lnv 26,3)]),(27,.int .i64 (lnv 26))]++zcM [0,2,7,8,14,15,16,19]
def Tryz.cmpA_lents:List LEnt:= []
def Tryz.cmpA_aents:List AEnt:= []
def Tryz.cmpA_dfr:Option AV:=none
def Tryz.cmpA_asm:List (SB×Bool):= [(.cmp .lss (lnv 26) (lnv 29),true),(.cmp .neq (.var 28) (.var 27),false)]
def Tryz.cmpA_ls:List CLeaf:= [
 ⟨.normal,[9,13,18,26,27,0,2,7,8,14,15,16,19],none,⟨.tup [.ptr 1 0,.int .u64 (u64v 19),.sx 6 ((lnv 29)) 1 [((lnv 26),2)],.sx 7 ((lnv 29)) 1 [((lnv 26),3)],.int .i64 (.bin .add .i64 (lnv 26) (.lit 1)),.cst 100 none,.cst 102 none,.cst 107 none,.cst 108 none,.cst 114 none,.cst 115 none,.cst 116 none,.cst 119 none],[(1,[.bool (.lit false),.int .i64 (szv 0),.int .u64 (u64v 1),.int .u64 (u64v 2),.int .u64 (u64v 3)])],[],0,[]⟩⟩]
def Tryz.cmpA_ps:List (List (SB×Bool)×Nat):= [
 ([], 0)]
theorem Tryz.cmpA_run:(evL prog (entOrc cmpA_ents) (zao cmpA_lents) (aentOrc cmpA_aents) 100000 (.code (codeR prog [0,0,1,0,1,1,1,1,1,0,0,1,0,0,1,0,1,1,1,1,1,1,1,1,4]) [0,0,1,0,1,1,1,1,1,0,0,1,0,0,1,0,1,1,1,1,1,1,1,1,4] 237 (envS 237 cmpA_slots cmpA_dfr) (zaj 0 cmpA_shs) (cleafAt cmpA_ls 0))).ways cmpA_asm=some cmpA_ps:=by kernel_rfl
theorem Tryz.cmpA_ok:(shsSmall cmpA_shs&&entsSmall cmpA_ents&&lentsSmall cmpA_lents&&aentsSmall cmpA_aents&&slotsSmall cmpA_slots&&cleavesExact cmpA_ls&&zaq 237 cmpA_slots&&Nat.ble 237 dslot&&dfrSmall cmpA_dfr)=true:=by kernel_rfl

def Tryz.cmpB_ents:List Ent:= []
def Tryz.cmpB_shs:List Sh:= [.ro rowRg,.ro [.int .u8 (.var 27)],.ro [.int .u8 (.var 28)]]
def Tryz.cmpB_slots:List (Nat×AV):= [(9,.ptr 1 0),(13,.int .u64 (u64v 19)),(18,.sx 6 (lnv 29) 1 [(lnv 26,2)]),(26,.sx 7 (lnv 29) 1 [(lnv 26,3)]),(27,.int .i64 (lnv 26))]++zcM [0,2,7,8,14,15,16,19]
def Tryz.cmpB_lents:List LEnt:= []
def Tryz.cmpB_aents:List AEnt:= []
def Tryz.cmpB_dfr:Option AV:=none
def Tryz.cmpB_asm:List (SB×Bool):= [(.cmp .lss (lnv 26) (lnv 29),true),(.cmp .neq (.var 28) (.var 27),true),(.cmp .lss (lnv 26) (u64v 3),false),(.cmp .geq (lnv 26) (.bin .add .u64 (u64v 3) (u64v 19)),false)]
def Tryz.cmpB_ls:List CLeaf:= [
 ⟨.normal,[9,13,18,26,27,0,2,7,8,14,15,16,19],none,⟨.tup [.ptr 1 0,.int .u64 (u64v 19),.sx 6 ((lnv 29)) 1 [((lnv 26),2)],.sx 7 ((lnv 29)) 1 [((lnv 26),3)],.int .i64 (.bin .add .i64 (lnv 26) (.lit 1)),.cst 100 none,.cst 102 none,.cst 107 none,.cst 108 none,.cst 114 none,.cst 115 none,.cst 116 none,.cst 119 none],[(1,[.bool (.lit false),.int .i64 (szv 0),.int .u64 (u64v 1),.int .u64 (u64v 2),.int .u64 (u64v 3)])],[],0,[]⟩⟩]
def Tryz.cmpB_ps:List (List (SB×Bool)×Nat):= [
 ([], 0)]
theorem Tryz.cmpB_run:(evL prog (entOrc cmpB_ents) (zao cmpB_lents) (aentOrc cmpB_aents) 100000 (.code (codeR prog [0,0,1,0,1,1,1,1,1,0,0,1,0,0,1,0,1,1,1,1,1,1,1,1,4]) [0,0,1,0,1,1,1,1,1,0,0,1,0,0,1,0,1,1,1,1,1,1,1,1,4] 237 (envS 237 cmpB_slots cmpB_dfr) (zaj 0 cmpB_shs) (cleafAt cmpB_ls 0))).ways cmpB_asm=some cmpB_ps:=by kernel_rfl
theorem Tryz.cmpB_ok:(shsSmall cmpB_shs&&entsSmall cmpB_ents&&lentsSmall cmpB_lents&&aentsSmall cmpB_aents&&slotsSmall cmpB_slots&&cleavesExact cmpB_ls&&zaq 237 cmpB_slots&&Nat.ble 237 dslot&&dfrSmall cmpB_dfr)=true:=by kernel_rfl

def Tryz.cmpe_ents:List Ent:= []
def Tryz.cmpe_shs:List Sh:= [.ro rowRg]
def Tryz.cmpe_slots:List (Nat×AV):= [(9,.ptr 1 0),(13,.int .u64 (u64v 19)),(18,.sx 6 (lnv 29) 1 []),(26,.sx 7 (lnv 29) 1 []),(27,.int .i64 (lnv 26))]++zcM [0,2,7,8,14,15,16,19]
def Tryz.cmpe_lents:List LEnt:= []
def Tryz.cmpe_aents:List AEnt:= []
def Tryz.cmpe_dfr:Option AV:=none
def Tryz.cmpe_asm:List (SB×Bool):= [(.cmp .lss (lnv 26) (lnv 29),false)]
def Tryz.cmpe_ls:List CLeaf:= [
 ⟨(.exit 5),[9,13,0,2,7,8,14,15,16,19],none,⟨.tup [.ptr 1 0,.int .u64 (u64v 19),.cst 100 none,.cst 102 none,.cst 107 none,.cst 108 none,.cst 114 none,.cst 115 none,.cst 116 none,.cst 119 none],[(1,[.bool (.lit false),.int .i64 (szv 0),.int .u64 (u64v 1),.int .u64 (u64v 2),.int .u64 (u64v 3)])],[],0,[]⟩⟩]
def Tryz.cmpe_ps:List (List (SB×Bool)×Nat):= [
 ([], 0)]
theorem Tryz.cmpe_run:(evL prog (entOrc cmpe_ents) (zao cmpe_lents) (aentOrc cmpe_aents) 100000 (.code (codeR prog [0,0,1,0,1,1,1,1,1,0,0,1,0,0,1,0,1,1,1,1,1,1,1,1,4]) [0,0,1,0,1,1,1,1,1,0,0,1,0,0,1,0,1,1,1,1,1,1,1,1,4] 237 (envS 237 cmpe_slots cmpe_dfr) (zaj 0 cmpe_shs) (cleafAt cmpe_ls 0))).ways cmpe_asm=some cmpe_ps:=by kernel_rfl
theorem Tryz.cmpe_ok:(shsSmall cmpe_shs&&entsSmall cmpe_ents&&lentsSmall cmpe_lents&&aentsSmall cmpe_aents&&slotsSmall cmpe_slots&&cleavesExact cmpe_ls&&zaq 237 cmpe_slots&&Nat.ble 237 dslot&&dfrSmall cmpe_dfr)=true:=by kernel_rfl

def Tryz.lm0_ents:List Ent:= [zb4 0 4 1,zcs 1 5 17,zdL 0,lwPollE,zb4 2 6 3,zcs 3 7 18,zfV 3,zcT 3 4]
def Tryz.lm0_shs:List Sh:= [.ro rowRg,.ro lwAct]
def Tryz.lm0_slots:List (Nat×AV):=zbA lwActs (.var 15) (.var 5) (lnv 6)
def Tryz.lm0_lents:List LEnt:= [zaI 3 4 6 (.lit 0) (.var 5) (.int .i64 (lnv 17)),zaI 3 4 6 (.var 15) (.var 5) (.int .i64 (lnv 17))]
def Tryz.lm0_aents:List AEnt:= []
def Tryz.lm0_dfr:Option AV:=none
def Tryz.lm0_asm:List (SB×Bool):= [(.cmp .lss (lnv 6) (lnv 7),true),(.cmp .gtr (.bin .sub .i64 (lnv 18) (lnv 17)) (.lit 1),false),(.cmp .lss (.bin .sub .i64 (lnv 18) (lnv 17)) (.lit (-1)),false)]
def Tryz.lm0_ls:List CLeaf:= [
 ⟨.ret,[],none,⟨.tup [],[],[],3,[]⟩⟩,
 ⟨.normal,[0,2,7,8,9,13,14,15,16],none,⟨.tup [.int .i64 (szv 0),.sx 4 ((lnv 7)) 8 [((lnv 6),2)],.cst 0 none,.cst 2 none,.ptr 1 0,.int .u64 (u64v 19),.int .i64 (.lit 0),.int .i64 (.var 5),.int .i64 (.bin .add .i64 (lnv 6) (.lit 1))],[(1,[.bool (.lit false),.int .i64 (szv 0),.int .u64 (u64v 1),.int .u64 (u64v 2),.int .u64 (u64v 3)])],[],3,[]⟩⟩,
 ⟨.normal,[0,2,7,8,9,13,14,15,16],none,⟨.tup [.int .i64 (szv 0),.sx 4 ((lnv 7)) 8 [((lnv 6),2)],.cst 0 none,.cst 2 none,.ptr 1 0,.int .u64 (u64v 19),.int .i64 (.var 15),.int .i64 (.var 5),.int .i64 (.bin .add .i64 (lnv 6) (.lit 1))],[(1,[.bool (.lit false),.int .i64 (szv 0),.int .u64 (u64v 1),.int .u64 (u64v 2),.int .u64 (u64v 3)])],[],3,[]⟩⟩]
def Tryz.lm0_ps:List (List (SB×Bool)×Nat):= [
 ([((.cmp .eql (.var 21) (.lit 0)),true),((.cmp .eql (.var 23) (.lit 4)),true),(.var 4,true)],0),
 ([((.cmp .eql (.var 21) (.lit 0)),true),((.cmp .eql (.var 23) (.lit 4)),true),(.var 4,false)],1),
 ([((.cmp .eql (.var 21) (.lit 0)),true),((.cmp .eql (.var 23) (.lit 4)),false)],1),
 ([((.cmp .eql (.var 21) (.lit 0)),false),((.cmp .eql (.var 23) (.lit 4)),true),(.var 4,true)],0),
 ([((.cmp .eql (.var 21) (.lit 0)),false),((.cmp .eql (.var 23) (.lit 4)),true),(.var 4,false)],2),
 ([((.cmp .eql (.var 21) (.lit 0)),false),((.cmp .eql (.var 23) (.lit 4)),false)],2)]
theorem Tryz.lm0_run:(evL prog (entOrc lm0_ents) (zao lm0_lents) (aentOrc lm0_aents) 100000 (.code (codeR prog [0,0,1,0,1,1,1,1,1,1,1,1,4]) [0,0,1,0,1,1,1,1,1,1,1,1,4] 237 (envS 237 lm0_slots lm0_dfr) (zaj 0 lm0_shs) (cleafAt lm0_ls 0))).ways lm0_asm=some lm0_ps:=by kernel_rfl
theorem Tryz.lm0_ok:(shsSmall lm0_shs&&entsSmall lm0_ents&&lentsSmall lm0_lents&&aentsSmall lm0_aents&&slotsSmall lm0_slots&&cleavesExact lm0_ls&&zaq 237 lm0_slots&&Nat.ble 237 dslot&&dfrSmall lm0_dfr)=true:=by kernel_rfl

def Tryz.lm1_ents:List Ent:= [zb4 0 4 1,zcs 1 5 17,zdL 1,lwHds2E,zb4 2 7 3,zcs 3 8 18,zfV 3,zcT 3 4]
def Tryz.lm1_shs:List Sh:= [.ro rowRg,.ro lwAct]
def Tryz.lm1_slots:List (Nat×AV):=zbA lwActs (.var 15) (.var 5) (lnv 6)
def Tryz.lm1_lents:List LEnt:= [k1Stmt,zaI 3 4 7 (.lit 0) (.var 5) (.int .i64 (lnv 17)),zaI 3 4 7 (.var 15) (.var 5) (.int .i64 (lnv 17))]
def Tryz.lm1_aents:List AEnt:= []
def Tryz.lm1_dfr:Option AV:=none
def Tryz.lm1_asm:List (SB×Bool):= [(.cmp .lss (lnv 6) (lnv 7),true),(.cmp .gtr (.bin .sub .i64 (lnv 18) (lnv 17)) (.lit 1),false),(.cmp .lss (.bin .sub .i64 (lnv 18) (lnv 17)) (.lit (-1)),false)]
def Tryz.lm1_ls:List CLeaf:= [
 ⟨.ret,[],none,⟨.tup [],[],[],3,[]⟩⟩,
 ⟨.normal,[0,2,7,8,9,13,14,15,16],none,⟨.tup [.int .i64 (szv 0),.sx 4 ((lnv 7)) 8 [((lnv 6),2)],.cst 0 none,.cst 2 none,.ptr 1 0,.int .u64 (u64v 19),.int .i64 (.lit 0),.int .i64 (.var 5),.int .i64 (.bin .add .i64 (lnv 6) (.lit 1))],[(1,[.bool (.lit false),.int .i64 (szv 0),.int .u64 (u64v 1),.int .u64 (u64v 2),.int .u64 (u64v 3)])],[],3,[]⟩⟩,
 ⟨.normal,[0,2,7,8,9,13,14,15,16],none,⟨.tup [.int .i64 (szv 0),.sx 4 ((lnv 7)) 8 [((lnv 6),2)],.cst 0 none,.cst 2 none,.ptr 1 0,.int .u64 (u64v 19),.int .i64 (.var 15),.int .i64 (.var 5),.int .i64 (.bin .add .i64 (lnv 6) (.lit 1))],[(1,[.bool (.lit false),.int .i64 (szv 0),.int .u64 (u64v 1),.int .u64 (u64v 2),.int .u64 (u64v 3)])],[],3,[]⟩⟩]
def Tryz.lm1_ps:List (List (SB×Bool)×Nat):= [
 ([(.var 3,true),((.cmp .eql (.var 23) (.lit 4)),true),(.var 4,true)],0),
 ([(.var 3,true),((.cmp .eql (.var 23) (.lit 4)),true),(.var 4,false)],1),
 ([(.var 3,true),((.cmp .eql (.var 23) (.lit 4)),false)],1),
 ([(.var 3,false),((.cmp .eql (.var 23) (.lit 4)),true),(.var 4,true)],0),
 ([(.var 3,false),((.cmp .eql (.var 23) (.lit 4)),true),(.var 4,false)],2),
 ([(.var 3,false),((.cmp .eql (.var 23) (.lit 4)),false)],2)]
theorem Tryz.lm1_run:(evL prog (entOrc lm1_ents) (zao lm1_lents) (aentOrc lm1_aents) 100000 (.code (codeR prog [0,0,1,0,1,1,1,1,1,1,1,1,4]) [0,0,1,0,1,1,1,1,1,1,1,1,4] 237 (envS 237 lm1_slots lm1_dfr) (zaj 0 lm1_shs) (cleafAt lm1_ls 0))).ways lm1_asm=some lm1_ps:=by kernel_rfl
theorem Tryz.lm1_ok:(shsSmall lm1_shs&&entsSmall lm1_ents&&lentsSmall lm1_lents&&aentsSmall lm1_aents&&slotsSmall lm1_slots&&cleavesExact lm1_ls&&zaq 237 lm1_slots&&Nat.ble 237 dslot&&dfrSmall lm1_dfr)=true:=by kernel_rfl

def Tryz.zdM (kd:Int):List Ent:= [zb4 0 4 1,zcs 1 5 17,zdL kd,zk9 (.var 9) (.lit 19996) 20 1,lwStoreE,zb4 2 6 3,zb4 3 7 4,zcs 4 8 18,zfV 4,zcT 4 4]
def Tryz.lm4_ents:List Ent:=zdM 4
def Tryz.lm4_shs:List Sh:= [.ro rowRg,.ro lwAct]
def Tryz.lm4_slots:List (Nat×AV):=zbA lwActs (.var 15) (.var 5) (lnv 6)
def Tryz.lm4_lents:List LEnt:= [zaI 4 6 7 (.var 15) (.var 5) (.int .i64 (lnv 17))]
def Tryz.lm4_aents:List AEnt:= []
def Tryz.lm4_dfr:Option AV:=none
def Tryz.lm4_asm:List (SB×Bool):= [(.cmp .lss (lnv 6) (lnv 7),true),(.cmp .gtr (.bin .sub .i64 (lnv 18) (lnv 17)) (.lit 1),false),(.cmp .lss (.bin .sub .i64 (lnv 18) (lnv 17)) (.lit (-1)),false)]
def Tryz.lm4_ls:List CLeaf:= [
 ⟨.ret,[],none,⟨.tup [],[],[],4,[]⟩⟩,
 ⟨.normal,[0,2,7,8,9,13,14,15,16],none,⟨.tup [.int .i64 (szv 0),.sx 4 ((lnv 7)) 8 [((lnv 6),2)],.cst 0 none,.cst 2 none,.ptr 1 0,.int .u64 (u64v 19),.int .i64 (.var 15),.int .i64 (.var 5),.int .i64 (.bin .add .i64 (lnv 6) (.lit 1))],[(1,[.bool (.lit false),.int .i64 (szv 0),.int .u64 (u64v 1),.int .u64 (u64v 2),.int .u64 (u64v 3)])],[],4,[]⟩⟩]
def Tryz.lm4_ps:List (List (SB×Bool)×Nat):= [
 ([((.cmp .eql (.var 23) (.lit 4)),true),(.var 4,true)],0),
 ([((.cmp .eql (.var 23) (.lit 4)),true),(.var 4,false)],1),
 ([((.cmp .eql (.var 23) (.lit 4)),false)],1)]
theorem Tryz.lm4_run:(evL prog (entOrc lm4_ents) (zao lm4_lents) (aentOrc lm4_aents) 100000 (.code (codeR prog [0,0,1,0,1,1,1,1,1,1,1,1,4]) [0,0,1,0,1,1,1,1,1,1,1,1,4] 237 (envS 237 lm4_slots lm4_dfr) (zaj 0 lm4_shs) (cleafAt lm4_ls 0))).ways lm4_asm=some lm4_ps:=by kernel_rfl
theorem Tryz.lm4_ok:(shsSmall lm4_shs&&entsSmall lm4_ents&&lentsSmall lm4_lents&&aentsSmall lm4_aents&&slotsSmall lm4_slots&&cleavesExact lm4_ls&&zaq 237 lm4_slots&&Nat.ble 237 dslot&&dfrSmall lm4_dfr)=true:=by kernel_rfl

theorem Tryz.lm5_run:(evL prog (entOrc (zdM 5)) (zao lm4_lents) (aentOrc lm4_aents) 100000 (.code (codeR prog [0,0,1,0,1,1,1,1,1,1,1,1,4]) [0,0,1,0,1,1,1,1,1,1,1,1,4] 237 (envS 237 lm4_slots lm4_dfr) (zaj 0 lm4_shs) (cleafAt lm4_ls 0))).ways lm4_asm=some lm4_ps:=by kernel_rfl
theorem Tryz.lm5_ok:(shsSmall lm4_shs&&entsSmall (zdM 5)&&lentsSmall lm4_lents&&aentsSmall lm4_aents&&slotsSmall lm4_slots&&cleavesExact lm4_ls&&zaq 237 lm4_slots&&Nat.ble 237 dslot&&dfrSmall lm4_dfr)=true:=by kernel_rfl

def Tryz.lm6_ents:List Ent:= [zb4 0 4 1,zcs 1 5 17,zdL 6,lwOfferE,zb4 2 7 3,zb4 3 8 4,zcs 4 9 18,zfV 4,zcT 4 4]
def Tryz.lm6_shs:List Sh:= [.ro rowRg,.ro lwAct]
def Tryz.lm6_slots:List (Nat×AV):=zbA lwActs (.var 15) (.var 5) (lnv 6)
def Tryz.lm6_lents:List LEnt:= [idsLoop,zaI 4 7 8 (.var 15) (.bin .add .i64 (.var 5) (.lit 1)) (.int .i64 (lnv 17)),zaI 4 7 8 (.var 15) (.var 5) (.int .i64 (lnv 17))]
def Tryz.lm6_aents:List AEnt:= []
def Tryz.lm6_dfr:Option AV:=none
def Tryz.lm6_asm:List (SB×Bool):= [(.cmp .lss (lnv 6) (lnv 7),true),(.cmp .gtr (.bin .sub .i64 (lnv 18) (lnv 17)) (.lit 1),false),(.cmp .lss (.bin .sub .i64 (lnv 18) (lnv 17)) (.lit (-1)),false),(.cmp .gtr (lnv 4) (.lit 0),true),(.cmp .leq (lnv 4) (szv 0),true)]
def Tryz.lm6_ls:List CLeaf:= [
 ⟨.ret,[],none,⟨.tup [],[],[],4,[]⟩⟩,
 ⟨.normal,[0,2,7,8,9,13,14,15,16],none,⟨.tup [.int .i64 (szv 0),.sx 4 ((lnv 7)) 8 [((lnv 6),2)],.cst 0 none,.cst 2 none,.ptr 1 0,.int .u64 (u64v 19),.int .i64 (.var 15),.int .i64 (.bin .add .i64 (.var 5) (.lit 1)),.int .i64 (.bin .add .i64 (lnv 6) (.lit 1))],[(1,[.bool (.lit false),.int .i64 (szv 0),.int .u64 (u64v 1),.int .u64 (u64v 2),.int .u64 (u64v 3)])],[],4,[]⟩⟩,
 ⟨.normal,[0,2,7,8,9,13,14,15,16],none,⟨.tup [.int .i64 (szv 0),.sx 4 ((lnv 7)) 8 [((lnv 6),2)],.cst 0 none,.cst 2 none,.ptr 1 0,.int .u64 (u64v 19),.int .i64 (.var 15),.int .i64 (.var 5),.int .i64 (.bin .add .i64 (lnv 6) (.lit 1))],[(1,[.bool (.lit false),.int .i64 (szv 0),.int .u64 (u64v 1),.int .u64 (u64v 2),.int .u64 (u64v 3)])],[],4,[]⟩⟩]
def Tryz.lm6_ps:List (List (SB×Bool)×Nat):= [
 ([(.var 2,true),((.cmp .eql (.var 23) (.lit 4)),true),(.var 4,true)],0),
 ([(.var 2,true),((.cmp .eql (.var 23) (.lit 4)),true),(.var 4,false)],1),
 ([(.var 2,true),((.cmp .eql (.var 23) (.lit 4)),false)],1),
 ([(.var 2,false),((.cmp .eql (.var 23) (.lit 4)),true),(.var 4,true)],0),
 ([(.var 2,false),((.cmp .eql (.var 23) (.lit 4)),true),(.var 4,false)],2),
 ([(.var 2,false),((.cmp .eql (.var 23) (.lit 4)),false)],2)]
theorem Tryz.lm6_run:(evL prog (entOrc lm6_ents) (zao lm6_lents) (aentOrc lm6_aents) 100000 (.code (codeR prog [0,0,1,0,1,1,1,1,1,1,1,1,4]) [0,0,1,0,1,1,1,1,1,1,1,1,4] 237 (envS 237 lm6_slots lm6_dfr) (zaj 0 lm6_shs) (cleafAt lm6_ls 0))).ways lm6_asm=some lm6_ps:=by kernel_rfl
theorem Tryz.lm6_ok:(shsSmall lm6_shs&&entsSmall lm6_ents&&lentsSmall lm6_lents&&aentsSmall lm6_aents&&slotsSmall lm6_slots&&cleavesExact lm6_ls&&zaq 237 lm6_slots&&Nat.ble 237 dslot&&dfrSmall lm6_dfr)=true:=by kernel_rfl

def Tryz.lm6n_ents:List Ent:= [zb4 0 4 1,zcs 1 5 17,zdL 6,zb4 1 6 3,zcs 3 7 18,zfV 3,zcT 3 4]
def Tryz.lm6n_shs:List Sh:= [.ro rowRg,.ro lwAct]
def Tryz.lm6n_slots:List (Nat×AV):=zbA lwActs (.var 15) (.var 5) (lnv 6)
def Tryz.lm6n_lents:List LEnt:= [zaI 3 4 6 (.var 15) (.var 5) (.int .i64 (lnv 17))]
def Tryz.lm6n_aents:List AEnt:= []
def Tryz.lm6n_dfr:Option AV:=none
def Tryz.lm6n_asm:List (SB×Bool):= [(.cmp .lss (lnv 6) (lnv 7),true),(.cmp .gtr (.bin .sub .i64 (lnv 18) (lnv 17)) (.lit 1),false),(.cmp .lss (.bin .sub .i64 (lnv 18) (lnv 17)) (.lit (-1)),false),(.cmp .gtr (lnv 4) (.lit 0),false)]
def Tryz.lm6n_ls:List CLeaf:= [
 ⟨.ret,[],none,⟨.tup [],[],[],3,[]⟩⟩,
 ⟨.normal,[0,2,7,8,9,13,14,15,16],none,⟨.tup [.int .i64 (szv 0),.sx 4 ((lnv 7)) 8 [((lnv 6),2)],.cst 0 none,.cst 2 none,.ptr 1 0,.int .u64 (u64v 19),.int .i64 (.var 15),.int .i64 (.var 5),.int .i64 (.bin .add .i64 (lnv 6) (.lit 1))],[(1,[.bool (.lit false),.int .i64 (szv 0),.int .u64 (u64v 1),.int .u64 (u64v 2),.int .u64 (u64v 3)])],[],3,[]⟩⟩]
def Tryz.lm6n_ps:List (List (SB×Bool)×Nat):= [
 ([((.cmp .eql (.var 23) (.lit 4)),true),(.var 4,true)],0),
 ([((.cmp .eql (.var 23) (.lit 4)),true),(.var 4,false)],1),
 ([((.cmp .eql (.var 23) (.lit 4)),false)],1)]
theorem Tryz.lm6n_run:(evL prog (entOrc lm6n_ents) (zao lm6n_lents) (aentOrc lm6n_aents) 100000 (.code (codeR prog [0,0,1,0,1,1,1,1,1,1,1,1,4]) [0,0,1,0,1,1,1,1,1,1,1,1,4] 237 (envS 237 lm6n_slots lm6n_dfr) (zaj 0 lm6n_shs) (cleafAt lm6n_ls 0))).ways lm6n_asm=some lm6n_ps:=by kernel_rfl
theorem Tryz.lm6n_ok:(shsSmall lm6n_shs&&entsSmall lm6n_ents&&lentsSmall lm6n_lents&&aentsSmall lm6n_aents&&slotsSmall lm6n_slots&&cleavesExact lm6n_ls&&zaq 237 lm6n_slots&&Nat.ble 237 dslot&&dfrSmall lm6n_dfr)=true:=by kernel_rfl

def Tryz.lm6b_ents:List Ent:= [zb4 0 4 1,zcs 1 5 17,zdL 6,zb4 1 6 3,zcs 3 7 18,zfV 3,zcT 3 4]
def Tryz.lm6b_shs:List Sh:= [.ro rowRg,.ro lwAct]
def Tryz.lm6b_slots:List (Nat×AV):=zbA lwActs (.var 15) (.var 5) (lnv 6)
def Tryz.lm6b_lents:List LEnt:= [zaI 3 4 6 (.var 15) (.var 5) (.int .i64 (lnv 17))]
def Tryz.lm6b_aents:List AEnt:= []
def Tryz.lm6b_dfr:Option AV:=none
def Tryz.lm6b_asm:List (SB×Bool):= [(.cmp .lss (lnv 6) (lnv 7),true),(.cmp .gtr (.bin .sub .i64 (lnv 18) (lnv 17)) (.lit 1),false),(.cmp .lss (.bin .sub .i64 (lnv 18) (lnv 17)) (.lit (-1)),false),(.cmp .gtr (lnv 4) (.lit 0),true),(.cmp .leq (lnv 4) (szv 0),false)]
def Tryz.lm6b_ls:List CLeaf:= [
 ⟨.ret,[],none,⟨.tup [],[],[],3,[]⟩⟩,
 ⟨.normal,[0,2,7,8,9,13,14,15,16],none,⟨.tup [.int .i64 (szv 0),.sx 4 ((lnv 7)) 8 [((lnv 6),2)],.cst 0 none,.cst 2 none,.ptr 1 0,.int .u64 (u64v 19),.int .i64 (.var 15),.int .i64 (.var 5),.int .i64 (.bin .add .i64 (lnv 6) (.lit 1))],[(1,[.bool (.lit false),.int .i64 (szv 0),.int .u64 (u64v 1),.int .u64 (u64v 2),.int .u64 (u64v 3)])],[],3,[]⟩⟩]
def Tryz.lm6b_ps:List (List (SB×Bool)×Nat):= [
 ([((.cmp .eql (.var 23) (.lit 4)),true),(.var 4,true)],0),
 ([((.cmp .eql (.var 23) (.lit 4)),true),(.var 4,false)],1),
 ([((.cmp .eql (.var 23) (.lit 4)),false)],1)]
theorem Tryz.lm6b_run:(evL prog (entOrc lm6b_ents) (zao lm6b_lents) (aentOrc lm6b_aents) 100000 (.code (codeR prog [0,0,1,0,1,1,1,1,1,1,1,1,4]) [0,0,1,0,1,1,1,1,1,1,1,1,4] 237 (envS 237 lm6b_slots lm6b_dfr) (zaj 0 lm6b_shs) (cleafAt lm6b_ls 0))).ways lm6b_asm=some lm6b_ps:=by kernel_rfl
theorem Tryz.lm6b_ok:(shsSmall lm6b_shs&&entsSmall lm6b_ents&&lentsSmall lm6b_lents&&aentsSmall lm6b_aents&&slotsSmall lm6b_slots&&cleavesExact lm6b_ls&&zaq 237 lm6b_slots&&Nat.ble 237 dslot&&dfrSmall lm6b_dfr)=true:=by kernel_rfl

def Tryz.zdN (kd:Int):List Ent:= [zb4 0 4 1,zcs 1 5 17,zdL kd,zcT 1 0,lwStepE,zcT 2 1,zb4 2 7 3,zcs 3 8 18,zfV 3,zcT 3 4]
def Tryz.lm2_ents:List Ent:=zdN 2
def Tryz.lm2_shs:List Sh:= [.ro rowRg,.ro lwAct]
def Tryz.lm2_slots:List (Nat×AV):=zbA lwActs (.var 15) (.var 5) (lnv 6)
def Tryz.lm2_lents:List LEnt:= [zaI 3 4 7 (.bin .add .i64 (.var 15) (.lit 1)) (.var 5) (.int .i64 (lnv 17))]
def Tryz.lm2_aents:List AEnt:= []
def Tryz.lm2_dfr:Option AV:=none
def Tryz.lm2_asm:List (SB×Bool):= [(.cmp .lss (lnv 6) (lnv 7),true),(.cmp .gtr (.bin .sub .i64 (lnv 18) (lnv 17)) (.lit 1),false),(.cmp .lss (.bin .sub .i64 (lnv 18) (lnv 17)) (.lit (-1)),false)]
def Tryz.lm2_ls:List CLeaf:= [
 ⟨.ret,[],none,⟨.tup [],[],[],2,[]⟩⟩,
 ⟨.ret,[],none,⟨.tup [],[],[],3,[]⟩⟩,
 ⟨.normal,[0,2,7,8,9,13,14,15,16],none,⟨.tup [.int .i64 (szv 0),.sx 4 ((lnv 7)) 8 [((lnv 6),2)],.cst 0 none,.cst 2 none,.ptr 1 0,.int .u64 (u64v 19),.int .i64 (.bin .add .i64 (.var 15) (.lit 1)),.int .i64 (.var 5),.int .i64 (.bin .add .i64 (lnv 6) (.lit 1))],[(1,[.bool (.lit false),.int .i64 (szv 0),.int .u64 (u64v 1),.int .u64 (u64v 2),.int .u64 (u64v 3)])],[],3,[]⟩⟩]
def Tryz.lm2_ps:List (List (SB×Bool)×Nat):= [
 ([(.var 0,false),((.cmp .eql (.var 21) (.lit 0)),true)],0),
 ([(.var 0,false),((.cmp .eql (.var 21) (.lit 0)),false),((.cmp .gtr (.bin .add .i64 (.var 15) (.lit 1)) (.lit 7)),true),((.cmp .eql (.var 21) (.lit 4)),true),(.var 1,true)],0),
 ([(.var 0,false),((.cmp .eql (.var 21) (.lit 0)),false),((.cmp .gtr (.bin .add .i64 (.var 15) (.lit 1)) (.lit 7)),true),((.cmp .eql (.var 21) (.lit 4)),true),(.var 1,false),((.cmp .eql (.var 23) (.lit 4)),true),(.var 4,true)],1),
 ([(.var 0,false),((.cmp .eql (.var 21) (.lit 0)),false),((.cmp .gtr (.bin .add .i64 (.var 15) (.lit 1)) (.lit 7)),true),((.cmp .eql (.var 21) (.lit 4)),true),(.var 1,false),((.cmp .eql (.var 23) (.lit 4)),true),(.var 4,false)],2),
 ([(.var 0,false),((.cmp .eql (.var 21) (.lit 0)),false),((.cmp .gtr (.bin .add .i64 (.var 15) (.lit 1)) (.lit 7)),true),((.cmp .eql (.var 21) (.lit 4)),true),(.var 1,false),((.cmp .eql (.var 23) (.lit 4)),false)],2),
 ([(.var 0,false),((.cmp .eql (.var 21) (.lit 0)),false),((.cmp .gtr (.bin .add .i64 (.var 15) (.lit 1)) (.lit 7)),true),((.cmp .eql (.var 21) (.lit 4)),false),((.cmp .eql (.var 23) (.lit 4)),true),(.var 4,true)],1),
 ([(.var 0,false),((.cmp .eql (.var 21) (.lit 0)),false),((.cmp .gtr (.bin .add .i64 (.var 15) (.lit 1)) (.lit 7)),true),((.cmp .eql (.var 21) (.lit 4)),false),((.cmp .eql (.var 23) (.lit 4)),true),(.var 4,false)],2),
 ([(.var 0,false),((.cmp .eql (.var 21) (.lit 0)),false),((.cmp .gtr (.bin .add .i64 (.var 15) (.lit 1)) (.lit 7)),true),((.cmp .eql (.var 21) (.lit 4)),false),((.cmp .eql (.var 23) (.lit 4)),false)],2),
 ([(.var 0,false),((.cmp .eql (.var 21) (.lit 0)),false),((.cmp .gtr (.bin .add .i64 (.var 15) (.lit 1)) (.lit 7)),false),((.cmp .eql (.var 21) (.lit 4)),true),(.var 1,true)],0),
 ([(.var 0,false),((.cmp .eql (.var 21) (.lit 0)),false),((.cmp .gtr (.bin .add .i64 (.var 15) (.lit 1)) (.lit 7)),false),((.cmp .eql (.var 21) (.lit 4)),true),(.var 1,false),((.cmp .eql (.var 23) (.lit 4)),true),(.var 4,true)],1),
 ([(.var 0,false),((.cmp .eql (.var 21) (.lit 0)),false),((.cmp .gtr (.bin .add .i64 (.var 15) (.lit 1)) (.lit 7)),false),((.cmp .eql (.var 21) (.lit 4)),true),(.var 1,false),((.cmp .eql (.var 23) (.lit 4)),true),(.var 4,false)],2),
 ([(.var 0,false),((.cmp .eql (.var 21) (.lit 0)),false),((.cmp .gtr (.bin .add .i64 (.var 15) (.lit 1)) (.lit 7)),false),((.cmp .eql (.var 21) (.lit 4)),true),(.var 1,false),((.cmp .eql (.var 23) (.lit 4)),false)],2),
 ([(.var 0,false),((.cmp .eql (.var 21) (.lit 0)),false),((.cmp .gtr (.bin .add .i64 (.var 15) (.lit 1)) (.lit 7)),false),((.cmp .eql (.var 21) (.lit 4)),false),((.cmp .eql (.var 23) (.lit 4)),true),(.var 4,true)],1),
 ([(.var 0,false),((.cmp .eql (.var 21) (.lit 0)),false),((.cmp .gtr (.bin .add .i64 (.var 15) (.lit 1)) (.lit 7)),false),((.cmp .eql (.var 21) (.lit 4)),false),((.cmp .eql (.var 23) (.lit 4)),true),(.var 4,false)],2),
 ([(.var 0,false),((.cmp .eql (.var 21) (.lit 0)),false),((.cmp .gtr (.bin .add .i64 (.var 15) (.lit 1)) (.lit 7)),false),((.cmp .eql (.var 21) (.lit 4)),false),((.cmp .eql (.var 23) (.lit 4)),false)],2),
 ([(.var 0,true),((.cmp .gtr (.bin .add .i64 (.var 15) (.lit 1)) (.lit 7)),true)],0),
 ([(.var 0,true),((.cmp .gtr (.bin .add .i64 (.var 15) (.lit 1)) (.lit 7)),false),((.cmp .eql (.var 21) (.lit 4)),true),(.var 1,true)],0),
 ([(.var 0,true),((.cmp .gtr (.bin .add .i64 (.var 15) (.lit 1)) (.lit 7)),false),((.cmp .eql (.var 21) (.lit 4)),true),(.var 1,false),((.cmp .eql (.var 23) (.lit 4)),true),(.var 4,true)],1),
 ([(.var 0,true),((.cmp .gtr (.bin .add .i64 (.var 15) (.lit 1)) (.lit 7)),false),((.cmp .eql (.var 21) (.lit 4)),true),(.var 1,false),((.cmp .eql (.var 23) (.lit 4)),true),(.var 4,false)],2),
 ([(.var 0,true),((.cmp .gtr (.bin .add .i64 (.var 15) (.lit 1)) (.lit 7)),false),((.cmp .eql (.var 21) (.lit 4)),true),(.var 1,false),((.cmp .eql (.var 23) (.lit 4)),false)],2),
 ([(.var 0,true),((.cmp .gtr (.bin .add .i64 (.var 15) (.lit 1)) (.lit 7)),false),((.cmp .eql (.var 21) (.lit 4)),false),((.cmp .eql (.var 23) (.lit 4)),true),(.var 4,true)],1),
 ([(.var 0,true),((.cmp .gtr (.bin .add .i64 (.var 15) (.lit 1)) (.lit 7)),false),((.cmp .eql (.var 21) (.lit 4)),false),((.cmp .eql (.var 23) (.lit 4)),true),(.var 4,false)],2),
 ([(.var 0,true),((.cmp .gtr (.bin .add .i64 (.var 15) (.lit 1)) (.lit 7)),false),((.cmp .eql (.var 21) (.lit 4)),false),((.cmp .eql (.var 23) (.lit 4)),false)],2)]
theorem Tryz.lm2_run:(evL prog (entOrc lm2_ents) (zao lm2_lents) (aentOrc lm2_aents) 100000 (.code (codeR prog [0,0,1,0,1,1,1,1,1,1,1,1,4]) [0,0,1,0,1,1,1,1,1,1,1,1,4] 237 (envS 237 lm2_slots lm2_dfr) (zaj 0 lm2_shs) (cleafAt lm2_ls 0))).ways lm2_asm=some lm2_ps:=by kernel_rfl
theorem Tryz.lm2_ok:(shsSmall lm2_shs&&entsSmall lm2_ents&&lentsSmall lm2_lents&&aentsSmall lm2_aents&&slotsSmall lm2_slots&&cleavesExact lm2_ls&&zaq 237 lm2_slots&&Nat.ble 237 dslot&&dfrSmall lm2_dfr)=true:=by kernel_rfl

theorem Tryz.lm3_run:(evL prog (entOrc (zdN 3)) (zao lm2_lents) (aentOrc lm2_aents) 100000 (.code (codeR prog [0,0,1,0,1,1,1,1,1,1,1,1,4]) [0,0,1,0,1,1,1,1,1,1,1,1,4] 237 (envS 237 lm2_slots lm2_dfr) (zaj 0 lm2_shs) (cleafAt lm2_ls 0))).ways lm2_asm=some lm2_ps:=by kernel_rfl
theorem Tryz.lm3_ok:(shsSmall lm2_shs&&entsSmall (zdN 3)&&lentsSmall lm2_lents&&aentsSmall lm2_aents&&slotsSmall lm2_slots&&cleavesExact lm2_ls&&zaq 237 lm2_slots&&Nat.ble 237 dslot&&dfrSmall lm2_dfr)=true:=by kernel_rfl

def Tryz.lme_ents:List Ent:= []
def Tryz.lme_shs:List Sh:= [.ro rowRg]
def Tryz.lme_slots:List (Nat×AV):=zbA (.sx 4 (lnv 7) 8 []) (.var 15) (.var 5) (lnv 6)
def Tryz.lme_lents:List LEnt:= []
def Tryz.lme_aents:List AEnt:= []
def Tryz.lme_dfr:Option AV:=none
def Tryz.lme_asm:List (SB×Bool):= [(.cmp .lss (lnv 6) (lnv 7),false)]
def Tryz.lme_ls:List CLeaf:= [
 ⟨(.exit 0),[],none,⟨.tup [],[],[],0,[]⟩⟩]
def Tryz.lme_ps:List (List (SB×Bool)×Nat):= [
 ([], 0)]
theorem Tryz.lme_run:(evL prog (entOrc lme_ents) (zao lme_lents) (aentOrc lme_aents) 100000 (.code (codeR prog [0,0,1,0,1,1,1,1,1,1,1,1,4]) [0,0,1,0,1,1,1,1,1,1,1,1,4] 237 (envS 237 lme_slots lme_dfr) (zaj 0 lme_shs) (cleafAt lme_ls 0))).ways lme_asm=some lme_ps:=by kernel_rfl
theorem Tryz.lme_ok:(shsSmall lme_shs&&entsSmall lme_ents&&lentsSmall lme_lents&&aentsSmall lme_aents&&slotsSmall lme_slots&&cleavesExact lme_ls&&zaq 237 lme_slots&&Nat.ble 237 dslot&&dfrSmall lme_dfr)=true:=by kernel_rfl

def Tryz.k1z_ents:List Ent:= []
def Tryz.k1z_shs:List Sh:= [.ro lwAct]
def Tryz.k1z_slots:List (Nat×AV):= [(8,.cst 2 none),(14,.int .i64 (.var 15)),(17,.ptr 1 0),(20,.sx 5 (lnv 17) 1 [])]++zcM [0,2,7,9,13,15,16,18,19]
def Tryz.k1z_lents:List LEnt:= []
def Tryz.k1z_aents:List AEnt:= []
def Tryz.k1z_dfr:Option AV:=none
def Tryz.k1z_asm:List (SB×Bool):= [(.cmp .gtr (lnv 17) (.lit 0),false)]
def Tryz.k1z_ls:List CLeaf:= [
 ⟨.normal,[14,8,0,2,7,9,13,15,16,18,19],none,⟨.tup [.int .i64 (.var 15),.cst 2 none,.cst 100 none,.cst 102 none,.cst 107 none,.cst 109 none,.cst 113 none,.cst 115 none,.cst 116 none,.cst 118 none,.cst 119 none],[],[],1,[]⟩⟩]
def Tryz.k1z_ps:List (List (SB×Bool)×Nat):= [
 ([], 0)]
theorem Tryz.k1z_run:(evL prog (entOrc k1z_ents) (zao k1z_lents) (aentOrc k1z_aents) 100000 (.code (codeR prog [1,0,1,1,1,0,1,0,1,1,1,0,0,1,0,0,1,0,1,1,1,1,1,1,1,1,4]) [1,0,1,1,1,0,1,0,1,1,1,0,0,1,0,0,1,0,1,1,1,1,1,1,1,1,4] 237 (envS 237 k1z_slots k1z_dfr) (zaj 1 k1z_shs) (cleafAt k1z_ls 0))).ways k1z_asm=some k1z_ps:=by kernel_rfl
theorem Tryz.k1z_ok:(shsSmall k1z_shs&&entsSmall k1z_ents&&lentsSmall k1z_lents&&aentsSmall k1z_aents&&slotsSmall k1z_slots&&cleavesExact k1z_ls&&zaq 237 k1z_slots&&Nat.ble 237 dslot&&dfrSmall k1z_dfr)=true:=by kernel_rfl

def Tryz.k1a_ents:List Ent:= [zk9 (.var 9) (lnv 17) 24 1,⟨19,[.cst 2 none,.int .i64 (.var 25),.int .u32 (.lit 0)],1,0,0,.int .i64 (.var 21),2⟩]
def Tryz.k1a_shs:List Sh:= [.ro lwAct,.ro [.int .i64 (.var 25)]]
def Tryz.k1a_slots:List (Nat×AV):= [(8,.cst 2 none),(14,.int .i64 (.var 15)),(17,.ptr 1 0),(20,.sx 5 (lnv 17) 1 [(.var 24,2)])]++zcM [0,2,7,9,13,15,16,18,19]
def Tryz.k1a_lents:List LEnt:= []
def Tryz.k1a_aents:List AEnt:= []
def Tryz.k1a_dfr:Option AV:=none
def Tryz.k1a_asm:List (SB×Bool):= [(.cmp .gtr (lnv 17) (.lit 0),true),(.cmp .lss (.var 24) (lnv 17),true),(.cmp .lss (.var 24) (.lit 0),false)]
def Tryz.k1a_ls:List CLeaf:= [
 ⟨.normal,[14,8,0,2,7,9,13,15,16,18,19],none,⟨.tup [.int .i64 (.lit 0),.cst 2 none,.cst 100 none,.cst 102 none,.cst 107 none,.cst 109 none,.cst 113 none,.cst 115 none,.cst 116 none,.cst 118 none,.cst 119 none],[],[],2,[]⟩⟩,
 ⟨.normal,[14,8,0,2,7,9,13,15,16,18,19],none,⟨.tup [.int .i64 (.var 15),.cst 2 none,.cst 100 none,.cst 102 none,.cst 107 none,.cst 109 none,.cst 113 none,.cst 115 none,.cst 116 none,.cst 118 none,.cst 119 none],[],[],2,[]⟩⟩]
def Tryz.k1a_ps:List (List (SB×Bool)×Nat):= [
 ([((.cmp .eql (.var 21) (.lit 0)),true)],0),
 ([((.cmp .eql (.var 21) (.lit 0)),false)],1)]
theorem Tryz.k1a_run:(evL prog (entOrc k1a_ents) (zao k1a_lents) (aentOrc k1a_aents) 100000 (.code (codeR prog [1,0,1,1,1,0,1,0,1,1,1,0,0,1,0,0,1,0,1,1,1,1,1,1,1,1,4]) [1,0,1,1,1,0,1,0,1,1,1,0,0,1,0,0,1,0,1,1,1,1,1,1,1,1,4] 237 (envS 237 k1a_slots k1a_dfr) (zaj 1 k1a_shs) (cleafAt k1a_ls 0))).ways k1a_asm=some k1a_ps:=by kernel_rfl
theorem Tryz.k1a_ok:(shsSmall k1a_shs&&entsSmall k1a_ents&&lentsSmall k1a_lents&&aentsSmall k1a_aents&&slotsSmall k1a_slots&&cleavesExact k1a_ls&&zaq 237 k1a_slots&&Nat.ble 237 dslot&&dfrSmall k1a_dfr)=true:=by kernel_rfl

def Tryz.idlb_ents:List Ent:= [zk9 (.var 9) (szv 0) 20 1]
def Tryz.idlb_shs:List Sh:= [.ro lwAct]
def Tryz.idlb_slots:List (Nat×AV):= [(0,.int .i64 (szv 0)),(17,.ptr 1 0),(21,.cst 3 none),(22,.int .i64 (lnv 26))]++zcM [2,7,8,9,13,14,15,16,18,19]
def Tryz.idlb_lents:List LEnt:= []
def Tryz.idlb_aents:List AEnt:= [idsA 3 (.bin .rem .i64 (.bin .add .i64 (.var 20) (lnv 26)) (szv 0))]
def Tryz.idlb_dfr:Option AV:=none
def Tryz.idlb_asm:List (SB×Bool):= [(.cmp .lss (lnv 26) (lnv 4),true),(.cmp .eql (szv 0) (.lit 0),false)]
def Tryz.idlb_ls:List CLeaf:= [
 ⟨.normal,[0,17,21,22,2,7,8,9,13,14,15,16,18,19],none,⟨.tup [.int .i64 (szv 0),.ptr 1 0,.opq 3 none,.int .i64 (.bin .add .i64 (lnv 26) (.lit 1)),.cst 102 none,.cst 107 none,.cst 108 none,.cst 109 none,.cst 113 none,.cst 114 none,.cst 115 none,.cst 116 none,.cst 118 none,.cst 119 none],[(1,[.int .i64 (.var 8),.int .i64 (.var 9),.int .u32 (u32v 10),.int .u64 (u64v 11),.int .u32 (u32v 12),.int .u16 (u16v 13),.int .u16 (u16v 14),.sx 1 ((lnv 4)) 3 []])],[],2,[]⟩⟩]
def Tryz.idlb_ps:List (List (SB×Bool)×Nat):= [
 ([], 0)]
theorem Tryz.idlb_run:(evL prog (entOrc idlb_ents) (zao idlb_lents) (aentOrc idlb_aents) 100000 (.code (codeR prog [0,0,1,0,1,0,1,0,1,1,1,1,1,1,1,0,1,0,1,1,1,0,0,1,0,0,1,0,1,1,1,1,1,1,1,1,4]) [0,0,1,0,1,0,1,0,1,1,1,1,1,1,1,0,1,0,1,1,1,0,0,1,0,0,1,0,1,1,1,1,1,1,1,1,4] 237 (envS 237 idlb_slots idlb_dfr) (zaj 1 idlb_shs) (cleafAt idlb_ls 0))).ways idlb_asm=some idlb_ps:=by kernel_rfl
theorem Tryz.idlb_ok:(shsSmall idlb_shs&&entsSmall idlb_ents&&lentsSmall idlb_lents&&aentsSmall idlb_aents&&slotsSmall idlb_slots&&cleavesExact idlb_ls&&zaq 237 idlb_slots&&Nat.ble 237 dslot&&dfrSmall idlb_dfr)=true:=by kernel_rfl

def Tryz.idle_ents:List Ent:= []
def Tryz.idle_shs:List Sh:= [.ro lwAct]
def Tryz.idle_slots:List (Nat×AV):= [(0,.int .i64 (szv 0)),(17,.ptr 1 0),(21,.cst 3 none),(22,.int .i64 (lnv 26))]++zcM [2,7,8,9,13,14,15,16,18,19]
def Tryz.idle_lents:List LEnt:= []
def Tryz.idle_aents:List AEnt:= []
def Tryz.idle_dfr:Option AV:=none
def Tryz.idle_asm:List (SB×Bool):= [(.cmp .lss (lnv 26) (lnv 4),false)]
def Tryz.idle_ls:List CLeaf:= [
 ⟨(.exit 3),[0,17,21,2,7,8,9,13,14,15,16,18,19],none,⟨.tup [.int .i64 (szv 0),.ptr 1 0,.cst 3 none,.cst 102 none,.cst 107 none,.cst 108 none,.cst 109 none,.cst 113 none,.cst 114 none,.cst 115 none,.cst 116 none,.cst 118 none,.cst 119 none],[(1,[.int .i64 (.var 8),.int .i64 (.var 9),.int .u32 (u32v 10),.int .u64 (u64v 11),.int .u32 (u32v 12),.int .u16 (u16v 13),.int .u16 (u16v 14),.sx 1 ((lnv 4)) 3 []])],[],1,[]⟩⟩]
def Tryz.idle_ps:List (List (SB×Bool)×Nat):= [
 ([], 0)]
theorem Tryz.idle_run:(evL prog (entOrc idle_ents) (zao idle_lents) (aentOrc idle_aents) 100000 (.code (codeR prog [0,0,1,0,1,0,1,0,1,1,1,1,1,1,1,0,1,0,1,1,1,0,0,1,0,0,1,0,1,1,1,1,1,1,1,1,4]) [0,0,1,0,1,0,1,0,1,1,1,1,1,1,1,0,1,0,1,1,1,0,0,1,0,0,1,0,1,1,1,1,1,1,1,1,4] 237 (envS 237 idle_slots idle_dfr) (zaj 1 idle_shs) (cleafAt idle_ls 0))).ways idle_asm=some idle_ps:=by kernel_rfl
theorem Tryz.idle_ok:(shsSmall idle_shs&&entsSmall idle_ents&&lentsSmall idle_lents&&aentsSmall idle_aents&&slotsSmall idle_slots&&cleavesExact idle_ls&&zaq 237 idle_slots&&Nat.ble 237 dslot&&dfrSmall idle_dfr)=true:=by kernel_rfl
end Go.Proofs
namespace Go.Proofs
open Go.Dw Go.RowKit Go.Maps Go.Sort

structure Tryz.LwR where
 q:Option Nat
 v:Value
 sz:Nat
 n:Nat
 cs:List Value
def Tryz.LwR.is (e:LwR) (q:Nat→Option Value) (u:Value):Prop:=match e.q with|some n=>q n=some u|none=>u=e.v
def Tryz.lwG (X:Nat→Prop) (bX:Nat) (S P L Bs B M N:Nat) (r:Rg) (b2:Nat) (sk:Nat→SS) (gk:Nat→Nat→Int) (rows:Nat→List LwR):Gho where
 fact k q F w:=(∀b,F b→X b∨bX≤b)∧ ∃F0:Nat→Prop,(∀b,F0 b→F b)∧LwF S P L Bs B M N r (sk k) (gk k) F0 w∧ ∀e∈rows k,∃(u:Value) (t:TypeId),e.is q u∧OwnR t e.sz w b2 u e.n e.cs∧ ∀b,u.ownBlock=some b→F b∧ ¬F0 b
 loc:=fun k q q' F w w' h hq hb hs=>⟨h.1,by
  obtain ⟨_,F0,h0,h1,h2⟩:=h
  refine ⟨F0,h0,h1.kept (fun b h=>hb b (h0 b h)) hs,fun e he=> ?_⟩
  obtain ⟨u,t,q1,q2,q3⟩:=h2 e he
  refine ⟨u,t,?_,OwnR.kept q2 fun b e=>hb b (q3 b e).1,q3⟩
  unfold LwR.is at q1 ⊢
  split at q1
  ·exact hq _ _ q1
  ·exact q1⟩
section
variable {X:Nat→Prop} {bX:Nat} {ρ:Val} {w0:World} {K:Nat→Prop} {S P L Bs B M N:Nat} {r:Tryz.Rg} {b2:Nat} {sk:Nat→Tryz.SS} {gk:Nat→Nat→Int} {rows:Nat→List Tryz.LwR} {f:FuncId} {args:List AV} {res:AV} {k k':Nat}
theorem Tryz.zk8 (he:Dw.Enters prog f) (hx:AV.exactL args=true) (hbX:bX≤w0.heap.size) (V:List Value) (U:Value) (ha: ∀j,RL ρ j args V) (hr: ∀j,Dw.R ρ j res U) (hlt:S<b2∧M<b2∧B<b2) (hK:K S∧K M∧K B) (hrows: ∀e∈rows k',e∈rows k)
  (h: ∀(A:Nat→Prop) (w:World),SW A w S P L Bs B M N r (sk k) (gk k)→Calls prog f V.toArray w fun e w'=>e= .returned U∧SW A w' S P L Bs B M N r (sk k') (gk k')∧Dw.Mv (sK S M B) w w'):
  zaJ prog ρ w0 K (lwG X bX S P L Bs B M N r b2 sk gk rows) ⟨f,args,k,0,0,res,k'⟩:=by
 refine ⟨he,fun j w vals F n hv hnone _ hF hsz hf _=> ?_⟩
 have hv:=zbY hx hv (ha j)
 subst hv
 obtain ⟨hXF,F0,hF0,h1,h2⟩:=hf
 refine Calls.mono (h _ w h1.sw) fun en w' hh=> ?_
 obtain ⟨rfl,hsw,hmv⟩:=hh
 refine ⟨U,[],fun b=>F b∨(w.heap.size≤b∧b<w'.heap.size),rfl,rfl,hr _,⟨fun b hb=> ?_,fun b=>F0 b∨(w.heap.size≤b∧b<w'.heap.size),fun b hb=>hb.imp_left (hF0 b),h1.next hsw hmv.size (fun b hb=> .inl hb) fun b q1 q2=> .inr ⟨q1,q2⟩,fun e he=> ?_⟩,?_,hmv.mono fun b hb=> ?_⟩
 ·rcases hb with hb|⟨hb,_⟩
  ·exact hXF b hb
  ·exact .inr (by omega)
 ·obtain ⟨u,t,q1,q2,q3⟩:=h2 e (hrows e he)
  refine ⟨u,t,by rw [zcb];exact q1,OwnR.kept q2 fun b hb=>hmv.block b (OwnR.lt q2 b hb).2 fun hh=> ?_,fun b hb=>⟨.inl (q3 b hb).1,fun hn=> ?_⟩⟩
  ·have:=(OwnR.lt q2 b hb).1
   rcases hh with hh|hh|hh<;>omega
  ·have:=(OwnR.lt q2 b hb).2
   rcases hn with hn|hn
   ·exact (q3 b hb).2 hn
   ·omega
 ·rintro b (hb|⟨q1,q2⟩)
  ·exact ⟨Nat.lt_of_lt_of_le (hF b hb) hmv.size,.inl hb⟩
  ·exact ⟨q2,.inr q1⟩
 ·rcases hb with rfl|rfl|rfl
  ·exact ⟨hF0 _ h1.fS,.inr hK.1⟩
  ·exact ⟨hF0 _ h1.fM,.inr hK.2.1⟩
  ·exact ⟨hF0 _ h1.fB,.inr hK.2.2⟩
theorem Tryz.zso (he:Dw.Enters prog f) (hx:AV.exactL args=true) (hbX:bX≤w0.heap.size) (V:List Value) (U:Value) (ha: ∀j,RL ρ j args V) (hr: ∀j,Dw.R ρ j res U) (hlt:B<b2) (hK:K B) (hrows: ∀e∈rows k',e∈rows k) (hs:sk k'=sk k)
  (h: ∀w:World,GM w P L Bs B N (gk k)→Calls prog f V.toArray w fun e w'=>e= .returned U∧GM w' P L Bs B N (gk k')∧Dw.Mv (fun b=>b=B) w w'):
  zaJ prog ρ w0 K (lwG X bX S P L Bs B M N r b2 sk gk rows) ⟨f,args,k,0,0,res,k'⟩:=by
 refine ⟨he,fun j w vals F n hv hnone _ hF hsz hf _=> ?_⟩
 have hv:=zbY hx hv (ha j)
 subst hv
 obtain ⟨hXF,F0,hF0,h1,h2⟩:=hf
 refine Calls.mono (h w h1.mem) fun en w' hh=> ?_
 obtain ⟨rfl,hg,hmv⟩:=hh
 refine ⟨U,[],F,rfl,rfl,hr _,⟨hXF,F0,hF0,?_,fun e he=> ?_⟩,fun b hb=>⟨Nat.lt_of_lt_of_le (hF b hb) hmv.size,.inl hb⟩,hmv.mono fun b hb=> ?_⟩
 ·show LwF S P L Bs B M N r (sk k') (gk k') _ w'
  rw [hs]
  exact h1.stored hmv hg
 ·obtain ⟨u,t,q1,q2,q3⟩:=h2 e (hrows e he)
  refine ⟨u,t,by rw [zcb];exact q1,OwnR.kept q2 fun b hb=>hmv.block b (OwnR.lt q2 b hb).2 fun hh=> ?_,q3⟩
  have:=(OwnR.lt q2 b hb).1
  omega
 ·subst hb
  exact ⟨hF0 _ h1.fB,.inr hK⟩
theorem Tryz.zqI {q:Nat} {e0:LwR} (he:Dw.Enters prog f) (hx:AV.exactL args=true) (hbX:bX≤w0.heap.size) (V:List Value) (ha: ∀j,RL ρ j args V) (hb2:b2≤w0.heap.size) (hr: ∀j u,j q=some ⟨0,0,0,some u⟩→u.oneCell'=true→(∃sa c,u= .slice sa e0.n c)→Dw.R ρ j res u) (hrows: ∀e∈rows k',e=e0∨e∈rows k) (hq:e0.q=some q) (hs:sk k'=sk k) (hg:gk k'=gk k)
  (h: ∀(A:Nat→Prop) (w:World),SW A w S P L Bs B M N r (sk k) (gk k)→Calls prog f V.toArray w fun e w'=> ∃(u:Value) (t:TypeId),e= .returned u∧OwnR t e0.sz w' w.heap.size u e0.n e0.cs∧Below w.heap.size w w'):
  zaJ prog ρ w0 K (lwG X bX S P L Bs B M N r b2 sk gk rows) ⟨f,args,k,q,1,res,k'⟩:=by
 refine ⟨he,fun j w vals F n hv hnone hb hF hsz hf _=> ?_⟩
 have hb:n=q:=hb (by show (1:Nat)≠0;decide)
 subst hb
 have hv:=zbY hx hv (ha j)
 subst hv
 obtain ⟨hXF,F0,hF0,h1,h2⟩:=hf
 refine Calls.mono (h _ w h1.sw) fun en w' hh=> ?_
 obtain ⟨u,t,rfl,hu,hbl⟩:=hh
 have hj:jq j n [u] n=some ⟨0,0,0,some u⟩:=by
  unfold jq
  rw [if_pos ⟨Nat.le_refl _,by simp⟩]
  simp
 obtain ⟨sa,c,hsl,_⟩:=OwnR.row hu
 refine ⟨u,[u],fun b=>F b∨u.ownBlock=some b,rfl,rfl,hr _ u hj (OwnR.one hu) ⟨sa,c,hsl⟩,⟨fun b hb=> ?_,F0,fun b hb=> .inl (hF0 b hb),?_,fun e he=> ?_⟩,?_,Dw.Mv.of_below hbl⟩
 ·rcases hb with hb|hb
  ·exact hXF b hb
  ·have:=(OwnR.lt hu b hb).1
   exact .inr (by omega)
 ·show LwF S P L Bs B M N r (sk k') (gk k') _ w'
  rw [hs,hg]
  exact h1.kept (fun b hb=>hbl.block b (hF b (hF0 b hb))) hbl.size
 ·rcases hrows e he with rfl|he
  ·refine ⟨u,t,?_,OwnR.mono hu (by omega),fun b hb=>⟨.inr hb,fun hn=> ?_⟩⟩
   ·unfold LwR.is
    rw [hq]
    exact za7
   ·have:=(OwnR.lt hu b hb).1
    have:=hF b (hF0 b hn)
    omega
  ·obtain ⟨v,t',q1,q2,q3⟩:=h2 e he
   refine ⟨v,t',?_,OwnR.kept q2 fun b hb=>hbl.block b (OwnR.lt q2 b hb).2,fun b hb=>⟨.inl (q3 b hb).1,(q3 b hb).2⟩⟩
   unfold LwR.is at q1 ⊢
   split at q1
   ·rename_i m hm
    unfold opqs jq at*
    by_cases hlt:n≤m
    ·have:=hnone m hlt
     rw [this] at q1;cases q1
    ·rw [if_neg (fun hh=>hlt hh.1)];exact q1
   ·exact q1
 ·rintro b (hb|hb)
  ·exact ⟨Nat.lt_of_lt_of_le (hF b hb) hbl.size,.inl hb⟩
  ·exact ⟨(OwnR.lt hu b hb).2,.inr (OwnR.lt hu b hb).1⟩
end
end Go.Proofs
namespace Go.Proofs
open Go.Dw Go.RowKit Go.Maps Go.Sort

def Tryz.imgR (q N:Nat) (g:Nat→Int):LwR:=⟨some q,undef,1,N,row g 0 N⟩
theorem Tryz.zj7 {w:World} {G N:Nat} {g:Nat→Int} (h:w.rangeAt G 0 (row g 0 N)) (k:Nat) (hk:k<N):w.rangeAt G (0+1*k) [.int .u8 (g k)]:=fun j v hv=>by
 match j,hv with
 | 0,hv=>
  cases hv
  have:=h k (.int .u8 (g k)) (by simp [row,hk])
  rw [show 0+1*k+0=0+k by omega]
  exact this
 | j+1,hv=>cases hv
def Tryz.zoP (r:Rg) (z k wb nb N:Int) (vw vn:Value) (a:Act):Val:=
 ⟨fun n=>match n with|0=>r.n|1=>r.d|2=>r.v|3=>r.c|19=>z|26=>k|27=>wb|28=>nb|29=>N|_=>0,fun _=>false,fun n=>match n with|6=>vw|7=>vn|n=>a.tmps.getD (n-100) undef⟩
structure Tryz.CmpD (ρ:Val) (r:Rg) (z k wb nb N:Int) (vw vn:Value) (a:Act):Prop where
 n:(szv 0).den ρ=r.n
 d:(u64v 1).den ρ=r.d
 v:(u64v 2).den ρ=r.v
 c:(u64v 3).den ρ=r.c
 z:(u64v 19).den ρ=z
 k:(lnv 26).den ρ=k
 wb:ρ.i 27=wb
 nb:ρ.i 28=nb
 N:(lnv 29).den ρ=N
 vw:ρ.v 6=vw
 vn:ρ.v 7=vn
 p: ∀t,ρ.v (100+t)=a.tmps.getD t undef
theorem Tryz.cmpD {r:Rg} {z k wb nb N:Int} {vw vn:Value} {a:Act} (hr:RgOk r) (hz:0≤z∧z<18446744073709551616) (hk:0≤k∧k<4000000) (hN:0≤N∧N<4000000):CmpD (zoP r z k wb nb N vw vn a) r z k wb nb N vw vn a:=by
 have q1:=hr.dE
 have q2:=hr.vE
 have q3:=hr.cE
 have hb:=hr.bnd
 exact ⟨ziW (by show 1≤r.n;omega) (by show r.n≤_;omega),zav hr.d0 (by show r.d<_;omega),zav hr.v0 (by show r.v<_;omega),zav hr.c0 (by show r.c<_;omega),zav hz.1 hz.2,zaB hk.1 (by show k<_;omega),rfl,rfl,zaB hN.1 (by show N<_;omega),rfl,rfl,fun t=>by
  show (match 100+t with|6=>vw|7=>vn|n=>a.tmps.getD (n-100) undef)=_
  split
  ·omega
  ·omega
  ·rw [Nat.add_sub_cancel_left]⟩
theorem Tryz.CmpD.rg {ρ:Val} {r:Rg} {z k wb nb N:Int} {vw vn:Value} {a:Act} (D:CmpD ρ r z k wb nb N vw vn a) (j:J):RL ρ j rowRg [.bool false,.int .i64 r.n,.int .u64 r.d,.int .u64 r.v,.int .u64 r.c]:=
 zaa (zaH rfl) (zaa (zab D.n) (zaa (zab D.d) (zaa (zab D.v) (zaa (zab D.c) RL.nil))))
theorem Tryz.zba {ρ:Val} {j:J}: ∀ {x:AV} {v:Value},(match x with| .int _ _=>true| .ptr _ _=>true| .cst _ _=>true| .opq _ _=>true| .sx _ _ _ _=>true|_=>false)=true→Dw.R ρ j x v→v.oneCell'=true
 | .int _ _,_,_,h=>by rw [show _=_ from h];rfl
 | .ptr _ _,_,_,⟨_,_,h⟩=>by rw [h];rfl
 | .cst _ _,_,_,h=>h.2.1
 | .opq _ _,_,_,h=>h.2.1
 | .sx _ _ _ _,_,_,⟨_,_,_,_,h,_⟩=>by rw [h];rfl
set_option maxRecDepth 10000 in
set_option maxHeartbeats 2000000 in
theorem Tryz.zbZ {ρ:Val} {w0:World} {K:Nat→Prop} {X:Nat→Prop} {bX:Nat} {S P L Bs B M N:Nat} {r:Rg} {b2:Nat} {sk:Nat→SS} {gk:Nat→Nat→Int} {rows:Nat→List LwR} {k was now:Nat} {steps pub:SE} {hds:AV} {gw gn:Nat→Int} {z:Int}
  (hr:RgOk r) (hN:N≤1048576) (hz:(u64v 19).den ρ=z) (hz2:0≤z∧r.c+z<18446744073709551616) (hrg: ∀j,RL ρ j rowRg [.bool false,.int .i64 r.n,.int .u64 r.d,.int .u64 r.v,.int .u64 r.c])
  (hw:imgR was N gw∈rows k) (hn:imgR now N gn∈rows k) (hg: ∀j,gn j≠gw j→r.c≤(j:Int)∧(j:Int)<r.c+z)
  (hh:(match hds with| .int _ _=>true| .ptr _ _=>true| .cst _ _=>true| .opq _ _=>true| .sx _ _ _ _=>true|_=>false)=true):
  zgc prog ρ w0 K (lwG X bX S P L Bs B M N r b2 sk gk rows) (zaI k was now steps pub hds):=by
 refine zct rfl (fun d hd=>by unfold zaI at hd;simp at hd;rw [hd];rfl) fun cc hc j a w F hsz hdf hsl hrw hf _ _=> ?_
 obtain ⟨_,F0,_,_,hrows⟩:=hf
 obtain ⟨uw,tw,qw,how,_⟩:=hrows _ hw
 obtain ⟨un,tn,qn,hon,_⟩:=hrows _ hn
 have val: ∀ {q:Nat} {u v:Value},opqs j q=some u→Dw.R ρ j (.opq q none) v→v=u:=fun {q u v} hq h=>by
  obtain ⟨⟨Lq,hj,hu⟩,_⟩:=h
  unfold opqs at hq
  rw [hj] at hq
  simp only [Option.bind_some] at hq
  rw [hu] at hq
  injection hq
 have h9:=(hsl (9,.ptr 1 0) (by simp [zaI])).2
 have h13:=(hsl (13,.int .u64 (u64v 19)) (by simp [zaI])).2
 have h18:=val qw (hsl (18,.opq was none) (by simp [zaI])).2
 have h26:=val qn (hsl (26,.opq now none) (by simp [zaI])).2
 have h27:=(hsl (27,.int .i64 (.lit 0)) (by simp [zaI])).2
 have g13:a.tmps.getD 13 undef= .int .u64 z:=by rw [show a.tmps.getD 13 undef= .int .u64 ((u64v 19).den ρ) from h13,hz]
 have g27:a.tmps.getD 27 undef= .int .i64 0:=h27
 obtain ⟨Lb,hjb,g9⟩:=h9
 obtain ⟨_,vals,hvals,hrow⟩:=hrw (1,rowRg) (by simp [zaI]) Lb hjb
 have hvals:=zbY (show AV.exactL rowRg=true by decide) hvals (hrg j)
 subst hvals
 have hone: ∀t∈ [0,2,7,8,14,15,16,19],(a.tmps.getD t undef).oneCell'=true:=by
  intro t ht
  simp only [List.mem_cons,List.not_mem_nil,or_false] at ht
  rcases ht with rfl|rfl|rfl|rfl|rfl|rfl|rfl|rfl
  ·exact zba rfl (hsl (0,.int .i64 (szv 0)) (by simp [zaI,zbj])).2
  ·exact zba rfl (hsl (2,lwActs) (by simp [zaI,zbj])).2
  ·exact zba rfl (hsl (7,.cst 0 none) (by simp [zaI,zbj])).2
  ·exact zba rfl (hsl (8,.cst 2 none) (by simp [zaI,zbj])).2
  ·exact zba rfl (hsl (14,.int .i64 steps) (by simp [zaI,zbj])).2
  ·exact zba rfl (hsl (15,.int .i64 pub) (by simp [zaI,zbj])).2
  ·exact zba rfl (hsl (16,.int .i64 (lnv 6)) (by simp [zaI,zbj])).2
  ·exact zba hh (hsl (19,hds) (by simp [zaI,zbj])).2
 have hcc:cc=codeR prog [0,0,1,0,1,1,1,1,1,0,0,1,0,0,1,0,1,1,1,1,1,1,1,1,4]:=by
  have:=zcU (P:=prog) (p:= [0,1,0,1,1,1,1,1,0,0,1,0,0,1,0,1,1,1,1,1,1,1,1,4]) (by kernel_rfl)
  have hc:codeR prog [0,1,0,1,1,1,1,1,0,0,1,0,0,1,0,1,1,1,1,1,1,1,1,4]= .loop cc:=hc
  rw [hc] at this
  injection this
 subst hcc
 have hsz:a.tmps.size=237:=hsz
 obtain ⟨sw,cw,rfl,hrw1⟩:=OwnR.row how
 obtain ⟨sn,cn,rfl,hrn1⟩:=OwnR.row hon
 have hLlt:Lb.blk<w.heap.size:=zeW hrow
 have hwl:=OwnR.lt how
 have hnl:=OwnR.lt hon
 have hc0:=hr.c0
 refine zbd (fun (k:Nat) a' w'=>k≤N∧a'.tmps.size=237∧a'.defers= []∧a'.tmps.getD 9 undef= .pointer (some ⟨Lb.blk,Lb.off+0,none⟩)∧a'.tmps.getD 13 undef= .int .u64 z∧a'.tmps.getD 18 undef= .slice sw N cw∧a'.tmps.getD 26 undef= .slice sn N cn∧a'.tmps.getD 27 undef= .int .i64 k∧
   (∀ t∈ [0,2,7,8,14,15,16,19],a'.tmps.getD t undef=a.tmps.getD t undef)∧Below w.heap.size w w')
  (fun k=>N-k) (fun k a1 w1 hI=> ?_) 0 a w ⟨Nat.zero_le _,hsz,hdf,g9,g13,h18,h26,g27,fun _ _=>rfl,Below.refl _ _⟩
 obtain ⟨hkN,q0,qd,p9,p13,p18,p26,p27,pr,hb⟩:=hI
 have hrow1:Row w1 Lb [.bool false,.int .i64 r.n,.int .u64 r.d,.int .u64 r.v,.int .u64 r.c]:=hrow.kept (hb.block _ hLlt)
 have hwk:=zca k (by omega)
 by_cases hk:k<N
 ·rcases hrw1 with h0|⟨Gw,rfl,hGw,hrw1⟩
  ·have:=congrArg List.length h0
   simp [imgR,zd7] at this
   omega
  rcases hrn1 with h0|⟨Gn,rfl,hGn,hrn1⟩
  ·have:=congrArg List.length h0
   simp [imgR,zd7] at this
   omega
  have hxw:=zj7 (zat hrw1 (hb.block Gw (hwl Gw hGw).2)) k hk
  have hxn:=zj7 (zat hrn1 (hb.block Gn (hnl Gn hGn).2)) k hk
  have D:=cmpD (r:=r) (z:=z) (k:=k) (wb:=gw k) (nb:=gn k) (N:=N) (vw:= .slice (some ⟨Gw,0,none⟩) N cw) (vn:= .slice (some ⟨Gn,0,none⟩) N cn) (a:=a) hr (by omega) (by omega) (by omega)
  generalize zoP r z k (gw k) (gn k) N (.slice (some ⟨Gw,0,none⟩) N cw) (.slice (some ⟨Gn,0,none⟩) N cn) a=ρ' at D
  have hj1:jOf [(Lb.blk,Lb.off),(Gw,0+1*k),(Gn,0+1*k)] 1=some ⟨Lb.blk,Lb.off,0,none⟩:=rfl
  have hj2:jOf [(Lb.blk,Lb.off),(Gw,0+1*k),(Gn,0+1*k)] 2=some ⟨Gw,0+1*k,0,none⟩:=rfl
  have hj3:jOf [(Lb.blk,Lb.off),(Gw,0+1*k),(Gn,0+1*k)] 3=some ⟨Gn,0+1*k,0,none⟩:=rfl
  have hlss:SB.den ρ' (.cmp .lss (lnv 26) (lnv 29))=true:=by rw [zaz,D.k,D.N];simp only [decide_eq_true_eq];omega
  by_cases heq:gn k=gw k
  ·have hne:SB.den ρ' (.cmp .neq (.var 28) (.var 27))=false:=by rw [zbf,zai,zai,D.wb,D.nb,heq];simp
   refine wp_mono (zam (ρ:=ρ') (K:=fun _=>False) (g:=Gho.none) (bl:= [(Lb.blk,Lb.off),(Gw,0+1*k),(Gn,0+1*k)]) mixed cmpA_run cmpA_ok (fun b h=>h.elim)
    ⟨zb1 hrow1 (by simp) (D.rg _) (fun h=>h),zaw hxw (by simp) (zaa (zab D.wb) RL.nil) (fun h=>h),zaw hxn (by simp) (zaa (zab D.nb) RL.nil) (fun h=>h),trivial⟩
    ⟨fun h=>(by cases h),fun h=>(by cases h),fun h=>(by cases h),trivial⟩ zas trivial trivial trivial q0 qd ?_ (told_cons_iff.2 ⟨hlss,told_cons_iff.2 ⟨hne,told_nil.2 trivial⟩⟩)) fun ex a2 w2 hh=> ?_
   ·intro t ht
    simp only [cmpA_slots,zcM,List.map_cons,List.map_nil,List.cons_append,List.nil_append,List.mem_cons,List.not_mem_nil,or_false] at ht
    rcases ht with rfl|rfl|rfl|rfl|rfl|ht
    ·rw [p9];exact ⟨_,hj1,rfl⟩
    ·rw [p13];exact zab D.z
    ·rw [p18];exact ⟨D.vw.symm,_,_,_,rfl,D.N.symm,⟨Gw,0,_,k,rfl,hj2,rfl,D.k,hk,rfl⟩,trivial⟩
    ·rw [p26];exact ⟨D.vn.symm,_,_,_,rfl,D.N.symm,⟨Gn,0,_,k,rfl,hj3,rfl,D.k,hk,rfl⟩,trivial⟩
    ·rw [p27];exact zab D.k
    ·rcases ht with rfl|rfl|rfl|rfl|rfl|rfl|rfl|rfl
     all_goals
      show Dw.R ρ' _ (.cst _ none) _
      rw [pr _ (by simp)]
      exact zaD (D.p _) (hone _ (by simp))
   ·obtain ⟨q,hq,hto,lf,hlf,rfl,hsz2,j2,hdf2,he⟩:=hh
    have hb3:=zag he (fun _ h=>h)
    unfold cmpA_ps at hq
    simp only [List.mem_cons,List.not_mem_nil,or_false] at hq
    subst hq
    cases hlf
    have hs2:=zal he.ret
    have lc1:=zad (he.sub _ _ hj1)
    simp only [AV.valL,AV.val,D.z,D.vw,D.vn,D.k,D.p,den_add,zac,hwk,lc1,List.map_cons,List.map_nil,List.cons.injEq,and_true] at hs2
    obtain ⟨r9,r13,r18,r26,r27,r0,r2,r7,r8,r14,r15,r16,r19⟩:=hs2
    refine ⟨k+1,by omega,hk,hsz2,hdf2,r9,r13,r18,r26,r27,fun t ht=> ?_,hb.trans (hb3.mono hb.size)⟩
    simp only [List.mem_cons,List.not_mem_nil,or_false] at ht
    rcases ht with rfl|rfl|rfl|rfl|rfl|rfl|rfl|rfl
    ·exact r0.trans (D.p 0)
    ·exact r2.trans (D.p 2)
    ·exact r7.trans (D.p 7)
    ·exact r8.trans (D.p 8)
    ·exact r14.trans (D.p 14)
    ·exact r15.trans (D.p 15)
    ·exact r16.trans (D.p 16)
    ·exact r19.trans (D.p 19)
  ·obtain ⟨o1,o2⟩:=hg k heq
   have hne:SB.den ρ' (.cmp .neq (.var 28) (.var 27))=true:=by rw [zbf,zai,zai,D.wb,D.nb];simpa using heq
   have hl:SB.den ρ' (.cmp .lss (lnv 26) (u64v 3))=false:=by rw [zaz,D.k,D.c];simp only [decide_eq_false_iff_not];omega
   have hge:SB.den ρ' (.cmp .geq (lnv 26) (.bin .add .u64 (u64v 3) (u64v 19)))=false:=by rw [zcz,D.k,den_add,D.c,D.z,zay (by omega) (by omega)];simp only [decide_eq_false_iff_not];omega
   refine wp_mono (zam (ρ:=ρ') (K:=fun _=>False) (g:=Gho.none) (bl:= [(Lb.blk,Lb.off),(Gw,0+1*k),(Gn,0+1*k)]) mixed cmpB_run cmpB_ok (fun b h=>h.elim)
    ⟨zb1 hrow1 (by simp) (D.rg _) (fun h=>h),zaw hxw (by simp) (zaa (zab D.wb) RL.nil) (fun h=>h),zaw hxn (by simp) (zaa (zab D.nb) RL.nil) (fun h=>h),trivial⟩
    ⟨fun h=>(by cases h),fun h=>(by cases h),fun h=>(by cases h),trivial⟩ zas trivial trivial trivial q0 qd ?_ (told_cons_iff.2 ⟨hlss,told_cons_iff.2 ⟨hne,told_cons_iff.2 ⟨hl,told_cons_iff.2 ⟨hge,told_nil.2 trivial⟩⟩⟩⟩)) fun ex a2 w2 hh=> ?_
   ·intro t ht
    simp only [cmpB_slots,zcM,List.map_cons,List.map_nil,List.cons_append,List.nil_append,List.mem_cons,List.not_mem_nil,or_false] at ht
    rcases ht with rfl|rfl|rfl|rfl|rfl|ht
    ·rw [p9];exact ⟨_,hj1,rfl⟩
    ·rw [p13];exact zab D.z
    ·rw [p18];exact ⟨D.vw.symm,_,_,_,rfl,D.N.symm,⟨Gw,0,_,k,rfl,hj2,rfl,D.k,hk,rfl⟩,trivial⟩
    ·rw [p26];exact ⟨D.vn.symm,_,_,_,rfl,D.N.symm,⟨Gn,0,_,k,rfl,hj3,rfl,D.k,hk,rfl⟩,trivial⟩
    ·rw [p27];exact zab D.k
    ·rcases ht with rfl|rfl|rfl|rfl|rfl|rfl|rfl|rfl
     all_goals
      show Dw.R ρ' _ (.cst _ none) _
      rw [pr _ (by simp)]
      exact zaD (D.p _) (hone _ (by simp))
   ·obtain ⟨q,hq,hto,lf,hlf,rfl,hsz2,j2,hdf2,he⟩:=hh
    have hb3:=zag he (fun _ h=>h)
    unfold cmpB_ps at hq
    simp only [List.mem_cons,List.not_mem_nil,or_false] at hq
    subst hq
    cases hlf
    have hs2:=zal he.ret
    have lc1:=zad (he.sub _ _ hj1)
    simp only [AV.valL,AV.val,D.z,D.vw,D.vn,D.k,D.p,den_add,zac,hwk,lc1,List.map_cons,List.map_nil,List.cons.injEq,and_true] at hs2
    obtain ⟨r9,r13,r18,r26,r27,r0,r2,r7,r8,r14,r15,r16,r19⟩:=hs2
    refine ⟨k+1,by omega,hk,hsz2,hdf2,r9,r13,r18,r26,r27,fun t ht=> ?_,hb.trans (hb3.mono hb.size)⟩
    simp only [List.mem_cons,List.not_mem_nil,or_false] at ht
    rcases ht with rfl|rfl|rfl|rfl|rfl|rfl|rfl|rfl
    ·exact r0.trans (D.p 0)
    ·exact r2.trans (D.p 2)
    ·exact r7.trans (D.p 7)
    ·exact r8.trans (D.p 8)
    ·exact r14.trans (D.p 14)
    ·exact r15.trans (D.p 15)
    ·exact r16.trans (D.p 16)
    ·exact r19.trans (D.p 19)
 ·have hkk:k=N:=by omega
  subst hkk
  have D:=cmpD (r:=r) (z:=z) (k:=k) (wb:=0) (nb:=0) (N:=k) (vw:= .slice sw k cw) (vn:= .slice sn k cn) (a:=a) hr (by omega) (by omega) (by omega)
  generalize zoP r z k 0 0 k (.slice sw k cw) (.slice sn k cn) a=ρ' at D
  have hj1:jOf [(Lb.blk,Lb.off)] 1=some ⟨Lb.blk,Lb.off,0,none⟩:=rfl
  refine wp_mono (zam (ρ:=ρ') (K:=fun _=>False) (g:=Gho.none) (bl:= [(Lb.blk,Lb.off)]) mixed cmpe_run cmpe_ok (fun b h=>h.elim) ⟨zb1 hrow1 (by simp) (D.rg _) (fun h=>h),trivial⟩ ⟨fun h=>(by cases h),trivial⟩ zas trivial trivial trivial q0 qd ?_ (told_cons_iff.2 ⟨by rw [zaz,D.k,D.N];simp,told_nil.2 trivial⟩)) fun ex a2 w2 hh=> ?_
  ·intro t ht
   simp only [cmpe_slots,zcM,List.map_cons,List.map_nil,List.cons_append,List.nil_append,List.mem_cons,List.not_mem_nil,or_false] at ht
   rcases ht with rfl|rfl|rfl|rfl|rfl|ht
   ·rw [p9];exact ⟨_,hj1,rfl⟩
   ·rw [p13];exact zab D.z
   ·rw [p18];exact ⟨D.vw.symm,_,_,_,rfl,D.N.symm,trivial⟩
   ·rw [p26];exact ⟨D.vn.symm,_,_,_,rfl,D.N.symm,trivial⟩
   ·rw [p27];exact zab D.k
   ·rcases ht with rfl|rfl|rfl|rfl|rfl|rfl|rfl|rfl
    all_goals
     show Dw.R ρ' _ (.cst _ none) _
     rw [pr _ (by simp)]
     exact zaD (D.p _) (hone _ (by simp))
  ·obtain ⟨q,hq,hto,lf,hlf,rfl,hsz2,j2,hdf2,he⟩:=hh
   have hb3:=zag he (fun _ h=>h)
   unfold cmpe_ps at hq
   simp only [List.mem_cons,List.not_mem_nil,or_false] at hq
   subst hq
   cases hlf
   have hs2:=zal he.ret
   have lc1:=zad (he.sub _ _ hj1)
   simp only [AV.valL,AV.val,D.z,D.p,lc1,List.map_cons,List.map_nil,List.cons.injEq,and_true] at hs2
   obtain ⟨r9,r13,r0,r2,r7,r8,r14,r15,r16,r19⟩:=hs2
   refine ⟨_,by unfold zaI;rw [zaT,if_pos (show SB.den ρ (.lit true)=true from rfl)],rfl,hsz2,hdf2,(fun t ht=>by cases ht),fun s hs=> ?_,hb.trans (hb3.mono hb.size)⟩
   simp only [zbj,List.cons_append,List.nil_append,List.mem_cons,List.not_mem_nil,or_false] at hs
   rcases hs with rfl|rfl|rfl|rfl|rfl|rfl|rfl|rfl|rfl|rfl
   ·rw [r9];exact ⟨Lb,hjb,rfl⟩
   ·rw [r13];exact zab hz
   ·rw [r0.trans (D.p 0)];exact (hsl (0,.int .i64 (szv 0)) (by simp [zaI,zbj])).2
   ·rw [r2.trans (D.p 2)];exact (hsl (2,lwActs) (by simp [zaI,zbj])).2
   ·rw [r7.trans (D.p 7)];exact (hsl (7,.cst 0 none) (by simp [zaI,zbj])).2
   ·rw [r8.trans (D.p 8)];exact (hsl (8,.cst 2 none) (by simp [zaI,zbj])).2
   ·rw [r14.trans (D.p 14)];exact (hsl (14,.int .i64 steps) (by simp [zaI,zbj])).2
   ·rw [r15.trans (D.p 15)];exact (hsl (15,.int .i64 pub) (by simp [zaI,zbj])).2
   ·rw [r16.trans (D.p 16)];exact (hsl (16,.int .i64 (lnv 6)) (by simp [zaI,zbj])).2
   ·rw [r19.trans (D.p 19)];exact (hsl (19,hds) (by simp [zaI,zbj])).2
end Go.Proofs
end
