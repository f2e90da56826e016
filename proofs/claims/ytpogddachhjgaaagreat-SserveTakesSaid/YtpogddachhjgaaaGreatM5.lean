/-
  Proved: laws on the way to 'SserveTakesProof' (texts WkU XaB DwArgs DwVal SvJ SvK XaC XaD XaE XaF0 XaF XaG XaH XaI XaJ XaK XaL XaM0 XaM XaN XaO XaP XaR XaS0 XaS XaT XaU XaV XaW XaX XaY XaZ XbA XcJ XcK XcL XcN XcO XcS XcT XcA XcB XcC XcD XcE XcU XcV XbB XcF XbC XbD XbH XcG XcW XcH); no condition.
-/
import Derived.Test.YtpogddachhjgaaaGreatM4
import Derived.Carry
import Derived.OpenShut
import Derived.ProofKit
set_option linter.unusedSimpArgs false
set_option linter.unusedVariables false
noncomputable section
namespace Go.Proofs
open Go.Dw Go.RowKit Go.Maps Go.Sort Go.Shelf
theorem Tryz.zEf {w:World} {base base':Nat} {e:TypeId} {size:Nat} {v:Value} {n:Nat} {xs:List Value} (h:w.ownsRow base e size v n xs) (hb:base'≤base):w.ownsRow base' e size v n xs:=by
 rcases h.2 with h0|⟨g,cap,cur,hv,hg,hr⟩
 ·exact ⟨h.1,Or.inl h0⟩
 ·exact ⟨h.1,Or.inr ⟨g,cap,cur,hv,Nat.le_trans hb hg,hr⟩⟩
theorem Tryz.zrb: ∀ {l:List MapEntry},(∀e∈l,∃n,e.key= .int .i64 n)→ ∃ks:List Int,l.map (·.key)=ks.map encZ∧ ∀x,x∈ks↔ ∃e∈l,e.key= .int .i64 x
 | [], _=>⟨[],rfl,fun x=>by simp⟩
 | e::l,h=>by
  obtain ⟨ks,h1,h2⟩:=zrb fun e he=>h e (List.mem_cons_of_mem _ he)
  obtain ⟨n,hn⟩:=h e List.mem_cons_self
  refine ⟨n::ks,by rw [List.map_cons,List.map_cons,h1,hn],fun x=> ?_⟩
  rw [List.mem_cons,h2]
  constructor
  ·rintro (rfl|⟨e',h3,h4⟩)
   ·exact ⟨e,List.mem_cons_self,hn⟩
   ·exact ⟨e',List.mem_cons_of_mem _ h3,h4⟩
  ·rintro ⟨e',h3,h4⟩
   rcases List.mem_cons.1 h3 with rfl|h3
   ·left
    rw [hn] at h4
    cases h4
    rfl
   ·exact .inr ⟨e',h3,h4⟩
theorem Tryz.zEW {A:Nat→Prop} {w:World} {M:Nat} {tk:List (Int×List Sg)} (h:TkW A w M tk) {arr:Array MapEntry} {clock:Nat} (hb:w.heap[M]? =some (.map arr clock)):
  MapKept.Stamped arr clock∧ ∃ks:List Int,arr.toList.map (·.key)=ks.map encZ∧ks.Perm (tk.map (·.1)):=by
 obtain ⟨arr',clock',h1,⟨h2,h3⟩,h4⟩:=h.map
 rw [hb] at h1;cases h1
 obtain ⟨ks,g1,g2⟩:=zrb h2.keys
 have hnd:ks.Nodup:=by
  have:(ks.map encZ).Nodup:=by
   rw [←g1,List.Nodup,List.pairwise_map]
   exact h2.once
  exact (List.pairwise_map.1 this).imp fun h e=>h (congrArg encZ e)
 refine ⟨(MapKept.stamped_iff _ _).2 ⟨h3.1,h3.2,h2.once⟩,ks,g1,(List.perm_ext_iff_of_nodup hnd h.keys).2 fun x=> ?_⟩
 rw [g2]
 constructor
 ·rintro ⟨e,he,hk⟩
  have hv:=zcJ h2 he hk
  cases hg:zbz x tk with
  | none=>rw [(h4 x).1 hg] at hv;cases hv
  | some l=>exact List.mem_map.2 ⟨_,zi8 hg,rfl⟩
 ·intro hx
  cases hg:zbz x tk with
  | none=>exact absurd hx (zdM.1 hg)
  | some l=>
   obtain ⟨v,hv,_⟩:=(h4 x).2 l hg
   obtain ⟨e,he,hk,_⟩:=zgN hv
   exact ⟨e,he,hk⟩
set_option maxRecDepth 100000 in
theorem Tryz.zA6 (M:Nat) (w:World):
  Calls prog 59 #[.map (some M)] w fun e w'=> ∃t,e= .returned (.func (.func 87) #[] #[.pointer (some ⟨w.heap.size,0,none⟩)])∧w'=w.alloc (.cells #[.map (some M)] t):=by
 have hmf: ∀(fn:Fn) (first cap:Array Value) (w:World),(Instr.makeFunc fn first cap).run prog w= .ok (.func fn first cap) w:=fun _ _ _ _=>rfl
 go_enter func59,ntmps59
 go_wp2
 go_ret
 exact ⟨_,rfl,rfl⟩
def Tryz.zya (s:SS):List Int:=(s.tk.map (·.1)).mergeSort leI
set_option maxRecDepth 100000 in
theorem Tryz.zrv {A:Nat→Prop} {w:World} {S P M:Nat} {r:Rg} {s:SS} (h:SrvW A w S P M r s) (hl:s.tk.length≤1000000):
    Calls prog 18 #[.pointer (some ⟨S,0,none⟩)] w fun e w'=> ∃(v:Value) (t:TypeId),e= .returned v∧w'.ownsRow w.heap.size t 1 v s.tk.length ((zya s).map encZ)∧Below w.heap.size w w':=by
  have hm:=ziH h
  obtain ⟨nv,sv,ho,hn,hsv⟩:=h.obj
  have c1:=zbm ho (i:=11) rfl
  clear ho hn hsv
  obtain ⟨arr,clock,hb,_⟩:=h.tk.map
  obtain ⟨hst,ks,hk1,hk2⟩:=zEW h.tk hb
  have hlt:=h.ltM
  have hS: ∀t,Calls prog 58 #[.func (.func 87) #[] #[.pointer (some ⟨w.heap.size,0,none⟩)]] (w.alloc (.cells #[.map (some M)] t)) fun e w'=> ∃v ss t',e= .returned v∧ss.Perm ks∧w'.ownsRow (w.alloc (.cells #[.map (some M)] t)).heap.size t' 1 v ss.length ((ss.mergeSort leI).map encZ)∧(v= .slice none 0 0↔ss= [])∧RowKit.Below (w.alloc (.cells #[.map (some M)] t)).heap.size (w.alloc (.cells #[.map (some M)] t)) w':=fun t=>
    sortedOk87.sorted _ w.heap.size M arr clock ks (by simp) (by rw [cell_of_row _ _ 0 _ _ (0,0) (heap_alloc_last w _)];rfl) (by rw [←hb];exact MapKept.heap_alloc w _|>.2 _ hlt) hst hk1
      (fun x hx=>by
        obtain ⟨e,he,rfl⟩:=List.mem_map.1 (hk2.subset hx)
        have:=h.tk.u16 e he
        obtain ⟨this1,this2⟩:=this
        generalize e.1=x at this1 this2
        have e1:IntKind.i64.min= -9223372036854775808:=by decide
        have e2:IntKind.i64.max=9223372036854775807:=by decide
        simp only [Lit.wf,e1,e2,Bool.and_eq_true,decide_eq_true_eq]
        omega)
      (by rw [hk2.length_eq,List.length_map];exact hl)
  go_enter func18,ntmps18
  go_wp2_with (first
    | (go_at_call 56;refine hm.mono ?_;rintro e w' ⟨rfl,hw⟩;have hw:=hw.symm;subst hw)
    | (go_at_call 59;refine (zA6 M _).mono ?_;rintro e w' ⟨t,rfl,hw⟩;subst hw)
    | (go_at_call 58;refine (hS _).mono ?_;rintro e w' ⟨v,ss,t,rfl,hss,hrow,_,hb⟩)
    | go_in)
  go_ret
  have hss:=hss.trans hk2
  rw [hss.length_eq,List.length_map,mergeSort_of_perm_i hss] at hrow
  exact ⟨v,t,rfl,zEf hrow (by simp),((Below.refl _ w).alloc (Nat.le_refl _) _).trans (hb.mono (by simp))⟩
end Go.Proofs
namespace Go.Proofs
open Go.Dw Go.RowKit
theorem Tryz.zFG (w:World) {x y:Array Value} {tx ty:TypeId} {i:Nat} {v:Value} (h:x[i]? =some v):((w.alloc (.cells x tx)).alloc (.cells y ty)).cell? ⟨w.heap.size,i,none⟩=some v:=by
 rw [cell_of_row _ _ i x tx (0,0) (by rw [(MapKept.heap_alloc _ _).2 _ (by simp)];exact heap_alloc_last w _)]
 exact h
theorem Tryz.zFF (w:World) {x y:Array Value} {tx ty:TypeId} {i:Nat} {v:Value} (h:y[i]? =some v):((w.alloc (.cells x tx)).alloc (.cells y ty)).cell? ⟨w.heap.size+1,i,none⟩=some v:=by
 have:=heap_alloc_last (w.alloc (.cells x tx)) (.cells y ty)
 rw [show (w.alloc (.cells x tx)).heap.size=w.heap.size+1 by simp] at this
 rw [cell_of_row _ _ i y ty (0,0) this]
 exact h
def Tryz.SS.fresh (ev tb:Bool):SS:=⟨ev,tb,false,0,0,[],0,0,false,0,[],0,false,false,false⟩
theorem Tryz.SrvW.fresh {A A':Nat→Prop} {w:World} {S P M:Nat} {r:Rg} {ev tb:Bool} (h:SrvW A w S P M r (SS.fresh ev tb)) (aS:A' S) (aM:A' M):SrvW A' w S P M r (SS.fresh ev tb):=by
 obtain ⟨nv,sv,h1,h2,h3⟩:=h.obj
 refine ⟨⟨nv,sv,h1,?_,?_⟩,⟨?_,h.tk.keys,h.tk.u16⟩,h.ne,aS,aM,h.rg,h.nx,h.us,h.hd,h.wr⟩
 ·cases h2 with
  | idle h hv=>exact .idle h hv
  | meth f h hv=>cases h
  | fence f X Y h=>cases h
 ·obtain ⟨sa,c,e,h4,_⟩:=h3
  exact ⟨sa,c,e,h4,.inl rfl⟩
 ·obtain ⟨arr,clock,h4,h5,h6⟩:=h.tk.map
  exact ⟨arr,clock,h4,h5,fun k=>⟨(h6 k).1,fun l hl=>by cases hl⟩⟩
set_option maxRecDepth 100000 in
theorem Tryz.zIS {w:World} {P L Bs B N:Nat} {g:Nat→Int} {r:Rg} {ev tb:Bool} (st:GM w P L Bs B N g) (hr:RgOk r):
    Calls prog 32 #[.pointer (some ⟨P,0,none⟩),r.val,.agg #[.bool ev,.bool tb,.bool false]] w fun e w'=> ∃S M,e= .returned (.tuple #[.pointer (some ⟨S,0,none⟩),.int .i64 0])∧w.heap.size≤S∧w.heap.size≤M∧
      (∀ A:Nat→Prop,A S→A M→SrvW A w' S P M r (SS.fresh ev tb))∧Below w.heap.size w w':=by
  have hst2: ∀x y tx ty,GM ((w.alloc (.cells x tx)).alloc (.cells y ty)) P L Bs B N g:=fun x y tx ty=>(st.below ((Below.refl _ w).alloc (Nat.le_refl _) _)).below ((Below.refl _ _).alloc (Nat.le_refl _) _)
  have hck:=zb1 r hr
  have hmk: ∀(t:TypeId) (w:World),(Instr.makeMap t none).run prog w= .ok (.map (some w.heap.size)) (w.alloc (.map #[] 0)):=fun _ _=>rfl
  unfold Rg.val at*
  go_enter func32,ntmps32
  go_wp2_with (first
    | (go_at_call 71;refine (zql P L Bs B N 0 g _ (hst2 _ _ _ _)).mono ?_;rintro e w' ⟨rfl,hw⟩;have hw:=hw.symm;subst hw)
    | (go_at_call 72;refine (hck _).mono ?_;rintro e w' ⟨rfl,hb⟩
       have kx: ∀i v,i<8→_→w'.cell? ⟨w.heap.size,i,none⟩=some v:=fun i v hi hv=>(hb.cell (p:=⟨w.heap.size,i,none⟩) (by simp<;>omega)).trans (zFG w hv)
       have ky: ∀i v,i<8→_→w'.cell? ⟨w.heap.size+1,i,none⟩=some v:=fun i v hi hv=>(hb.cell (p:=⟨w.heap.size+1,i,none⟩) (by simp<;>omega)).trans (zFF w hv)
       have x0:=kx 0 _ (by decide) rfl;have x1:=kx 1 _ (by decide) rfl;have x2:=kx 2 _ (by decide) rfl;have x3:=kx 3 _ (by decide) rfl;have x4:=kx 4 _ (by decide) rfl
       have y0:=ky 0 _ (by decide) rfl;have y1:=ky 1 _ (by decide) rfl;have y2:=ky 2 _ (by decide) rfl
       clear kx ky)
    | go_in)
  go_ret2
  have hsz:=hb.size
  simp at hsz
  have hM:((w'.alloc (.map #[] 0)).alloc (.cells (((SS.fresh ev tb).row r P w'.heap.size .nilFunc (.slice none 0 0)).toArray) 126)).heap[w'.heap.size]? =some (.map #[] 0):=by
    rw [(MapKept.heap_alloc _ _).2 _ (by simp)]
    exact heap_alloc_last w' _
  have hS:=heap_alloc_last (w'.alloc (.map #[] 0)) (.cells (((SS.fresh ev tb).row r P w'.heap.size .nilFunc (.slice none 0 0)).toArray) 126)
  rw [show (w'.alloc (.map #[] 0)).heap.size=w'.heap.size+1 by simp] at hS
  have h00:(0:Int)≤0∧(0:Int)<65536:=by decide
  have h01:(0:Int)≤0∧(0:Int)<4294967296:=by decide
  have hbw:Below w.heap.size w w':=((((Below.refl _ w).alloc (Nat.le_refl _) _).alloc (by simp) _)).trans (hb.mono (by simp<;>omega))
  refine ⟨_,w'.heap.size,rfl,?_,?_,fun A aS aM=>⟨⟨.nilFunc,.slice none 0 0,⟨_,126,hS,fun i y h=>by rw [List.getElem?_toArray];exact h⟩,.idle rfl rfl,SegV.none⟩,⟨⟨#[],0,hM,⟨⟨fun e he=>by simp at he,by simp⟩,⟨fun e he=>by simp at he,by simp⟩⟩,fun k=>⟨fun _=>rfl,fun l hl=>by cases hl⟩⟩,by simp [SS.fresh],fun e he=>by cases he⟩,?_,aS,aM,hr,h00,h00,h00,h01⟩,(hbw.alloc (by omega) _).alloc (by simp;omega) _⟩
  all_goals omega
end Go.Proofs
namespace Go.Dw
open Go.RowKit Go.WideShapes Go.ChangeShapes
theorem trodAll_stays {H:Type} {enc:TypeId×Value→H} {P:Program} {W W':World} (hl:laidOutB P=true) (hb:Below W.heap.size W W') {sp:Nat→Bool}: ∀ {ts:List TypeId} {vs:List Value} {ds:List (DataW H)} {ps:List MemPlace},
  (∀ t∈ts,P.readableRec t=true∧t<P.types.size)→DataW.TrodAll enc P W 0 (fun _=>true) true ts vs ds ps→(∀x∈ps,x.block<W.heap.size)→(∀x∈ps,sp x.block=true)→DataW.TrodAll enc P W' 0 sp true ts vs ds ps
 | [], vs,ds,ps,_,h,_,_=>by
  obtain ⟨rfl,rfl,rfl⟩:=trodAll_nil h
  exact trodAll_mk0
 | t::ts,vs,ds,ps,ht,h,hlt,hsp=>by
  obtain ⟨v,vs',d,ds',p,q,rfl,rfl,rfl,h0,h1⟩:=trodAll_cons h
  have ht0:=ht t (List.mem_cons_self ..)
  refine trodAll_cons_mk (WideElems.Trod_stays hl ht0.1 ht0.2 h0 (fun x hx=>hb.same (hlt x (List.mem_append_left _ hx))) (fun x hx=>hsp x (List.mem_append_left _ hx))) ?_
  exact trodAll_stays hl hb (fun u hu=>ht u (List.mem_cons_of_mem _ hu)) h1 (fun x hx=>hlt x (List.mem_append_right _ hx)) (fun x hx=>hsp x (List.mem_append_right _ hx))
theorem okWide_bools3 {P:Program} {w:World} {r:Reach} {base:Nat} {t b:TypeId} {fs:Array Field} {v:Value} (ht:P.underlying t=some (.struct fs)) (hn:P.cellsOf t=3) (hc:P.cellTypes P.depth t=some [b,b,b])
  (hb:P.underlying b=some .bool) (h:Value.okWide P w r base t v): ∃x y z,v= .agg #[.bool x,.bool y,.bool z]:=by
 simp only [Value.okWide,ht] at h
 obtain ⟨cs,rfl,hsz,ts,hts,_,hcell⟩:=h
 rw [hc] at hts
 cases hts
 rw [hn] at hsz
 have cell: ∀i v,i<3→cs[i]? =some v→ ∃x,v= .bool x:=fun i v hi hv=>by
  obtain ⟨u,hu,hok⟩:=hcell i v hv
  have e:u=b:=by
   have hi':i% [b,b,b].length=i:=Nat.mod_eq_of_lt (by simpa using hi)
   rw [hi'] at hu
   match i,hi with
   | 0,_=>simpa using hu.symm
   | 1,_=>simpa using hu.symm
   | 2,_=>simpa using hu.symm
  subst e
  simp only [Cell.okWide,hb] at hok
  cases v<;>simp_all [Cell.ok]
 obtain ⟨x,hx⟩:=cell 0 cs[0] (by omega) (Array.getElem?_eq_getElem (by omega))
 obtain ⟨y,hy⟩:=cell 1 cs[1] (by omega) (Array.getElem?_eq_getElem (by omega))
 obtain ⟨z,hz⟩:=cell 2 cs[2] (by omega) (Array.getElem?_eq_getElem (by omega))
 refine ⟨x,y,z,?_⟩
 congr 1
 apply Array.ext
 ·rw [hsz];rfl
 ·intro i h1 h2
  match i,h2 with
  | 0,_=>exact hx
  | 1,_=>exact hy
  | 2,_=>exact hz
end Go.Dw
namespace Go.Dw
open Go.RowKit
mutual
def clo:AV→Option Value
 | .bool (.lit b)=>some (.bool b)
 | .int k (.lit n)=>some (.int k n)
 | .nilp=>some (.pointer none)
 | .nils=>some (.slice none 0 0)
 | .agg l=>match cloL l with|some m=>some (.agg m.toArray)|none=>none
 | .tup l=>match cloL l with|some m=>some (.tuple m.toArray)|none=>none
 | _=>none
def cloL:List AV→Option (List Value)
 | [] => some []
 | a::l=>match clo a,cloL l with|some v,some m=>some (v::m)|_,_=>none
end
mutual
theorem clo_sound {ρ:Val} {j:J}: ∀ {a:AV} {x u:Value},clo a=some x→R ρ j a u→u=x
 | .bool (.lit b),x,u,h,r=>by cases h;exact r
 | .int k (.lit n),x,u,h,r=>by cases h;exact r
 | .nilp,x,u,h,r=>by cases h;exact r
 | .nils,x,u,h,r=>by cases h;exact r
 | .agg l,x,u,h,r=>by
  obtain ⟨m,rfl,hm⟩:=r
  rw [clo] at h
  cases hl:cloL l with
  | none=>rw [hl] at h;cases h
  | some m'=>rw [hl] at h;cases h;rw [cloL_sound hl hm]
 | .tup l,x,u,h,r=>by
  obtain ⟨m,rfl,hm⟩:=r
  rw [clo] at h
  cases hl:cloL l with
  | none=>rw [hl] at h;cases h
  | some m'=>rw [hl] at h;cases h;rw [cloL_sound hl hm]
theorem cloL_sound {ρ:Val} {j:J}: ∀ {l:List AV} {m us:List Value},cloL l=some m→RL ρ j l us→us=m
 | [], m,us,h,r=>by cases h;exact r
 | a::l,m,us,h,r=>by
  obtain ⟨v,m',rfl,hv,hm⟩:=r
  rw [cloL] at h
  cases ha:clo a with
  | none=>rw [ha] at h;cases h
  | some x=>
   cases hl:cloL l with
   | none=>rw [ha,hl] at h;cases h
   | some y=>rw [ha,hl] at h;cases h;rw [clo_sound ha hv,cloL_sound hl hm]
end
def eqB (a b:Bool):Bool:=match a with|true=>b|false=>match b with|true=>false|false=>true
mutual
def eqAV:AV→AV→Bool
 | .bool (.lit a),.bool (.lit b)=>eqB a b
 | .int k (.lit a),.int k' (.lit b)=>match decide (k=k') with|true=>decide (a=b)|false=>false
 | .nilp,.nilp=>true
 | .nils,.nils=>true
 | .agg l,.agg m=>eqAVL l m
 | .tup l,.tup m=>eqAVL l m
 | _,_=>false
def eqAVL:List AV→List AV→Bool
 | [], [] => true
 | a::l,b::m=>match eqAV a b with|true=>eqAVL l m|false=>false
 | _,_=>false
end
theorem zK8 {a b:Bool} (h:eqB a b=true):a=b:=by cases a<;>cases b<;>first|rfl|cases h
mutual
theorem eqAV_eq: ∀ {a b:AV},eqAV a b=true→a=b
 | .bool (.lit a),.bool (.lit b),h=>by rw [zK8 (a:=a) (b:=b) h]
 | .int k (.lit a),.int k' (.lit b),h=>by
  rw [eqAV] at h
  split at h
  ·rename_i hk
   rw [of_decide_eq_true hk,of_decide_eq_true h]
  ·cases h
 | .nilp,.nilp,_=>rfl
 | .nils,.nils,_=>rfl
 | .agg l,.agg m,h=>by rw [eqAVL_eq (l:=l) (m:=m) h]
 | .tup l,.tup m,h=>by rw [eqAVL_eq (l:=l) (m:=m) h]
theorem eqAVL_eq: ∀ {l m:List AV},eqAVL l m=true→l=m
 | [], [], _=>rfl
 | a::l,b::m,h=>by
  rw [eqAVL] at h
  split at h
  ·rename_i ha
   rw [eqAV_eq ha,eqAVL_eq h]
  ·cases h
end
def isAV (x : AV) (v : AV) (_ : Heap) : Ob := match eqAV v x with | true => .ok | false => .bad 96 "other"
theorem zIh {P:Program} (hmo:P.follows .mixedOrders=true) {n:Nat} {f:FuncId} {args:List AV} {vals:List Value} {x:AV} {u:Value} (hx:clo x=some u) (ha:RL Val.zero (fun _=>none) args vals)
  (h:(ev P zET n (.call f args heap0 (isAV x))).good=true) (w:World):
  Calls P f vals.toArray w fun e w'=>e= .returned u∧Below w.heap.size w w':=by
 have hg:=zoj (P:=P) (ρ:=Val.zero) (w0:=Cx.plain w) (orc:=zET) zES (fun n rec hg=>zj9 hmo hg) n
 refine Calls.mono ((hg.call f args heap0 (isAV x) (Ob.den_of_good h)).2 (fun _=>none) w vals (inv0 w) ha) fun e w' he=> ?_
 obtain ⟨u',rfl,v,H',j',h1,h2,h3,h4⟩:=he
 have hv:v=x:=by
  unfold isAV at h4
  split at h4
  ·rename_i e
   exact eqAV_eq e
  ·exact h4.elim
 rw [hv] at h1
 rw [clo_sound hx h1]
 exact ⟨rfl,h2.fr.below⟩
theorem zG3 {ρ:Val} {j:J} {k:IntKind} {n:Int} {l:List AV} {m:List Value} (h:RL ρ j l m):RL ρ j (.int k (.lit n)::l) (.int k n::m):=⟨_,_,rfl,rfl,h⟩
theorem zJW {ρ:Val} {j:J} {b:Bool} {l:List AV} {m:List Value} (h:RL ρ j l m):RL ρ j (.bool (.lit b)::l) (.bool b::m):=⟨_,_,rfl,rfl,h⟩
end Go.Dw
namespace Go.Proofs
open Go.RowKit Go.Maps Go.Sort
def Tryz.drv (n:Nat):Nat:=4096+16*n
def Tryz.dvc (n:Nat):Nat:=(drv n+2*n+9)/4*4
def Tryz.rings (n:Nat):Value:= .agg #[.bool false,.int .i64 n,.int .u64 4096,.int .u64 (drv n),.int .u64 (dvc n)]
def Tryz.zIk (n:Nat):Dw.AV:= .agg [.bool (.lit false),.int .i64 (.lit n),.int .u64 (.lit 4096),.int .u64 (.lit (drv n)),.int .u64 (.lit (dvc n))]
theorem Tryz.zxk {n:Nat} (h:n=1∨n=2∨n=4∨n=8∨n=16):n∈ [1,2,4,8,16]:=by simp;omega
noncomputable def Tryz.zIH (n:Nat):Bool:=(Dw.ev prog Dw.zET 100000 (.call 30 [.bool (.lit false),.int .i64 (.lit n),.int .u64 (.lit 4096)] Dw.heap0 (Dw.isAV (.tup [zIk n,.int .u64 (.lit (dvc n+6+8*n-4096)),.int .i64 (.lit 0)])))).good
theorem Tryz.zxN:([1,2,4,8,16].all fun n=>zIH n)=true:=by kernel_rfl
theorem Tryz.zAL (n:Nat) (hn:n=1∨n=2∨n=4∨n=8∨n=16) (w:World):
  Calls prog 30 #[.bool false,.int .i64 n,.int .u64 4096] w fun e w'=>e= .returned (.tuple #[rings n,.int .u64 ((dvc n:Int)+6+8*n-4096),.int .i64 0])∧Below w.heap.size w w':=by
 have h1:=List.all_eq_true.1 zxN n (zxk hn)
 exact Dw.zIh (by kernel_rfl) rfl (Dw.zJW (Dw.zG3 (Dw.zG3 Dw.RL.nil))) h1 w
end Go.Proofs
namespace Go.Proofs
open Go.Dw Go.RowKit
structure Tryz.Cl (w:World) (b:Nat) (l:List Value):Prop where
 lt:b<w.heap.size
 cell: ∀(i:Nat) (v:Value),l[i]? =some v→w.cell? ⟨b,i,none⟩=some v
 free: ∀i,w.frozen? ⟨b,i,none⟩=false
theorem Tryz.Cl.below {w w':World} {b B:Nat} {l:List Value} (h:Cl w b l) (hb:Below B w w') (hB:b<B):Cl w' b l:=
 ⟨Nat.lt_of_lt_of_le h.lt hb.size,fun i v hv=>(hb.cell (p:=⟨b,i,none⟩) hB).trans (h.cell i v hv),fun i=>(hb.frozen (p:=⟨b,i,none⟩) hB).trans (h.free i)⟩
theorem Tryz.Cl.at {w:World} {b:Nat} {arr:Array Value} {t:TypeId} (h:w.heap[b]? =some (.cells arr t (0,0))):Cl w b arr.toList:=
 ⟨(Array.getElem?_eq_some_iff.1 h).1,fun i v hv=>by rw [cell_of_row _ _ i _ _ (0,0) h,←Array.getElem?_toList];exact hv,fun i=>by simp [World.frozen?,h]⟩
theorem Tryz.Cl.new (w:World) (arr:Array Value) (t:TypeId):Cl (w.alloc (.cells arr t)) w.heap.size arr.toList:=Cl.at (heap_alloc_last w _)
theorem Tryz.Cl.new2 {w:World} {b:Nat} {arr:Array Value} {t:TypeId} (h:w.heap.size=b):Cl (w.alloc (.cells arr t)) b arr.toList:=h▸Cl.new w arr t
theorem Tryz.Cl.alloc {w:World} {b:Nat} {l:List Value} (h:Cl w b l) (o:Obj):Cl (w.alloc o) b l:=h.below ((Below.refl _ w).alloc (Nat.le_refl _) o) h.lt
theorem Tryz.Cl.set {w:World} {b:Nat} {l:List Value} (h:Cl w b l) (j:Nat) (v:Value) (hj:j<l.length):Cl (w.setCell ⟨b,j,none⟩ v) b (l.set j v):=by
 refine ⟨by have:=h.lt;simpa using this,fun i u hu=> ?_,fun i=>by rw [World.frozen?_setCell];exact h.free i⟩
 by_cases hij:i=j
 ·subst hij
  rw [List.getElem?_set_self hj] at hu
  cases hu
  exact World.cell?_setCell_same' _ _ _ (by rw [h.cell i _ (List.getElem?_eq_getElem hj)];rfl)
 ·rw [List.getElem?_set_ne (fun e=>hij e.symm)] at hu
  rw [World.cell?_setCell_other w ⟨b,j,none⟩ ⟨b,i,none⟩ v (fun e=>hij (congrArg Addr.off e).symm)]
  exact h.cell i u hu
theorem Tryz.zEk {fn:Func} {t t2 p u:Tmp} {ty:TypeId} (h:fn.results= #[.tmp t,.tmp t2,.cell p ty,.tmp u]) (tmps:Array Value) (w:World) (b:Nat) (cs:List Value) (d:TypeDesc)
  (hp:tmps.getD p undef= .pointer (some ⟨b,0,none⟩)) (hg:w.rangeAt b 0 cs) (hu:prog.underlying ty=some d) (hd:d.isRow=true) (hi:(prog.info? ty).map (·.size)=some cs.length):
  (results fn tmps).run prog w= .ok (.tuple #[tmps.getD t undef,tmps.getD t2 undef,.agg cs.toArray,tmps.getD u undef]) w:=by
 have hp':tmps[p]?.getD undef= .pointer (some ⟨b,0,none⟩):=by simpa using hp
 simp [results,h,hp',asAddr,run_loadVar_mid w b 0 ty cs d hg hu hd hi]
theorem Tryz.zbr (w:World) (o:Obj):(w.alloc o).heap.size=w.heap.size+1:=by simp
def Tryz.zb0 (n:Nat):Rg:=⟨n,4096,drv n,dvc n⟩
theorem Tryz.zxE (n:Nat):(zb0 n).val=rings n:=rfl
theorem Tryz.zAe {n:Nat} (h:n=1∨n=2∨n=4∨n=8∨n=16):RgOk (zb0 n):=by
 rcases h with rfl|rfl|rfl|rfl|rfl
 ·exact ⟨⟨0,by decide,rfl⟩,by decide,by decide,by decide,by decide,by decide,by decide,by decide,by decide,by decide,by decide,by decide,by decide⟩
 ·exact ⟨⟨1,by decide,rfl⟩,by decide,by decide,by decide,by decide,by decide,by decide,by decide,by decide,by decide,by decide,by decide,by decide⟩
 ·exact ⟨⟨2,by decide,rfl⟩,by decide,by decide,by decide,by decide,by decide,by decide,by decide,by decide,by decide,by decide,by decide,by decide⟩
 ·exact ⟨⟨3,by decide,rfl⟩,by decide,by decide,by decide,by decide,by decide,by decide,by decide,by decide,by decide,by decide,by decide,by decide⟩
 ·exact ⟨⟨4,by decide,rfl⟩,by decide,by decide,by decide,by decide,by decide,by decide,by decide,by decide,by decide,by decide,by decide,by decide⟩
theorem Tryz.SrvW.drew {A:Nat→Prop} {w:World} {S P M:Nat} {r:Rg} {s:SS} (h:SrvW A w S P M r s):SrvW A w.drew S P M r s:=h.kept rfl rfl fun _ _ _=>rfl
set_option maxRecDepth 100000 in
theorem Tryz.zsC {n:Nat} (hn:n=1∨n=2∨n=4∨n=8∨n=16) (ev tb:Bool) (w:World):
    Calls prog 8 #[.int .i64 n,.agg #[.bool ev,.bool tb,.bool false]] w fun e w'=> ∃S P L Bs B M,e= .returned (.tuple #[.pointer (some ⟨P,0,none⟩),.pointer (some ⟨S,0,none⟩),rings n,.bool true])∧
      SW (sK S M B) w' S P L Bs B M 20000 (zb0 n) (SS.fresh ev tb) (fun _=>0)∧Below w.heap.size w w'∧w.heap.size≤S∧w.heap.size≤M∧w.heap.size≤B∧w.heap.size≤P∧w.heap.size≤L∧w.heap.size≤Bs:=by
  have hpl:=zAL n hn
  have hnew:=fun R w (c:Cl w R [.int .u64 0,.int .u64 20000])=>zIT R 20000 1 w (c.cell 0 _ rfl) (c.cell 1 _ rfl) (by decide) (by decide)
  have hrk:=zAe hn
  have hrv:=zxE n
  unfold rings at hpl hrv ⊢
  go_enter func8,ntmps8
  go_wp2_with (first
    | (go_at_call 30;refine (hpl _).mono ?_;rintro e w1 ⟨rfl,hb1⟩
       have ka:=((Cl.new w _ _).alloc _).below hb1 (by simp<;>omega)
       have kb:=(Cl.new (w.alloc _) _ _).below hb1 (by simp<;>omega)
       rw [zbr] at kb)
    | (go_at_call 31;refine (hnew (w1.heap.size+1) _ (Cl.new2 (zbr _ _))).mono ?_;rintro e w2 ⟨P,L,Bs,B,rfl,hg,hb2,hP,hL,hBs,hB⟩
       have kc:=((Cl.new w1 _ _).alloc _).below hb2 (by simp<;>omega)
       replace ka:=((ka.alloc _).alloc _).below hb2 (by have:=ka.lt;simp<;>omega)
       replace kb:=((kb.alloc _).alloc _).below hb2 (by have:=kb.lt;simp<;>omega)
       have x0:=ka.cell 0 _ rfl;have x1:=ka.cell 1 _ rfl;have x2:=ka.cell 2 _ rfl
       have y0:=kc.cell 0 _ rfl;have y1:=kc.cell 1 _ rfl;have y2:=kc.cell 2 _ rfl;have y3:=kc.cell 3 _ rfl;have y4:=kc.cell 4 _ rfl)
    | (go_at_call 32;refine (zIS (r:=zb0 n) hg hrk).mono ?_;rintro e w3 ⟨S,M,rfl,hS,hM,hsv,hb3⟩
       clear x0 x1 x2 y0 y1 y2 y3 y4
       replace kb:=kb.below hb3 kb.lt
       replace kc:=kc.below hb3 kc.lt
       have y0:=kc.cell 0 _ rfl;have y1:=kc.cell 1 _ rfl;have y2:=kc.cell 2 _ rfl;have y3:=kc.cell 3 _ rfl;have y4:=kc.cell 4 _ rfl
       have z0:=kb.cell 0 _ rfl;have z1:=kb.cell 1 _ rfl;have z2:=kb.cell 2 _ rfl;have z3:=kb.cell 3 _ rfl;have z4:=kb.cell 4 _ rfl
       have f0:=kb.free 0;have f1:=kb.free 1;have f2:=kb.free 2;have f3:=kb.free 3;have f4:=kb.free 4)
    | go_in)
  have l1:=kb.lt
  have hkb:=kb
  clear ka kb kc
  go_region
  go_wp2_with fail
  have k0:=((((hkb.set 0 (.bool false) (show 0<5 by decide)).set 1 (.int .i64 n) (show 1<5 by decide)).set 2 (.int .u64 4096) (show 2<5 by decide)).set 3 (.int .u64 (drv n)) (show 3<5 by decide)).set 4 (.int .u64 (dvc n)) (show 4<5 by decide)
  have hmv:=(((((Mv.refl (· =w.heap.size+1) w3).setCell (w.heap.size+1) 0 (.bool false) (.inl rfl)).setCell (w.heap.size+1) 1 (.int .i64 n) (.inl rfl)).setCell (w.heap.size+1) 2 (.int .u64 4096) (.inl rfl)).setCell (w.heap.size+1) 3 (.int .u64 (drv n)) (.inl rfl)).setCell (w.heap.size+1) 4 (.int .u64 (dvc n)) (.inl rfl)
  generalize (((((w3.setCell ⟨w.heap.size+1,0,none⟩ (.bool false)).setCell ⟨w.heap.size+1,1,none⟩ (.int .i64 n)).setCell ⟨w.heap.size+1,2,none⟩ (.int .u64 4096)).setCell ⟨w.heap.size+1,3,none⟩ (.int .u64 (drv n))).setCell ⟨w.heap.size+1,4,none⟩ (.int .u64 (dvc n)))=w4 at k0 hmv ⊢
  have hsz1:=hb1.size
  have hsz2:=hb2.size
  have hsz3:=hb3.size
  simp only [zbr] at hsz1 hsz2 hsz3 hP hL hBs hB
  have hbw:Below w.heap.size w w3:=(((((Below.refl _ w).alloc (Nat.le_refl _) _).alloc (by simp only [zbr];omega) _).trans (hb1.mono (by simp only [zbr];omega))).alloc (by omega) _).alloc (by simp only [zbr];omega) _|>.trans (hb2.mono (by simp only [zbr];omega))|>.trans (hb3.mono (by omega))
  have hbl:=hbw.trans (hmv.below (base:=w.heap.size) (fun k hk=>by omega) hbw.size)
  refine bodyPost_ret (zEk rfl _ _ (w.heap.size+1) [.bool false,.int .i64 n,.int .u64 4096,.int .u64 (drv n),.int .u64 (dvc n)] _ rfl (fun j v hv=>by rw [Nat.zero_add];exact k0.cell j v hv) underlying32 rfl (by kernel_rfl)) rfl ?_
  have hlS:=(hsv (fun _=>True) trivial trivial).ltS
  have hlM:=(hsv (fun _=>True) trivial trivial).ltM
  have hg3:=hg.below hb3
  have hsv1:=(hsv (fun _=>True) trivial trivial).kept (hmv.block S hlS (by omega)) (hmv.block M hlM (by omega)) (fun k _ h=>absurd trivial h)
  have hgp:=hg.pl
  have hgl:=hg.ll
  have hgs:=hg.sl
  have hgb:=hg.bl
  have hgm:=hg3.kept (fun k hk hk'=>hmv.block k hk (by omega)) hmv.size
  refine ⟨S,P,L,Bs,B,M,rfl,⟨(hsv1.fresh (.inl rfl) (.inr (.inl rfl))).drew,hgm.drewN 1,by decide,⟨by omega,by omega,by omega,by omega⟩,⟨by omega,by omega,by omega,by omega⟩,.inr (.inr rfl),fun b hb=> ?_,?_⟩,hbl.drew,by omega,by omega,by omega,by omega,by omega,by omega⟩
  · have:=hmv.size
    show b<w4.heap.size
    rcases hb with rfl|rfl|rfl<;>omega
  · rcases hn with rfl|rfl|rfl|rfl|rfl<;>exact ⟨by decide,by decide,by decide⟩
def Tryz.rckE:Ent:=⟨80,[sl1 []],0,0,0,.int .i64 (.var 7),0⟩
end Go.Proofs
namespace Go.Proofs
open Go.Dw
def Tryz.zqp:List Ent:= []
def Tryz.zvj:List Sh:= [ckEl 3 4 0]
def Tryz.zfl:List (Nat×AV):= [(0,ckL [(.lit 0,1)]),(3,.int .u64 (u64v 2)),(4,.int .i64 (.lit 0))]
def Tryz.zmq:List LEnt:= []
def Tryz.zmr:List AEnt:= []
def Tryz.zvk:Option AV:=none
def Tryz.zEu:List (SB×Bool):= [(.cmp .lss (.lit 0) (lnv 0),true)]
def Tryz.zAu:List zbe:= [
 ⟨.ret,[2],none,⟨.tup [.int .i64 (.lit 2)],[],[],0,[]⟩⟩,
 ⟨.normal,[0,3,4],none,⟨.tup [.sx 0 ((lnv 0)) 3 [((.lit 0),1)],.int .u64 (.bin .add .u64 (u64v 2) (u32v 4)),.int .i64 (.lit 1)],[],[],0,[]⟩⟩]
def Tryz.zAt:List (List (SB×Bool)×Nat):= [
 ([((.cmp .eql (u32v 4) (.lit 0)),true)],0),
 ([((.cmp .eql (u32v 4) (.lit 0)),false),((.cmp .lss (.bin .add .u64 (u64v 3) (.bin .sub .u64 (u32v 4) (.lit 1))) (u64v 3)),true)],0),
 ([((.cmp .eql (u32v 4) (.lit 0)),false),((.cmp .lss (.bin .add .u64 (u64v 3) (.bin .sub .u64 (u32v 4) (.lit 1))) (u64v 3)),false)],1)]
theorem Tryz.zEt:(evL prog (zau zqp) (zaC zmq) (zaA zmr) 100000 (.code (zaI prog [0,0,1,0,1,1,1,80]) [0,0,1,0,1,1,1,80] 71 (envS 71 zfl zvk) (zar 0 zvj) (zaG zAu 0))).ways zEu=some zAt:=by kernel_rfl
theorem Tryz.zIv:(zah zvj&&zae zqp&&zan zmq&&zao zmr&&zaq zfl&&zal zAu&&zaF 71 zfl&&Nat.ble 71 zaN&&zaz zvk)=true:=by kernel_rfl
def Tryz.zqo:List Ent:= []
def Tryz.zvh:List Sh:= [ckEl 3 4 0,ckEl 5 6 1]
def Tryz.zfk:List (Nat×AV):= [(0,ckL [(lnv 1,1),(.bin .sub .i64 (lnv 1) (.lit 1),2)]),(3,.int .u64 (u64v 2)),(4,.int .i64 (lnv 1))]
def Tryz.zmo:List LEnt:= []
def Tryz.zmp:List AEnt:= []
def Tryz.zvi:Option AV:=none
def Tryz.zEs:List (SB×Bool):= [(.cmp .lss (lnv 1) (lnv 0),true),(.cmp .gtr (lnv 1) (.lit 0),true)]
def Tryz.zAs:List zbe:= [
 ⟨.ret,[2],none,⟨.tup [.int .i64 (.lit 2)],[],[],0,[]⟩⟩,
 ⟨.normal,[0,3,4],none,⟨.tup [.sx 0 ((lnv 0)) 3 [((lnv 1),1),((.bin .sub .i64 (lnv 1) (.lit 1)),2)],.int .u64 (.bin .add .u64 (u64v 2) (u32v 4)),.int .i64 (.bin .add .i64 (lnv 1) (.lit 1))],[],[],0,[]⟩⟩]
def Tryz.zAr:List (List (SB×Bool)×Nat):= [
 ([((.cmp .eql (u32v 4) (.lit 0)),true)],0),
 ([((.cmp .eql (u32v 4) (.lit 0)),false),((.cmp .lss (.bin .add .u64 (u64v 3) (.bin .sub .u64 (u32v 4) (.lit 1))) (u64v 3)),true)],0),
 ([((.cmp .eql (u32v 4) (.lit 0)),false),((.cmp .lss (.bin .add .u64 (u64v 3) (.bin .sub .u64 (u32v 4) (.lit 1))) (u64v 3)),false),(.var 1,true),(.var 0,false)],0),
 ([((.cmp .eql (u32v 4) (.lit 0)),false),((.cmp .lss (.bin .add .u64 (u64v 3) (.bin .sub .u64 (u32v 4) (.lit 1))) (u64v 3)),false),(.var 1,true),(.var 0,true)],1),
 ([((.cmp .eql (u32v 4) (.lit 0)),false),((.cmp .lss (.bin .add .u64 (u64v 3) (.bin .sub .u64 (u32v 4) (.lit 1))) (u64v 3)),false),(.var 1,false)],1)]
theorem Tryz.zEr:(evL prog (zau zqo) (zaC zmo) (zaA zmp) 100000 (.code (zaI prog [0,0,1,0,1,1,1,80]) [0,0,1,0,1,1,1,80] 71 (envS 71 zfk zvi) (zar 0 zvh) (zaG zAs 0))).ways zEs=some zAr:=by kernel_rfl
theorem Tryz.zIu:(zah zvh&&zae zqo&&zan zmo&&zao zmp&&zaq zfk&&zal zAs&&zaF 71 zfk&&Nat.ble 71 zaN&&zaz zvi)=true:=by kernel_rfl
def Tryz.zqn:List Ent:= []
def Tryz.zvf:List Sh:= []
def Tryz.zfj:List (Nat×AV):= [(0,ckL []),(3,.int .u64 (u64v 2)),(4,.int .i64 (lnv 1))]
def Tryz.zmm:List LEnt:= []
def Tryz.zmn:List AEnt:= []
def Tryz.zvg:Option AV:=none
def Tryz.zEq:List (SB×Bool):= [(.cmp .lss (lnv 1) (lnv 0),false)]
def Tryz.zAq:List zbe:= [
 ⟨(.exit 0),[3],none,⟨.tup [.int .u64 (u64v 2)],[],[],0,[]⟩⟩]
def Tryz.zAp:List (List (SB×Bool)×Nat):= [
 ([], 0)]
theorem Tryz.zEp:(evL prog (zau zqn) (zaC zmm) (zaA zmn) 100000 (.code (zaI prog [0,0,1,0,1,1,1,80]) [0,0,1,0,1,1,1,80] 71 (envS 71 zfj zvg) (zar 0 zvf) (zaG zAq 0))).ways zEq=some zAp:=by kernel_rfl
theorem Tryz.zIt:(zah zvf&&zae zqn&&zan zmm&&zao zmn&&zaq zfj&&zal zAq&&zaF 71 zfj&&Nat.ble 71 zaN&&zaz zvg)=true:=by kernel_rfl
def Tryz.zqm:List Ent:= []
def Tryz.zvd:List Sh:= []
def Tryz.zfi:List (Nat×AV):= [(3,.int .u64 (u64v 2))]
def Tryz.zmk:List LEnt:= []
def Tryz.zml:List AEnt:= []
def Tryz.zve:Option AV:=none
def Tryz.zEo:List (SB×Bool):= []
def Tryz.zAo:List zbe:= [
 ⟨.ret,[2],none,⟨.tup [.int .i64 (.lit 2)],[],[],0,[]⟩⟩,
 ⟨.ret,[2],none,⟨.tup [.int .i64 (.lit 0)],[],[],0,[]⟩⟩]
def Tryz.zAn:List (List (SB×Bool)×Nat):= [
 ([((.cmp .geq (u64v 2) (.lit 4294967296)),true)],0),
 ([((.cmp .geq (u64v 2) (.lit 4294967296)),false)],1)]
theorem Tryz.zEn:(evL prog (zau zqm) (zaC zmk) (zaA zml) 100000 (.code (zaI prog [1,1,1,1,80]) [1,1,1,1,80] 71 (envS 71 zfi zve) (zar 0 zvd) (zaG zAo 0))).ways zEo=some zAn:=by kernel_rfl
theorem Tryz.zIs:(zah zvd&&zae zqm&&zan zmk&&zao zml&&zaq zfi&&zal zAo&&zaF 71 zfi&&Nat.ble 71 zaN&&zaz zve)=true:=by kernel_rfl
def Tryz.zvb:List Ent:= [rckE]
def Tryz.zAm:List Sh:= []
def Tryz.zvc:List AV:= [sl1 []]
def Tryz.zIr:List (SB×Bool):= []
def Tryz.zGq:List Leaf:= [
 ⟨.int .i64 (.lit 2),[],[],0,[]⟩,
 ⟨.int .i64 (.var 7),[],[],0,[]⟩]
def Tryz.zGp:List (List (SB×Bool)×Nat):= [
 ([((.cmp .eql (.var 7) (.lit 0)),true),((.cmp .eql (lnv 0) (.lit 0)),true)],0),
 ([((.cmp .eql (.var 7) (.lit 0)),true),((.cmp .eql (lnv 0) (.lit 0)),false)],1),
 ([((.cmp .eql (.var 7) (.lit 0)),false)],1)]
theorem Tryz.zIq:(ev prog (zau zvb) 100000 (.call 50 zvc (zar 0 zAm) (zaK zGq 0))).ways zIr=some zGp:=by kernel_rfl
theorem Tryz.zKH:(zah zAm&&zae zvb&&AV.smallL zvc&&zaj zGq)=true:=by kernel_rfl
open Go.RowKit
structure Tryz.RcI (l:List Sg) (sa:Option Addr) (c:Nat) (w0:World) (k:Nat) (a:Act) (w:World):Prop where
 kl:k≤l.length
 size:a.tmps.size=71
 dfr:a.defers= []
 s0:a.tmps.getD 0 undef= .slice sa l.length c
 s4:a.tmps.getD 4 undef= .int .i64 k
 mv:Below w0.heap.size w0 w
 sum: ∃pw s,a.tmps.getD 3 undef= .int .u64 s∧0≤s∧s≤k*4294967296∧za7 pw s (l.drop k)=za7 false 0 l∧(k=0→pw=false)∧(∀i,k=i+1→ ∃h:i<l.length,pw=l[i].wr)
theorem Tryz.zLv {ρ:Val} {j:J} {sa:Option Addr} {n c:Nat} (hv:ρ.v 0= .slice sa n c) (hd:(lnv 0).den ρ=n):Dw.R ρ j (ckL []) (.slice sa n c):=by
 have:Dw.R ρ j (ckL []) (ρ.v 0):=⟨rfl,sa,n,c,hv,hd.symm,trivial⟩
 rwa [hv] at this
theorem Tryz.zEw {l:List Sg} {sa:Option Addr} {c:Nat} {w0:World} {k:Nat} {a:Act} {w:World} (h:RcI l sa c w0 k a w) (hl:l.length≤64) (hok: ∀x∈l,x.ok)
    (hr:l= []∨ ∃R o,sa=some ⟨R,o,none⟩∧w0.rangeAt R o (zaP l)):
    (zaI prog [0,0,1,0,1,1,1,80]).wp prog (fun ex a' w'=>match ex with
      | .normal=>k<l.length∧RcI l sa c w0 (k+1) a' w'
      | ex=>a'.tmps.size=71∧a'.defers= []∧Below w0.heap.size w0 w'∧((ex= .ret∧za7 false 0 l=2∧a'.tmps.getD 2 undef= .int .i64 2)∨(ex= .exit 0∧ ∃s,za7 false 0 l=(if 4294967296≤s then 2 else 0)∧a'.tmps.getD 3 undef= .int .u64 s∧0≤s∧s<18446744073709551616))) a w:=by
  obtain ⟨kl,size,dfr,s0,s4,mv,pw,s,s3,hs0,hs1,hsw,hp0,hp1⟩:=h
  have hden: ∀(n k' s':Int) (x y:Sg) (sl:Value),n=l.length→0≤k'→k'≤64→0≤s'→s'<18446744073709551616→x.ok→(lnv 0).den (zbT n k' s' x y sl)=l.length∧(lnv 1).den (zbT n k' s' x y sl)=k'∧(u64v 2).den (zbT n k' s' x y sl)=s'∧(u64v 3).den (zbT n k' s' x y sl)=x.at1∧(u32v 4).den (zbT n k' s' x y sl)=x.len:=by
    intro n k' s' x y sl h1 h2 h3 h4 h5 h6
    subst h1
    exact ⟨zaR (by show (0:Int)≤l.length;omega) (by show ((l.length:Nat):Int)<_;omega),zaR h2 (by show k'<_;omega),zaH h4 h5,zaH h6.1 h6.2.1,zbL h6.2.2.1 h6.2.2.2⟩
  by_cases hkl:k<l.length
  · rcases hr with h0|⟨R,o,rfl,hr⟩
    · rw [h0] at hkl;simp at hkl
    have hRw0:=zci hr (by intro h0;rw [h0] at hkl;simp at hkl)
    have hrw:w.rangeAt R o (zaP l):=zaJ hr (mv.block R hRw0)
    have hx:=zbZ hrw k hkl
    have hxo:=hok l[k] (List.getElem_mem hkl)
    rw [List.drop_eq_getElem_cons hkl] at hsw
    generalize hX:l[k]=X at hx hxo hsw
    have hXok:=hxo
    obtain ⟨xa0,xa1,xl0,xl1⟩:=hxo
    rw [za7] at hsw
    have hwl:X.len≠0→IntKind.wrap .u64 (X.len-1)=X.len-1:=fun h=>zaL (by omega) (by omega)
    have hwa:IntKind.wrap .u64 (X.at1+(X.len-1))=(X.at1+(X.len-1))%18446744073709551616:=zeB _
    have hws:IntKind.wrap .u64 (s+X.len)=s+X.len:=zaL (by omega) (by omega)
    have hkk:IntKind.wrap .i64 ((k:Int)+1)=((k+1:Nat):Int):=by rw [zdt (by omega) (by omega)];omega
    have fin: ∀ {a':Act} {w':World},a'.tmps.size=71→a'.defers= []→Below w.heap.size w w'→([0,3,4].map fun t=>a'.tmps.getD t undef)= [.slice (some ⟨R,o,none⟩) l.length c,.int .u64 (s+X.len),.int .i64 (k+1:Nat)]→
        za7 X.wr (s+X.len) (l.drop (k+1))=za7 false 0 l→k<l.length∧RcI l (some ⟨R,o,none⟩) c w0 (k+1) a' w':=fun {a' w'} q1 q2 q5 q8 q9=>by
      simp only [List.map_cons,List.map_nil,List.cons.injEq,and_true] at q8
      obtain ⟨t0,t3,t4⟩:=q8
      refine ⟨hkl,⟨by omega,q1,q2,t0,t4,mv.trans (q5.mono mv.size),X.wr,s+X.len,t3,by omega,by push_cast;omega,q9,by omega,fun i hi=> ?_⟩⟩
      have:k=i:=by omega
      subst this
      exact ⟨hkl,by rw [hX]⟩
    rcases Nat.eq_zero_or_pos k with hk0|hk0
    · subst hk0
      have hpw:=hp0 rfl
      subst hpw
      obtain ⟨d0,d1,d2,d3,d4⟩:=hden l.length 0 s X X (.slice (some ⟨R,o,none⟩) l.length c) rfl (by omega) (by omega) hs0 (by omega) hXok
      have hv0:(zbT l.length 0 s X X (.slice (some ⟨R,o,none⟩) l.length c)).v 0= .slice (some ⟨R,o,none⟩) l.length c:=rfl
      have hb0:(zbT l.length 0 s X X (.slice (some ⟨R,o,none⟩) l.length c)).b 0=X.wr:=rfl
      generalize zbT l.length 0 s X X (.slice (some ⟨R,o,none⟩) l.length c)=ρ at*
      have hj1:jOf [(R,o)] 1=some ⟨R,o,0,none⟩:=rfl
      have hsx:Dw.R ρ (jOf [(R,o)]) (ckL [(.lit 0,1)]) (.slice (some ⟨R,o,none⟩) l.length c):=by
        have:Dw.R ρ (jOf [(R,o)]) (ckL [(.lit 0,1)]) (ρ.v 0):=⟨rfl,_,_,_,hv0,d0.symm,⟨R,o,_,0,rfl,hj1,rfl,rfl,hkl,rfl⟩,trivial⟩
        rwa [hv0] at this
      refine wp_mono (zax (ρ:=ρ) (K:=fun _=>False) (g:=Gho.none) (bl:= [(R,o)]) mixed zEt zIv (fun b h=>h.elim)
        ⟨zaQ hx (by unfold Sg.cells;simp) (zab (zac d3) (zab (zac d4) (zab (zaO hb0) RL.nil))) (fun h=>h),trivial⟩
        ⟨fun h=>(by cases h),trivial⟩ zaB trivial trivial trivial size dfr ?_ (zaa.2 ⟨by rw [zaX,d0,zaf];simp only [decide_eq_true_eq];omega,zad.2 trivial⟩)) fun ex a' w' hh=> ?_
      · intro t ht
        simp only [zfl,List.mem_cons,List.not_mem_nil,or_false] at ht
        rcases ht with rfl|rfl|rfl
        · rw [s0];exact hsx
        · rw [s3];exact zac d2
        · rw [s4];exact zac rfl
      · obtain ⟨q,hq,hto,lf,hlf,rfl,hsz,j,hdf,he⟩:=hh
        have hbl:=zam he (fun _ h=>h)
        unfold zAt at hq
        simp only [List.mem_cons,List.not_mem_nil,or_false] at hq
        rcases hq with rfl|rfl|rfl
        all_goals
          simp only [zaa,zad,zbW,zaX,zaM,zaW,den_add,zaf,d0,d1,d2,d3,d4,decide_eq_true_eq,decide_eq_false_iff_not,beq_iff_eq,beq_eq_false_iff_ne,ne_eq,and_true] at hto
          cases hlf
          have hs:=zaE he.ret
        · exact ⟨hsz,hdf,mv.trans (hbl.mono mv.size),.inl ⟨rfl,by rw [←hsw,if_pos (by omega)],by simpa [AV.valL,AV.val,zaf] using hs⟩⟩
        · obtain ⟨t1,t2⟩:=hto
          rw [hwl t1,hwa] at t2
          exact ⟨hsz,hdf,mv.trans (hbl.mono mv.size),.inl ⟨rfl,by rw [←hsw,if_pos (by omega)],by simpa [AV.valL,AV.val,zaf] using hs⟩⟩
        · obtain ⟨t1,t2⟩:=hto
          rw [hwl t1,hwa] at t2
          refine fin hsz hdf hbl ?_ ?_
          · rw [hs]
            simp only [AV.valL,AV.val,d2,d4,hv0,den_add,zaf,hws]
            rfl
          · rw [←hsw,if_neg (by rintro (h|h|⟨h,_⟩);omega;omega;cases h)]
    · obtain ⟨i,rfl⟩: ∃i,k=i+1:=⟨k-1,by omega⟩
      obtain ⟨hil,hpw⟩:=hp1 i rfl
      have hy:=zbZ hrw i hil
      have hyo:=hok l[i] (List.getElem_mem hil)
      generalize hY:l[i]=Y at hy hyo hpw
      subst hpw
      have hk1:IntKind.wrap .i64 (((i+1:Nat):Int)-1)=(i:Int):=by rw [zdt (by omega) (by omega)];omega
      obtain ⟨d0,d1,d2,d3,d4⟩:=hden l.length (i+1:Nat) s X Y (.slice (some ⟨R,o,none⟩) l.length c) rfl (by omega) (by omega) hs0 (by omega) hXok
      have hv0:(zbT l.length (i+1:Nat) s X Y (.slice (some ⟨R,o,none⟩) l.length c)).v 0= .slice (some ⟨R,o,none⟩) l.length c:=rfl
      have hb0:(zbT l.length (i+1:Nat) s X Y (.slice (some ⟨R,o,none⟩) l.length c)).b 0=X.wr:=rfl
      have hb1:(zbT l.length (i+1:Nat) s X Y (.slice (some ⟨R,o,none⟩) l.length c)).b 1=Y.wr:=rfl
      have d5:(u64v 5).den (zbT l.length (i+1:Nat) s X Y (.slice (some ⟨R,o,none⟩) l.length c))=Y.at1:=zaH hyo.1 hyo.2.1
      have d6:(u32v 6).den (zbT l.length (i+1:Nat) s X Y (.slice (some ⟨R,o,none⟩) l.length c))=Y.len:=zbL hyo.2.2.1 hyo.2.2.2
      generalize zbT l.length (i+1:Nat) s X Y (.slice (some ⟨R,o,none⟩) l.length c)=ρ at*
      have hj1:jOf [(R,o+3*(i+1)),(R,o+3*i)] 1=some ⟨R,o+3*(i+1),0,none⟩:=rfl
      have hj2:jOf [(R,o+3*(i+1)),(R,o+3*i)] 2=some ⟨R,o+3*i,0,none⟩:=rfl
      have hsx:Dw.R ρ (jOf [(R,o+3*(i+1)),(R,o+3*i)]) (ckL [(lnv 1,1),(.bin .sub .i64 (lnv 1) (.lit 1),2)]) (.slice (some ⟨R,o,none⟩) l.length c):=by
        have:Dw.R ρ (jOf [(R,o+3*(i+1)),(R,o+3*i)]) (ckL [(lnv 1,1),(.bin .sub .i64 (lnv 1) (.lit 1),2)]) (ρ.v 0):=
          ⟨rfl,_,_,_,hv0,d0.symm,⟨R,o,_,i+1,rfl,hj1,rfl,d1,hkl,rfl⟩,⟨R,o,_,i,rfl,hj2,rfl,by rw [zaW,d1,zaf,hk1];rfl,hil,rfl⟩,trivial⟩
        rwa [hv0] at this
      refine wp_mono (zax (ρ:=ρ) (K:=fun _=>False) (g:=Gho.none) (bl:= [(R,o+3*(i+1)),(R,o+3*i)]) mixed zEr zIu (fun b h=>h.elim)
        ⟨zaQ hx (by unfold Sg.cells;simp) (zab (zac d3) (zab (zac d4) (zab (zaO hb0) RL.nil))) (fun h=>h),zaQ hy (by unfold Sg.cells;simp) (zab (zac d5) (zab (zac d6) (zab (zaO hb1) RL.nil))) (fun h=>h),trivial⟩
        ⟨fun h=>(by cases h),fun h=>(by cases h),trivial⟩ zaB trivial trivial trivial size dfr ?_ (zaa.2 ⟨by rw [zaX,d0,d1];simp only [decide_eq_true_eq];omega,zaa.2 ⟨by rw [zbV,d1,zaf];simp only [decide_eq_true_eq];omega,zad.2 trivial⟩⟩)) fun ex a' w' hh=> ?_
      · intro t ht
        simp only [zfk,List.mem_cons,List.not_mem_nil,or_false] at ht
        rcases ht with rfl|rfl|rfl
        · rw [s0];exact hsx
        · rw [s3];exact zac d2
        · rw [s4];exact zac d1
      · obtain ⟨q,hq,hto,lf,hlf,rfl,hsz,j,hdf,he⟩:=hh
        have hbl:=zam he (fun _ h=>h)
        unfold zAr at hq
        simp only [List.mem_cons,List.not_mem_nil,or_false] at hq
        rcases hq with rfl|rfl|rfl|rfl|rfl
        all_goals
          simp only [zaa,zad,zbW,zaX,zaM,zaW,den_add,zaf,d0,d1,d2,d3,d4,hb0,hb1,decide_eq_true_eq,decide_eq_false_iff_not,beq_iff_eq,beq_eq_false_iff_ne,ne_eq,and_true] at hto
          cases hlf
          have hs:=zaE he.ret
        · exact ⟨hsz,hdf,mv.trans (hbl.mono mv.size),.inl ⟨rfl,by rw [←hsw,if_pos (by omega)],by simpa [AV.valL,AV.val,zaf] using hs⟩⟩
        · obtain ⟨t1,t2⟩:=hto
          rw [hwl t1,hwa] at t2
          exact ⟨hsz,hdf,mv.trans (hbl.mono mv.size),.inl ⟨rfl,by rw [←hsw,if_pos (by omega)],by simpa [AV.valL,AV.val,zaf] using hs⟩⟩
        · exact ⟨hsz,hdf,mv.trans (hbl.mono mv.size),.inl ⟨rfl,by rw [←hsw,if_pos (.inr (.inr ⟨hto.2.2.1,hto.2.2.2⟩))],by simpa [AV.valL,AV.val,zaf] using hs⟩⟩
        · obtain ⟨t1,t2,t3,t4⟩:=hto
          rw [hwl t1,hwa] at t2
          refine fin hsz hdf hbl ?_ ?_
          · rw [hs]
            simp only [AV.valL,AV.val,d1,d2,d4,hv0,den_add,zaf,hws,hkk]
          · rw [←hsw,if_neg (by rintro (h|h|⟨h,h'⟩);omega;omega;rw [t4] at h';cases h')]
        · obtain ⟨t1,t2,t3⟩:=hto
          rw [hwl t1,hwa] at t2
          refine fin hsz hdf hbl ?_ ?_
          · rw [hs]
            simp only [AV.valL,AV.val,d1,d2,d4,hv0,den_add,zaf,hws,hkk]
          · rw [←hsw,if_neg (by rintro (h|h|⟨h,h'⟩);omega;omega;rw [t3] at h;cases h)]
  · have hkk:k=l.length:=by omega
    subst hkk
    rw [List.drop_length,za7] at hsw
    obtain ⟨d0,d1,d2,d3,d4⟩:=hden l.length l.length s ⟨0,0,false⟩ ⟨0,0,false⟩ (.slice sa l.length c) rfl (by omega) (by omega) hs0 (by omega) ⟨by decide,by decide,by decide,by decide⟩
    have hv0:(zbT l.length l.length s ⟨0,0,false⟩ ⟨0,0,false⟩ (.slice sa l.length c)).v 0= .slice sa l.length c:=rfl
    generalize zbT l.length l.length s ⟨0,0,false⟩ ⟨0,0,false⟩ (.slice sa l.length c)=ρ at*
    refine wp_mono (zax (ρ:=ρ) (K:=fun _=>False) (g:=Gho.none) (bl:= []) mixed zEp zIt (fun b h=>h.elim) trivial trivial zaB trivial trivial trivial size dfr ?_ (zaa.2 ⟨by rw [zaX,d0,d1];simp,zad.2 trivial⟩)) fun ex a' w' hh=> ?_
    · intro t ht
      simp only [zfj,List.mem_cons,List.not_mem_nil,or_false] at ht
      rcases ht with rfl|rfl|rfl
      · rw [s0];exact zLv hv0 d0
      · rw [s3];exact zac d2
      · rw [s4];exact zac d1
    · obtain ⟨q,hq,hto,lf,hlf,rfl,hsz,j,hdf,he⟩:=hh
      have hbl:=zam he (fun _ h=>h)
      unfold zAp at hq
      simp only [List.mem_cons,List.not_mem_nil,or_false] at hq
      subst hq
      cases hlf
      have hs:=zaE he.ret
      exact ⟨hsz,hdf,mv.trans (hbl.mono mv.size),.inr ⟨rfl,s,hsw.symm,by simpa [AV.valL,AV.val,d2] using hs,hs0,by omega⟩⟩
theorem Tryz.zcu {fn:Func} {t:Tmp} {a:Act} {w:World} {v:Value} {Post:Ending→World→Prop} (hd:a.defers= []) (h:fn.results= #[.tmp t]) (hv:a.tmps.getD t undef=v) (hp:Post (.returned v) w):bodyPost prog fn Post .ret a w:=
 bodyPost_ret (v:=v) (by
  have hv':a.tmps[t]?.getD undef=v:=by simpa using hv
  simp [results,h,hv']) hd hp
set_option maxRecDepth 100000 in
theorem Tryz.zEa {A:Nat→Prop} {w:World} {v:Value} {l:List Sg} (h:SegV A w v l):
  Calls prog 80 #[v] w fun e w'=>e= .returned (.int .i64 (zaZ l))∧Below w.heap.size w w':=by
 obtain ⟨sa,c,rfl,hok,hr⟩:=h
 unfold zaZ
 by_cases hlen:64<l.length
 ·rw [if_pos hlen]
  go_enter func80,ntmps80
  go_wp2
  go_ret
  exact ⟨rfl,Below.refl _ _⟩
 ·rw [if_neg hlen]
  have hr':l= []∨ ∃R o,sa=some ⟨R,o,none⟩∧w.rangeAt R o (zaP l):=hr.imp_right fun ⟨R,o,e,_,hr⟩=>⟨R,o,e,hr⟩
  go_enter func80,ntmps80
  go_wp2
  refine zbH (c':= .loop (zaI prog [0,0,1,0,1,1,1,80])) (by kernel_rfl) ?_
  refine zbl (fun k a w'=>RcI l sa c w k a w') (fun k=>l.length-k) (fun k a w' hI=>wp_mono (zEw hI (by omega) hok hr') fun ex a' w2 hh=> ?_) 0 _ _ ?_
  ·cases ex with
   | normal=>exact ⟨k+1,by omega,hh.2⟩
   | ret=>
    obtain ⟨hsz,hdf,hb,⟨_,hV,h2⟩|⟨h,_⟩⟩:=hh
    ·exact zcu (fn:=f80) (Post:=fun e w'=>e= .returned (.int .i64 (za7 false 0 l))∧RowKit.Below w.heap.size w w') hdf rfl h2 ⟨by rw [hV],hb⟩
    ·cases h
   | exit i=>
    obtain ⟨hsz,hdf,hb,⟨h,_⟩|⟨h,s,hV,h3,hs0,hs1⟩⟩:=hh
    ·cases h
    ·cases h
     simp only [Exit.inBlock,Exit.then,if_pos]
     rename_i K hK
     refine hK _ _ (zbH (c':=zaI prog [1,1,1,1,80]) (by kernel_rfl) ?_)
     have d2:(u64v 2).den (zbT 0 0 s ⟨0,0,false⟩ ⟨0,0,false⟩ undef)=s:=zaH hs0 hs1
     generalize zbT 0 0 s ⟨0,0,false⟩ ⟨0,0,false⟩ undef=ρ at*
     refine wp_mono (zax (ρ:=ρ) (K:=fun _=>False) (g:=Gho.none) (bl:= []) mixed zEn zIs (fun b h=>h.elim) trivial trivial zaB trivial trivial trivial hsz hdf ?_ (zad.2 trivial)) fun ex a3 w3 hh=> ?_
     ·intro t ht
      simp only [zfi,List.mem_cons,List.not_mem_nil,or_false] at ht
      subst ht
      rw [h3];exact zac d2
     ·obtain ⟨q,hq,hto,lf,hlf,rfl,hsz3,j,hdf3,he⟩:=hh
      have hb3:=zam he (fun _ h=>h)
      unfold zAn at hq
      simp only [List.mem_cons,List.not_mem_nil,or_false] at hq
      rcases hq with rfl|rfl
      all_goals
       simp only [zaa,zad,zcH,d2,zaf,decide_eq_true_eq,decide_eq_false_iff_not,and_true] at hto
       cases hlf
       have h2:=zaE he.ret
       simp only [AV.valL,AV.val,zaf,List.map_cons,List.map_nil,List.cons.injEq,and_true] at h2
      ·exact zcu (fn:=f80) (Post:=fun e w'=>e= .returned (.int .i64 (za7 false 0 l))∧RowKit.Below w.heap.size w w') hdf3 rfl h2 ⟨by rw [hV,if_pos (by omega)],hb.trans (hb3.mono hb.size)⟩
      ·exact zcu (fn:=f80) (Post:=fun e w'=>e= .returned (.int .i64 (za7 false 0 l))∧RowKit.Below w.heap.size w w') hdf3 rfl h2 ⟨by rw [hV,if_neg (by omega)],hb.trans (hb3.mono hb.size)⟩
   | _=>obtain ⟨hsz,hdf,hb,⟨h,_⟩|⟨h,_⟩⟩:=hh<;>cases h
  ·exact ⟨Nat.zero_le _,rfl,rfl,rfl,rfl,Below.refl _ _,false,0,rfl,by decide,by decide,rfl,fun _=>rfl,fun i hi=>(by omega)⟩
def Tryz.idL (l:List (SE×Nat)):AV:= .sx 0 (lnv 0) 1 l
def Tryz.idEl (n:Nat):Sh:= .ro [.int .i64 (.var n)]
def Tryz.mayE:Ent:=⟨50,[sl1 []],0,0,0,.int .i64 (.var 7),0⟩
def Tryz.ze2:LEnt:=⟨[0,1,1,0,0,1,0,0,1,0,1,1,1,1,39],103,0,[(0,idL [(lnv 1,1)]),(1,sl1 []),(7,.int .i64 (lnv 1)),(8,.int .i64 (.lit 0))],[],[],0,0,[⟨.lit true,.exit 2,[(0,idL [(lnv 1,1)]),(1,sl1 []),(7,.int .i64 (lnv 1))],0⟩]⟩
def Tryz.zkv:LEnt:=⟨[0,1,0,1,1,1,1,39],103,0,[(0,idL []),(1,sl1 []),(7,.int .i64 (.lit 0))],[],[],0,0,[⟨.lit true,.exit 0,[(0,idL []),(1,sl1 [])],0⟩]⟩
def Tryz.zf0:LEnt:=⟨[0,1,0,1,1,1,1,1,1,39],103,0,[(0,idL []),(1,sl1 []),(9,.nils),(10,.int .i64 (.lit 0))],[],[],1,1,[⟨.lit true,.exit 4,[(9,.opq 1 none)],2⟩]⟩
def Tryz.putA (base:Nat) (f nx:SE):AEnt:=⟨100,.cst 2 none,1,[.int .i64 (.var 9),.int .u64 (u64v 3),.int .u32 (u32v 4),.int .u16 f,.int .u16 nx],1,base,1,.opq base none,2⟩
end Go.Proofs
namespace Go.Proofs
open Go.Dw
def Tryz.zr2:List Ent:= []
def Tryz.zwu:List Sh:= [idEl 9,idEl 10]
def Tryz.zfE:List (Nat×AV):= [(0,idL [(lnv 1,1),(lnv 2,2)]),(1,sl1 []),(7,.int .i64 (lnv 1)),(8,.int .i64 (lnv 2))]
def Tryz.zne:List LEnt:= []
def Tryz.znf:List AEnt:= []
def Tryz.zwv:Option AV:=none
def Tryz.zFp:List (SB×Bool):= [(.cmp .lss (lnv 1) (lnv 0),true),(.cmp .lss (lnv 2) (lnv 0),true),(.cmp .lss (lnv 2) (lnv 1),true),(.cmp .eql (.var 10) (.var 9),false)]
def Tryz.zCq:List zbe:= [
 ⟨.normal,[0,1,7,8],none,⟨.tup [.sx 0 ((lnv 0)) 1 [((lnv 1),1),((lnv 2),2)],.sx 1 ((lnv 0)) 3 [],.int .i64 (lnv 1),.int .i64 (.bin .add .i64 (lnv 2) (.lit 1))],[],[],0,[]⟩⟩]
def Tryz.zCp:List (List (SB×Bool)×Nat):= [
 ([], 0)]
theorem Tryz.zFo:(evL prog (zau zr2) (zaC zne) (zaA znf) 100000 (.code (zaI prog [0,0,1,1,0,0,1,0,0,1,0,1,1,1,1,39]) [0,0,1,1,0,0,1,0,0,1,0,1,1,1,1,39] 103 (envS 103 zfE zwv) (zar 0 zwu) (zaG zCq 0))).ways zFp=some zCp:=by kernel_rfl
theorem Tryz.zJy:(zah zwu&&zae zr2&&zan zne&&zao znf&&zaq zfE&&zal zCq&&zaF 103 zfE&&Nat.ble 103 zaN&&zaz zwv)=true:=by kernel_rfl
def Tryz.zr1:List Ent:= []
def Tryz.zws:List Sh:= []
def Tryz.zfD:List (Nat×AV):= [(0,idL []),(1,sl1 []),(7,.int .i64 (lnv 1)),(8,.int .i64 (lnv 2))]
def Tryz.znc:List LEnt:= []
def Tryz.znd:List AEnt:= []
def Tryz.zwt:Option AV:=none
def Tryz.zFn:List (SB×Bool):= [(.cmp .lss (lnv 2) (lnv 1),false)]
def Tryz.zCo:List zbe:= [
 ⟨(.exit 2),[0,1,7],none,⟨.tup [.sx 0 ((lnv 0)) 1 [],.sx 1 ((lnv 0)) 3 [],.int .i64 (lnv 1)],[],[],0,[]⟩⟩]
def Tryz.zCn:List (List (SB×Bool)×Nat):= [
 ([], 0)]
theorem Tryz.zFm:(evL prog (zau zr1) (zaC znc) (zaA znd) 100000 (.code (zaI prog [0,0,1,1,0,0,1,0,0,1,0,1,1,1,1,39]) [0,0,1,1,0,0,1,0,0,1,0,1,1,1,1,39] 103 (envS 103 zfD zwt) (zar 0 zws) (zaG zCo 0))).ways zFn=some zCn:=by kernel_rfl
theorem Tryz.zJx:(zah zws&&zae zr1&&zan znc&&zao znd&&zaq zfD&&zal zCo&&zaF 103 zfD&&Nat.ble 103 zaN&&zaz zwt)=true:=by kernel_rfl
def Tryz.zv5:List Ent:= []
def Tryz.zBO:List Sh:= [idEl 9]
def Tryz.zg2:List (Nat×AV):= [(0,idL [(lnv 1,1)]),(1,sl1 []),(7,.int .i64 (lnv 1))]
def Tryz.zrs:List LEnt:= [ze2]
def Tryz.zrt:List AEnt:= []
def Tryz.zBP:Option AV:=none
def Tryz.zJf:List (SB×Bool):= [(.cmp .lss (lnv 1) (lnv 0),true),(.cmp .lss (.var 9) (.lit 0),false),(.cmp .geq (.var 9) (.lit 32768),false)]
def Tryz.zGH:List zbe:= [
 ⟨.normal,[0,1,7],none,⟨.tup [.sx 0 ((lnv 0)) 1 [((lnv 1),1)],.sx 1 ((lnv 0)) 3 [],.int .i64 (.bin .add .i64 (lnv 1) (.lit 1))],[],[],0,[]⟩⟩]
def Tryz.zGG:List (List (SB×Bool)×Nat):= [
 ([], 0)]
theorem Tryz.zJe:(evL prog (zau zv5) (zaC zrs) (zaA zrt) 100000 (.code (zaI prog [0,0,1,0,1,1,1,1,39]) [0,0,1,0,1,1,1,1,39] 103 (envS 103 zg2 zBP) (zar 0 zBO) (zaG zGH 0))).ways zJf=some zGG:=by kernel_rfl
theorem Tryz.zK1:(zah zBO&&zae zv5&&zan zrs&&zao zrt&&zaq zg2&&zal zGH&&zaF 103 zg2&&Nat.ble 103 zaN&&zaz zBP)=true:=by kernel_rfl
def Tryz.zrr:List Ent:= []
def Tryz.zv3:List Sh:= []
def Tryz.zfB:List (Nat×AV):= [(0,idL []),(1,sl1 []),(7,.int .i64 (lnv 1))]
def Tryz.zmP:List LEnt:= []
def Tryz.zmQ:List AEnt:= []
def Tryz.zv4:Option AV:=none
def Tryz.zE8:List (SB×Bool):= [(.cmp .lss (lnv 1) (lnv 0),false)]
def Tryz.zBN:List zbe:= [
 ⟨(.exit 0),[0,1],none,⟨.tup [.sx 0 ((lnv 0)) 1 [],.sx 1 ((lnv 0)) 3 []],[],[],0,[]⟩⟩]
def Tryz.zBM:List (List (SB×Bool)×Nat):= [
 ([], 0)]
theorem Tryz.zE7:(evL prog (zau zrr) (zaC zmP) (zaA zmQ) 100000 (.code (zaI prog [0,0,1,0,1,1,1,1,39]) [0,0,1,0,1,1,1,1,39] 103 (envS 103 zfB zv4) (zar 0 zv3) (zaG zBN 0))).ways zE8=some zBM:=by kernel_rfl
theorem Tryz.zJd:(zah zv3&&zae zrr&&zan zmP&&zao zmQ&&zaq zfB&&zal zBN&&zaF 103 zfB&&Nat.ble 103 zaN&&zaz zv4)=true:=by kernel_rfl
def Tryz.zmw:List Ent:= []
def Tryz.zqy:List Sh:= [idEl 9,idEl 10,ckEl 3 4 0]
def Tryz.zdW:List (Nat×AV):= [(0,idL [(lnv 1,1),(.bin .add .i64 (lnv 1) (.lit 1),2)]),(1,sl1 [(lnv 1,3)]),(9,.cst 2 none),(10,.int .i64 (lnv 1))]
def Tryz.zj3:List LEnt:= []
def Tryz.zj4:List AEnt:= [putA 6 (.lit 3) (.wrap .u16 (.var 10))]
def Tryz.zqz:Option AV:=none
def Tryz.zAG:List (SB×Bool):= [(.cmp .lss (lnv 1) (lnv 0),true),(.cmp .lss (.bin .add .i64 (lnv 1) (.lit 1)) (lnv 0),true),(.var 0,true)]
def Tryz.zvw:List zbe:= [
 ⟨.normal,[0,1,9,10],none,⟨.tup [.sx 0 ((lnv 0)) 1 [((lnv 1),1),((.bin .add .i64 (lnv 1) (.lit 1)),2)],.sx 1 ((lnv 0)) 3 [((lnv 1),3)],.opq 6 none,.int .i64 (.bin .add .i64 (lnv 1) (.lit 1))],[],[],2,[]⟩⟩]
def Tryz.zvv:List (List (SB×Bool)×Nat):= [
 ([], 0)]
theorem Tryz.zAF:(evL prog (zau zmw) (zaC zj3) (zaA zj4) 100000 (.code (zaI prog [0,0,1,0,1,1,1,1,1,1,39]) [0,0,1,0,1,1,1,1,1,1,39] 103 (envS 103 zdW zqz) (zar 1 zqy) (zaG zvw 0))).ways zAG=some zvv:=by kernel_rfl
theorem Tryz.zEC:(zah zqy&&zae zmw&&zan zj3&&zao zj4&&zaq zdW&&zal zvw&&zaF 103 zdW&&Nat.ble 103 zaN&&zaz zqz)=true:=by kernel_rfl
def Tryz.zmx:List Ent:= []
def Tryz.zqA:List Sh:= [idEl 9,idEl 10,ckEl 3 4 0]
def Tryz.zdX:List (Nat×AV):= [(0,idL [(lnv 1,1),(.bin .add .i64 (lnv 1) (.lit 1),2)]),(1,sl1 [(lnv 1,3)]),(9,.cst 2 none),(10,.int .i64 (lnv 1))]
def Tryz.zj5:List LEnt:= []
def Tryz.zj6:List AEnt:= [putA 6 (.lit 1) (.wrap .u16 (.var 10))]
def Tryz.zqB:Option AV:=none
def Tryz.zAI:List (SB×Bool):= [(.cmp .lss (lnv 1) (lnv 0),true),(.cmp .lss (.bin .add .i64 (lnv 1) (.lit 1)) (lnv 0),true),(.var 0,false)]
def Tryz.zvy:List zbe:= [
 ⟨.normal,[0,1,9,10],none,⟨.tup [.sx 0 ((lnv 0)) 1 [((lnv 1),1),((.bin .add .i64 (lnv 1) (.lit 1)),2)],.sx 1 ((lnv 0)) 3 [((lnv 1),3)],.opq 6 none,.int .i64 (.bin .add .i64 (lnv 1) (.lit 1))],[],[],2,[]⟩⟩]
def Tryz.zvx:List (List (SB×Bool)×Nat):= [
 ([], 0)]
theorem Tryz.zAH:(evL prog (zau zmx) (zaC zj5) (zaA zj6) 100000 (.code (zaI prog [0,0,1,0,1,1,1,1,1,1,39]) [0,0,1,0,1,1,1,1,1,1,39] 103 (envS 103 zdX zqB) (zar 1 zqA) (zaG zvy 0))).ways zAI=some zvx:=by kernel_rfl
theorem Tryz.zED:(zah zqA&&zae zmx&&zan zj5&&zao zj6&&zaq zdX&&zal zvy&&zaF 103 zdX&&Nat.ble 103 zaN&&zaz zqB)=true:=by kernel_rfl
def Tryz.zms:List Ent:= []
def Tryz.zqt:List Sh:= [idEl 9,ckEl 3 4 0]
def Tryz.zdU:List (Nat×AV):= [(0,idL [(lnv 1,1)]),(1,sl1 [(lnv 1,2)]),(9,.cst 2 none),(10,.int .i64 (lnv 1))]
def Tryz.zjZ:List LEnt:= []
def Tryz.zj0:List AEnt:= [putA 5 (.lit 2) (.lit 0)]
def Tryz.zqu:Option AV:=none
def Tryz.zAA:List (SB×Bool):= [(.cmp .lss (lnv 1) (lnv 0),true),(.cmp .lss (.bin .add .i64 (lnv 1) (.lit 1)) (lnv 0),false),(.var 0,true)]
def Tryz.zvq:List zbe:= [
 ⟨.normal,[0,1,9,10],none,⟨.tup [.sx 0 ((lnv 0)) 1 [((lnv 1),1)],.sx 1 ((lnv 0)) 3 [((lnv 1),2)],.opq 5 none,.int .i64 (.bin .add .i64 (lnv 1) (.lit 1))],[],[],2,[]⟩⟩]
def Tryz.zvp:List (List (SB×Bool)×Nat):= [
 ([], 0)]
theorem Tryz.zAz:(evL prog (zau zms) (zaC zjZ) (zaA zj0) 100000 (.code (zaI prog [0,0,1,0,1,1,1,1,1,1,39]) [0,0,1,0,1,1,1,1,1,1,39] 103 (envS 103 zdU zqu) (zar 1 zqt) (zaG zvq 0))).ways zAA=some zvp:=by kernel_rfl
theorem Tryz.zEy:(zah zqt&&zae zms&&zan zjZ&&zao zj0&&zaq zdU&&zal zvq&&zaF 103 zdU&&Nat.ble 103 zaN&&zaz zqu)=true:=by kernel_rfl
def Tryz.zmt:List Ent:= []
def Tryz.zqv:List Sh:= [idEl 9,ckEl 3 4 0]
def Tryz.zdV:List (Nat×AV):= [(0,idL [(lnv 1,1)]),(1,sl1 [(lnv 1,2)]),(9,.cst 2 none),(10,.int .i64 (lnv 1))]
def Tryz.zj1:List LEnt:= []
def Tryz.zj2:List AEnt:= [putA 5 (.lit 0) (.lit 0)]
def Tryz.zqw:Option AV:=none
def Tryz.zAC:List (SB×Bool):= [(.cmp .lss (lnv 1) (lnv 0),true),(.cmp .lss (.bin .add .i64 (lnv 1) (.lit 1)) (lnv 0),false),(.var 0,false)]
def Tryz.zvs:List zbe:= [
 ⟨.normal,[0,1,9,10],none,⟨.tup [.sx 0 ((lnv 0)) 1 [((lnv 1),1)],.sx 1 ((lnv 0)) 3 [((lnv 1),2)],.opq 5 none,.int .i64 (.bin .add .i64 (lnv 1) (.lit 1))],[],[],2,[]⟩⟩]
def Tryz.zvr:List (List (SB×Bool)×Nat):= [
 ([], 0)]
theorem Tryz.zAB:(evL prog (zau zmt) (zaC zj1) (zaA zj2) 100000 (.code (zaI prog [0,0,1,0,1,1,1,1,1,1,39]) [0,0,1,0,1,1,1,1,1,1,39] 103 (envS 103 zdV zqw) (zar 1 zqv) (zaG zvs 0))).ways zAC=some zvr:=by kernel_rfl
theorem Tryz.zEz:(zah zqv&&zae zmt&&zan zj1&&zao zj2&&zaq zdV&&zal zvs&&zaF 103 zdV&&Nat.ble 103 zaN&&zaz zqw)=true:=by kernel_rfl
def Tryz.zqx:List Ent:= []
def Tryz.zvt:List Sh:= []
def Tryz.zfn:List (Nat×AV):= [(0,idL []),(1,sl1 []),(9,.cst 2 none),(10,.int .i64 (lnv 1))]
def Tryz.zmu:List LEnt:= []
def Tryz.zmv:List AEnt:= []
def Tryz.zvu:Option AV:=none
def Tryz.zEB:List (SB×Bool):= [(.cmp .lss (lnv 1) (lnv 0),false)]
def Tryz.zAE:List zbe:= [
 ⟨(.exit 4),[9],none,⟨.tup [.cst 2 none],[],[],0,[]⟩⟩]
def Tryz.zAD:List (List (SB×Bool)×Nat):= [
 ([], 0)]
theorem Tryz.zEA:(evL prog (zau zqx) (zaC zmu) (zaA zmv) 100000 (.code (zaI prog [0,0,1,0,1,1,1,1,1,1,39]) [0,0,1,0,1,1,1,1,1,1,39] 103 (envS 103 zfn zvu) (zar 0 zvt) (zaG zAE 0))).ways zEB=some zAD:=by kernel_rfl
theorem Tryz.zIz:(zah zvt&&zae zqx&&zan zmu&&zao zmv&&zaq zfn&&zal zAE&&zaF 103 zfn&&Nat.ble 103 zaN&&zaz zvu)=true:=by kernel_rfl
def Tryz.zqa:List Ent:= [mayE]
def Tryz.zu7:List Sh:= []
def Tryz.zqb:List AV:= [idL [],sl1 []]
def Tryz.zmg:List LEnt:= [zkv,zf0]
def Tryz.zmh:List AEnt:= []
def Tryz.zD7:List (SB×Bool):= [(.cmp .neq (.var 7) (.lit 0),false)]
def Tryz.zz9:List Leaf:= [
 ⟨.tup [.opq 1 none,.int .i64 (.lit 0)],[],[],2,[]⟩]
def Tryz.zz8:List (List (SB×Bool)×Nat):= [
 ([], 0)]
theorem Tryz.zD6:(evL prog (zau zqa) (zaC zmg) (zaA zmh) 100000 (.call 39 zqb (zar 0 zu7) (zaK zz9 0))).ways zD7=some zz8:=by kernel_rfl
theorem Tryz.zIi:(zah zu7&&zae zqa&&zan zmg&&zao zmh&&AV.smallL zqb&&zaj zz9)=true:=by kernel_rfl
def Tryz.zmi:List Ent:= [mayE]
def Tryz.zqc:List Sh:= []
def Tryz.zmj:List AV:= [idL [],sl1 []]
def Tryz.zAb:List (SB×Bool):= [(.cmp .neq (.var 7) (.lit 0),true)]
def Tryz.zu8:List Leaf:= [
 ⟨.tup [.nils,.int .i64 (.var 7)],[],[],0,[]⟩]
def Tryz.zD8:List (List (SB×Bool)×Nat):= [
 ([], 0)]
theorem Tryz.zAa:(ev prog (zau zmi) 100000 (.call 39 zmj (zar 0 zqc) (zaK zu8 0))).ways zAb=some zD8:=by kernel_rfl
theorem Tryz.zD9:(zah zqc&&zae zmi&&AV.smallL zmj&&zaj zu8)=true:=by kernel_rfl
open Go.RowKit Go.Maps Go.Sort
def Tryz.zat (ids:List Int):List Value:=ids.map fun x=> .int .i64 x
theorem Tryz.zec {w:World} {I o:Nat} {ids:List Int} (h:w.rangeAt I o (zat ids)) (k:Nat) (hk:k<ids.length):w.rangeAt I (o+1*k) [.int .i64 ids[k]]:=fun j v hv=>by
 match j,hv with
 | 0,hv=>
  cases hv
  have:=h k (.int .i64 ids[k]) (by simp [zat,hk])
  rw [show o+1*k+0=o+k by omega]
  exact this
 | j+1,hv=>cases hv
theorem Tryz.zE9 {w:World} {I o:Nat} {ids:List Int} (h:w.rangeAt I o (zat ids)) {k:Nat} (hk:k<ids.length):I<w.heap.size:=World.block_lt_of_cell? w _ (zec h k hk 0 _ rfl)
def Tryz.OwnR (t:TypeId) (sz:Nat) (w:World) (b2:Nat) (v:Value) (n:Nat) (cs:List Value):Prop:=w.ownsRow b2 t sz v n cs
theorem Tryz.OwnR.kept {t:TypeId} {sz n:Nat} {w w':World} {b2:Nat} {v:Value} {cs:List Value} (h:OwnR t sz w b2 v n cs) (hb: ∀b,v.ownBlock=some b→w'.heap[b]? =w.heap[b]?):OwnR t sz w' b2 v n cs:=by
 obtain ⟨h1,h2⟩:=h
 refine ⟨h1,?_⟩
 rcases h2 with h2|⟨G,cap,cur,e,h3,h4,h5⟩
 ·exact .inl h2
 ·exact .inr ⟨G,cap,cur,e,h3,by rw [hb G (by rw [e];rfl)];exact h4,h5⟩
theorem Tryz.OwnR.lt {t:TypeId} {sz n:Nat} {w:World} {b2:Nat} {v:Value} {cs:List Value} (h:OwnR t sz w b2 v n cs): ∀b,v.ownBlock=some b→b2≤b∧b<w.heap.size:=fun b hb=>by
 obtain ⟨h1,h2⟩:=h
 rcases h2 with ⟨rfl,_⟩|⟨G,cap,cur,rfl,h3,h4,h5⟩
 ·cases hb
 ·cases hb;exact ⟨h3,(Array.getElem?_eq_some_iff.1 h4).1⟩
theorem Tryz.OwnR.one {t:TypeId} {sz n:Nat} {w:World} {b2:Nat} {v:Value} {cs:List Value} (h:OwnR t sz w b2 v n cs):v.oneCell'=true:=by
 obtain ⟨h1,h2⟩:=h
 rcases h2 with ⟨rfl,h2⟩|⟨G,cap,cur,rfl,_⟩<;>rfl
theorem Tryz.OwnR.mono {t:TypeId} {sz n:Nat} {w:World} {b1 b2:Nat} {v:Value} {cs:List Value} (h:OwnR t sz w b2 v n cs) (hb:b1≤b2):OwnR t sz w b1 v n cs:=by
 obtain ⟨h1,h2⟩:=h
 refine ⟨h1,?_⟩
 rcases h2 with h2|⟨G,cap,cur,e,h3,h4⟩
 ·exact .inl h2
 ·exact .inr ⟨G,cap,cur,e,Nat.le_trans hb h3,h4⟩
theorem Tryz.OwnR.nil (t:TypeId) (sz:Nat) (w:World) (b2:Nat):OwnR t sz w b2 (.slice none 0 0) 0 []:=⟨by simp,.inl ⟨rfl,rfl⟩⟩
theorem Tryz.OwnR.row {t:TypeId} {sz n:Nat} {w:World} {b2:Nat} {v:Value} {cs:List Value} (h:OwnR t sz w b2 v n cs): ∃sa c,v= .slice sa n c∧(cs= []∨ ∃G,sa=some ⟨G,0,none⟩∧v.ownBlock=some G∧w.rangeAt G 0 cs):=by
 obtain ⟨h1,h2⟩:=h
 rcases h2 with ⟨rfl,h2⟩|⟨G,cap,cur,rfl,h3,h4,h5,h6,h7,h8⟩
 ·refine ⟨none,0,by rw [h2],.inl ?_⟩
  rw [h2,Nat.zero_mul] at h1
  exact List.length_eq_zero_iff.1 h1
 ·refine ⟨_,cap,rfl,.inr ⟨G,rfl,rfl,fun i y hy=> ?_⟩⟩
  have hlt:i<cs.length:=(List.getElem?_eq_some_iff.1 hy).1
  rw [←h8] at hy
  rw [List.getElem?_take_of_lt (by omega)] at hy
  simp only [World.cell?,h4,Nat.zero_add]
  simpa using hy
structure Tryz.Pt where
 at0:Int
 a:Int
 ln:Int
 f:Int
 nx:Int
def Tryz.Pt.cells (p:Pt):List Value:= [.int .i64 p.at0,.int .u64 p.a,.int .u32 p.ln,.int .u16 p.f,.int .u16 p.nx]
def Tryz.putAt (ids:List Int) (l:List Sg) (k:Nat):Pt:=
 ⟨ids.getD k 0,(l.getD k ⟨0,0,false⟩).at1,(l.getD k ⟨0,0,false⟩).len,(if (l.getD k ⟨0,0,false⟩).wr then 2 else 0)+(if k+1<l.length then 1 else 0),if k+1<l.length then ids.getD (k+1) 0%65536 else 0⟩
def Tryz.za0 (ids:List Int) (l:List Sg) (k:Nat):List Pt:=(List.range k).map (putAt ids l)
def Tryz.zcU (ps:List Pt):List Value:=ps.flatMap Pt.cells
theorem Tryz.zs5 (ids:List Int) (l:List Sg) (k:Nat):za0 ids l (k+1)=za0 ids l k++ [putAt ids l k]:=by simp [za0,List.range_succ]
theorem Tryz.zdz (ids:List Int) (l:List Sg) (k:Nat):(za0 ids l k).length=k:=by simp [za0]
def Tryz.zoA (w:World) (b2:Nat) (v:Value) (ps:List Pt):Prop:=OwnR 104 5 w b2 v ps.length (zcU ps)
def Tryz.zKL (b2:Nat) (v:Value) (ps:List Pt) (F:Nat→Prop) (w:World):Prop:=zoA w b2 v ps∧ ∀b,v.ownBlock=some b→F b
def Tryz.rsG (sa:Option Addr) (ls:List Sg) (b2 base:Nat) (v:Value) (p1 p2:List Pt):Gho where
 fact k q F w:=SegF F w sa ls∧(match k with|0=>True|1=>zKL b2 v p1 F w|_=> ∃u,q base=some u∧zKL b2 u p2 F w)
 loc:=fun k q q' F w w' h hq hb hs=>by
  obtain ⟨h0,h⟩:=h
  refine ⟨h0.kept hb,?_⟩
  match k,h with
  | 0,_=>trivial
  | 1,⟨h7,h8⟩=>exact ⟨OwnR.kept h7 fun b e=>hb b (h8 b e),h8⟩
  | k+2,⟨u,h7,h8,h9⟩=>exact ⟨u,hq _ _ h7,OwnR.kept h8 fun b e=>hb b (h9 b e),h9⟩
def Tryz.zlb (n k i e x9 x10:Int) (x:Sg) (iv sv ov:Value):Val:=vof [n,k,i,x.at1,x.len,0,0,e,0,x9,x10] [x.wr] [iv,sv,ov]
structure Tryz.SpD (ρ:Val) (n k i e x9 x10:Int) (x:Sg) (iv sv ov:Value):Prop where
 d0:(lnv 0).den ρ=n
 d1:(lnv 1).den ρ=k
 d2:(lnv 2).den ρ=i
 d3:(u64v 3).den ρ=x.at1
 d4:(u32v 4).den ρ=x.len
 i7:ρ.i 7=e
 i9:ρ.i 9=x9
 i10:ρ.i 10=x10
 b0:ρ.b 0=x.wr
 v0:ρ.v 0=iv
 v1:ρ.v 1=sv
 v2:ρ.v 2=ov
theorem Tryz.spD {n k i e x9 x10:Int} {x:Sg} {iv sv ov:Value} (hn:0≤n∧n<64000) (hk:0≤k∧k<64000) (hi:0≤i∧i<64000) (hx:x.ok):SpD (zlb n k i e x9 x10 x iv sv ov) n k i e x9 x10 x iv sv ov:=
 ⟨zaR hn.1 (by show n<_;omega),zaR hk.1 (by show k<_;omega),zaR hi.1 (by show i<_;omega),zaH hx.1 hx.2.1,zbL hx.2.2.1 hx.2.2.2,rfl,rfl,rfl,rfl,rfl,rfl,rfl⟩
theorem Tryz.zs8:(⟨0,1,false⟩:Sg).ok:=⟨by decide,by decide,by decide,by decide⟩
theorem Tryz.zFa {ρ:Val} {j:J} {ia:Option Addr} {n c:Nat} (hv:ρ.v 0= .slice ia n c) (hd:(lnv 0).den ρ=n):Dw.R ρ j (idL []) (.slice ia n c):=⟨hv.symm,ia,n,c,rfl,hd.symm,trivial⟩
set_option maxRecDepth 10000 in
theorem Tryz.zFq {ρ:Val} {w0:World} {K:Nat→Prop} {g:Gho} {ia sa:Option Addr} {ids:List Int} {c cs k:Nat} (hn:ids.length≤60000) (hnd:ids.Nodup) (hk:k<ids.length) (hK: ∀b,¬K b) (hr: ∃I o,ia=some ⟨I,o,none⟩∧w0.rangeAt I o (zat ids))
  (hv0:ρ.v 0= .slice ia ids.length c) (hv1:ρ.v 1= .slice sa ids.length cs) (d0:(lnv 0).den ρ=ids.length) (d1:(lnv 1).den ρ=k):
  zlv prog ρ w0 K g ze2:=by
 refine zd4 rfl (fun d hd=>by unfold ze2 at hd;simp at hd;rw [hd];rfl) fun cc hc j a w F hsz hdf hsl _ hf hs0 hold=> ?_
 have hsl0:=(hsl (0,idL [(lnv 1,1)]) (by simp [ze2])).2
 have hsl1:=(hsl (1,sl1 []) (by simp [ze2])).2
 have g0:=R_val rfl hsl0
 have g1:=R_val rfl hsl1
 have g7:=R_val rfl (hsl (7,.int .i64 (lnv 1)) (by simp [ze2])).2
 have g8:=R_val rfl (hsl (8,.int .i64 (.lit 0)) (by simp [ze2])).2
 simp only [AV.val,idL,sl1,hv0,hv1,d1,zaf] at g0 g1 g7 g8
 have hcc:cc=zaI prog [0,0,1,1,0,0,1,0,0,1,0,1,1,1,1,39]:=by
  have:=zd5 (P:=prog) (p:= [0,1,1,0,0,1,0,0,1,0,1,1,1,1,39]) (by kernel_rfl)
  have hc:zaI prog [0,1,1,0,0,1,0,0,1,0,1,1,1,1,39]= .loop cc:=hc
  rw [hc] at this
  injection this
 subst hcc
 have hsz:a.tmps.size=103:=hsz
 refine zbl (fun (i:Nat) a' w'=>i≤k∧a'.tmps.size=103∧a'.defers= []∧a'.tmps.getD 0 undef= .slice ia ids.length c∧a'.tmps.getD 1 undef= .slice sa ids.length cs∧a'.tmps.getD 7 undef= .int .i64 k∧a'.tmps.getD 8 undef= .int .i64 i∧Below w.heap.size w w')
  (fun i=>k-i) (fun i a1 w1 hI=> ?_) 0 a w ⟨Nat.zero_le _,hsz,hdf,g0,g1,g7,by rw [g8];rfl,Below.refl _ _⟩
 obtain ⟨hik,q0,qd,qi,qs,q7,q8,hb⟩:=hI
 by_cases hlt:i<k
 ·obtain ⟨I,o,rfl,hr⟩:=hr
  have hIl:=zE9 hr hk
  have hr1:=zaJ hr ((hb.block I (by omega)).trans (hold I hIl (hK I)))
  have hx9:=zec hr1 k hk
  have hx10:=zec hr1 i (by omega)
  have hne:ids[i]≠ids[k]:=List.pairwise_iff_getElem.1 hnd i k (by omega) hk hlt
  have D:=spD (n:=ids.length) (k:=k) (i:=i) (e:=0) (x9:=ids[k]) (x10:=ids[i]) (x:=⟨0,1,false⟩) (iv:= .slice (some ⟨I,o,none⟩) ids.length c) (sv:= .slice sa ids.length cs) (ov:=undef) (by omega) (by omega) (by omega) zs8
  generalize zlb ids.length k i 0 ids[k] ids[i] ⟨0,1,false⟩ (.slice (some ⟨I,o,none⟩) ids.length c) (.slice sa ids.length cs) undef=ρ' at D
  have hj1:jOf [(I,o+1*k),(I,o+1*i)] 1=some ⟨I,o+1*k,0,none⟩:=rfl
  have hj2:jOf [(I,o+1*k),(I,o+1*i)] 2=some ⟨I,o+1*i,0,none⟩:=rfl
  refine wp_mono (zax (ρ:=ρ') (K:=fun _=>False) (g:=Gho.none) (bl:= [(I,o+1*k),(I,o+1*i)]) mixed zFo zJy (fun b h=>h.elim)
   ⟨zaQ hx9 (by simp) (zab (zac D.i9) RL.nil) (fun h=>h),zaQ hx10 (by simp) (zab (zac D.i10) RL.nil) (fun h=>h),trivial⟩
   ⟨fun h=>(by cases h),fun h=>(by cases h),trivial⟩ zaB trivial trivial trivial q0 qd ?_
   (zaa.2 ⟨by rw [zaX,D.d0,D.d1];simp only [decide_eq_true_eq];omega,zaa.2 ⟨by rw [zaX,D.d0,D.d2];simp only [decide_eq_true_eq];omega,zaa.2 ⟨by rw [zaX,D.d1,D.d2];simp only [decide_eq_true_eq];omega,zaa.2 ⟨by rw [zbW,zay,zay,D.i9,D.i10];simpa using hne,zad.2 trivial⟩⟩⟩⟩)) fun ex a2 w2 hh=> ?_
  ·intro t ht
   simp only [zfE,List.mem_cons,List.not_mem_nil,or_false] at ht
   rcases ht with rfl|rfl|rfl|rfl
   ·rw [qi];exact ⟨D.v0.symm,_,_,_,rfl,D.d0.symm,⟨I,o,_,k,rfl,hj1,rfl,D.d1,hk,rfl⟩,⟨I,o,_,i,rfl,hj2,rfl,D.d2,by omega,rfl⟩,trivial⟩
   ·rw [qs];exact ⟨D.v1.symm,_,_,_,rfl,D.d0.symm,trivial⟩
   ·rw [q7];exact zac D.d1
   ·rw [q8];exact zac D.d2
  ·obtain ⟨q,hq,hto,lf,hlf,rfl,hsz2,j2,hdf2,he⟩:=hh
   have hb3:=zam he (fun _ h=>h)
   have hwi:=zes i (by omega)
   unfold zCp at hq
   simp only [List.mem_cons,List.not_mem_nil,or_false] at hq
   subst hq
   cases hlf
   have hs2:=zaE he.ret
   simp only [AV.valL,AV.val,D.d0,D.d1,D.d2,D.v0,D.v1,den_add,zaf,hwi,List.map_cons,List.map_nil,List.cons.injEq,and_true] at hs2
   obtain ⟨p0,p1',p7,p8⟩:=hs2
   exact ⟨i+1,by omega,by omega,hsz2,hdf2,p0,p1',p7,p8,hb.trans (hb3.mono hb.size)⟩
 ·have hkk:i=k:=by omega
  subst hkk
  have D:=spD (n:=ids.length) (k:=i) (i:=i) (e:=0) (x9:=0) (x10:=0) (x:=⟨0,1,false⟩) (iv:= .slice ia ids.length c) (sv:= .slice sa ids.length cs) (ov:=undef) (by omega) (by omega) (by omega) zs8
  generalize zlb ids.length i i 0 0 0 ⟨0,1,false⟩ (.slice ia ids.length c) (.slice sa ids.length cs) undef=ρ' at D
  refine wp_mono (zax (ρ:=ρ') (K:=fun _=>False) (g:=Gho.none) (bl:= []) mixed zFm zJx (fun b h=>h.elim) trivial trivial zaB trivial trivial trivial q0 qd ?_ (zaa.2 ⟨by rw [zaX,D.d1,D.d2];simp,zad.2 trivial⟩)) fun ex a2 w2 hh=> ?_
  ·intro t ht
   simp only [zfD,List.mem_cons,List.not_mem_nil,or_false] at ht
   rcases ht with rfl|rfl|rfl|rfl
   ·rw [qi];exact zFa D.v0 D.d0
   ·rw [qs];exact ⟨D.v1.symm,_,_,_,rfl,D.d0.symm,trivial⟩
   ·rw [q7];exact zac D.d1
   ·rw [q8];exact zac D.d2
  ·obtain ⟨q,hq,hto,lf,hlf,rfl,hsz2,j2,hdf2,he⟩:=hh
   have hb3:=zam he (fun _ h=>h)
   unfold zCn at hq
   simp only [List.mem_cons,List.not_mem_nil,or_false] at hq
   subst hq
   cases hlf
   have hs2:=zaE he.ret
   simp only [AV.valL,AV.val,D.d1,D.v0,D.v1,List.map_cons,List.map_nil,List.cons.injEq,and_true] at hs2
   obtain ⟨p0,p1',p7⟩:=hs2
   refine ⟨_,by unfold ze2;rw [zbw,if_pos (show SB.den ρ (.lit true)=true from rfl)],rfl,hsz2,hdf2,(fun t ht=>by cases ht),fun s hs=> ?_,hb.trans (hb3.mono hb.size)⟩
   simp only [List.mem_cons,List.not_mem_nil,or_false] at hs
   rcases hs with rfl|rfl|rfl
   ·rw [p0,←g0];exact hsl0
   ·rw [p1',←g1];exact hsl1
   ·rw [p7];exact zac d1
set_option maxRecDepth 10000 in
theorem Tryz.zJg {ρ:Val} {w0:World} {K:Nat→Prop} {g:Gho} {ia sa:Option Addr} {ids:List Int} {c cs:Nat} (hn:ids.length≤60000) (hnd:ids.Nodup) (hK: ∀b,¬K b) (hr:ids= []∨ ∃I o,ia=some ⟨I,o,none⟩∧w0.rangeAt I o (zat ids)) (hin: ∀x∈ids,0≤x∧x<32768)
  (hv0:ρ.v 0= .slice ia ids.length c) (hv1:ρ.v 1= .slice sa ids.length cs) (d0:(lnv 0).den ρ=ids.length):
  zlv prog ρ w0 K g zkv:=by
 refine zd4 rfl (fun d hd=>by unfold zkv at hd;simp at hd;rw [hd];rfl) fun cc hc j a w F hsz hdf hsl _ hf hs0 hold=> ?_
 have hsl0:=(hsl (0,idL []) (by simp [zkv])).2
 have hsl1:=(hsl (1,sl1 []) (by simp [zkv])).2
 have g0:=R_val rfl hsl0
 have g1:=R_val rfl hsl1
 have g7:=R_val rfl (hsl (7,.int .i64 (.lit 0)) (by simp [zkv])).2
 simp only [AV.val,idL,sl1,hv0,hv1,zaf] at g0 g1 g7
 have hcc:cc=zaI prog [0,0,1,0,1,1,1,1,39]:=by
  have:=zd5 (P:=prog) (p:= [0,1,0,1,1,1,1,39]) (by kernel_rfl)
  have hc:zaI prog [0,1,0,1,1,1,1,39]= .loop cc:=hc
  rw [hc] at this
  injection this
 subst hcc
 have hsz:a.tmps.size=103:=hsz
 refine zbl (fun (k:Nat) a' w'=>k≤ids.length∧a'.tmps.size=103∧a'.defers= []∧a'.tmps.getD 0 undef= .slice ia ids.length c∧a'.tmps.getD 1 undef= .slice sa ids.length cs∧a'.tmps.getD 7 undef= .int .i64 k∧Below w.heap.size w w')
  (fun k=>ids.length-k) (fun k a1 w1 hI=> ?_) 0 a w ⟨Nat.zero_le _,hsz,hdf,g0,g1,by rw [g7];rfl,Below.refl _ _⟩
 obtain ⟨hkl,q0,qd,qi,qs,q7,hb⟩:=hI
 by_cases hk:k<ids.length
 ·rcases hr with h0|⟨I,o,rfl,hr⟩
  ·rw [h0] at hk;simp at hk
  have hIl:=zE9 hr hk
  have hr1:=zaJ hr ((hb.block I (by omega)).trans (hold I hIl (hK I)))
  have hx9:=zec hr1 k hk
  have h9:=hin ids[k] (List.getElem_mem hk)
  have D:=spD (n:=ids.length) (k:=k) (i:=0) (e:=0) (x9:=ids[k]) (x10:=0) (x:=⟨0,1,false⟩) (iv:= .slice (some ⟨I,o,none⟩) ids.length c) (sv:= .slice sa ids.length cs) (ov:=undef) (by omega) (by omega) (by omega) zs8
  generalize zlb ids.length k 0 0 ids[k] 0 ⟨0,1,false⟩ (.slice (some ⟨I,o,none⟩) ids.length c) (.slice sa ids.length cs) undef=ρ' at D
  have hj1:jOf [(I,o+1*k)] 1=some ⟨I,o+1*k,0,none⟩:=rfl
  refine wp_mono (zax (ρ:=ρ') (K:=fun _=>False) (g:=Gho.none) (bl:= [(I,o+1*k)]) mixed zJe zK1 (fun b h=>h.elim)
   ⟨zaQ hx9 (by simp) (zab (zac D.i9) RL.nil) (fun h=>h),trivial⟩
   ⟨fun h=>(by cases h),trivial⟩ zaB trivial ⟨zFq hn hnd hk (fun _ h=>h) ⟨I,o,rfl,hr1⟩ D.v0 D.v1 D.d0 D.d1,trivial⟩ trivial q0 qd ?_
   (zaa.2 ⟨by rw [zaX,D.d0,D.d1];simp only [decide_eq_true_eq];omega,zaa.2 ⟨by rw [zaX,zay,zaf,D.i9];simp only [decide_eq_false_iff_not];omega,zaa.2 ⟨by rw [zcH,zay,zaf,D.i9];simp only [decide_eq_false_iff_not];omega,zad.2 trivial⟩⟩⟩)) fun ex a2 w2 hh=> ?_
  ·intro t ht
   simp only [zg2,List.mem_cons,List.not_mem_nil,or_false] at ht
   rcases ht with rfl|rfl|rfl
   ·rw [qi];exact ⟨D.v0.symm,_,_,_,rfl,D.d0.symm,⟨I,o,_,k,rfl,hj1,rfl,D.d1,hk,rfl⟩,trivial⟩
   ·rw [qs];exact ⟨D.v1.symm,_,_,_,rfl,D.d0.symm,trivial⟩
   ·rw [q7];exact zac D.d1
  ·obtain ⟨q,hq,hto,lf,hlf,rfl,hsz2,j2,hdf2,he⟩:=hh
   have hb3:=zam he (fun _ h=>h)
   have hwk:=zes k (by omega)
   unfold zGG at hq
   simp only [List.mem_cons,List.not_mem_nil,or_false] at hq
   subst hq
   cases hlf
   have hs2:=zaE he.ret
   simp only [AV.valL,AV.val,D.d0,D.d1,D.v0,D.v1,den_add,zaf,hwk,List.map_cons,List.map_nil,List.cons.injEq,and_true] at hs2
   obtain ⟨p0,p1',p7⟩:=hs2
   exact ⟨k+1,by omega,by omega,hsz2,hdf2,p0,p1',p7,hb.trans (hb3.mono hb.size)⟩
 ·have hkk:k=ids.length:=by omega
  subst hkk
  have D:=spD (n:=ids.length) (k:=ids.length) (i:=0) (e:=0) (x9:=0) (x10:=0) (x:=⟨0,1,false⟩) (iv:= .slice ia ids.length c) (sv:= .slice sa ids.length cs) (ov:=undef) (by omega) (by omega) (by omega) zs8
  generalize zlb ids.length ids.length 0 0 0 0 ⟨0,1,false⟩ (.slice ia ids.length c) (.slice sa ids.length cs) undef=ρ' at D
  refine wp_mono (zax (ρ:=ρ') (K:=fun _=>False) (g:=Gho.none) (bl:= []) mixed zE7 zJd (fun b h=>h.elim) trivial trivial zaB trivial trivial trivial q0 qd ?_ (zaa.2 ⟨by rw [zaX,D.d0,D.d1];simp,zad.2 trivial⟩)) fun ex a2 w2 hh=> ?_
  ·intro t ht
   simp only [zfB,List.mem_cons,List.not_mem_nil,or_false] at ht
   rcases ht with rfl|rfl|rfl
   ·rw [qi];exact zFa D.v0 D.d0
   ·rw [qs];exact ⟨D.v1.symm,_,_,_,rfl,D.d0.symm,trivial⟩
   ·rw [q7];exact zac D.d1
  ·obtain ⟨q,hq,hto,lf,hlf,rfl,hsz2,j2,hdf2,he⟩:=hh
   have hb3:=zam he (fun _ h=>h)
   unfold zBM at hq
   simp only [List.mem_cons,List.not_mem_nil,or_false] at hq
   subst hq
   cases hlf
   have hs2:=zaE he.ret
   simp only [AV.valL,AV.val,D.v0,D.v1,List.map_cons,List.map_nil,List.cons.injEq,and_true] at hs2
   obtain ⟨p0,p1'⟩:=hs2
   refine ⟨_,by unfold zkv;rw [zbw,if_pos (show SB.den ρ (.lit true)=true from rfl)],rfl,hsz2,hdf2,(fun t ht=>by cases ht),fun s hs=> ?_,hb.trans (hb3.mono hb.size)⟩
   simp only [List.mem_cons,List.not_mem_nil,or_false] at hs
   rcases hs with rfl|rfl
   ·rw [p0,←g0];exact hsl0
   ·rw [p1',←g1];exact hsl1
theorem Tryz.zJb:(prog.info? 104).map (fun i=>(i.zero.isSome,i.size,i.bytes))=some (true,5,24):=by kernel_rfl
theorem Tryz.zE5:((prog.info? 104).bind (·.zero)).map (·.cells.size)=some 5:=by kernel_rfl
set_option maxRecDepth 10000 in
theorem Tryz.znQ {ρ:Val} {w0:World} {K:Nat→Prop} {b2 base:Nat} {v:Value} {p1:List Pt} {p:Pt} {f nx:SE} (hv2:ρ.v 2=v) (h9:ρ.i 9=p.at0) (h3:(u64v 3).den ρ=p.a) (h4:(u32v 4).den ρ=p.ln) (hf:f.den ρ=p.f) (hnx:nx.den ρ=p.nx)
  (hb2:b2≤w0.heap.size) (hK: ∀b,v.ownBlock=some b→K b) (hl:p1.length≤100000):zDa prog ρ w0 K (rsG none [] b2 base v p1 (p1++ [p])) (putA base f nx):=by
 intro j w F n us bb o cap vals ty hus hcells hxs hnone hbase hF hsz hfa
 have hb:n=base:=hbase (by show (1:Nat)≠0;decide)
 subst hb
 obtain ⟨_,f5,f6⟩:=hfa
 have hus:=R_val rfl hus
 have hus:us=v:=by rw [hus];exact hv2
 subst hus
 obtain ⟨x0,_,rfl,e0,hxs⟩:=hxs
 obtain ⟨x1,_,rfl,e1,hxs⟩:=hxs
 obtain ⟨x2,_,rfl,e2,hxs⟩:=hxs
 obtain ⟨x3,_,rfl,e3,hxs⟩:=hxs
 obtain ⟨x4,_,rfl,e4,hxs⟩:=hxs
 have hxs:_= []:=hxs
 subst hxs
 have e0:x0= .int .i64 p.at0:=by rw [show x0= .int .i64 (SE.den ρ (.var 9)) from e0,zay,h9]
 have e1:x1= .int .u64 p.a:=by rw [show x1= .int .u64 (SE.den ρ (u64v 3)) from e1,h3]
 have e2:x2= .int .u32 p.ln:=by rw [show x2= .int .u32 (SE.den ρ (u32v 4)) from e2,h4]
 have e3:x3= .int .u16 p.f:=by rw [show x3= .int .u16 (SE.den ρ f) from e3,hf]
 have e4:x4= .int .u16 p.nx:=by rw [show x4= .int .u16 (SE.den ρ nx) from e4,hnx]
 subst e0 e1 e2 e3 e4
 have hinfo:=zJb
 have hinfoZ:=zE5
 cases hi:prog.info? 104 with
 | none=>rw [hi] at hinfo;cases hinfo
 | some i=>
 rw [hi] at hinfo hinfoZ
 simp only [Option.map_some,Option.some.injEq,Prod.mk.injEq] at hinfo
 obtain ⟨i1,i2,i3⟩:=hinfo
 obtain ⟨z,hz⟩:=Option.isSome_iff_exists.1 i1
 simp only [Option.bind_some,hz,Option.map_some,Option.some.injEq] at hinfoZ
 obtain ⟨u,w',h1,h2,h3,h4,h5⟩:=run_append_own_at (P:=prog) w b2 100 ty 104 i z 5 24 (by kernel_rfl) hi hz i2 i3 hinfoZ (by decide) us p1.length (zcU p1) f5 ⟨bb,o,none⟩ 1 cap p.cells rfl
  (fun q y hy=>by rw [Dw.addr_add];exact hcells q y hy) (fun y hy=>by simp only [Pt.cells,List.mem_cons,List.not_mem_nil,or_false] at hy;rcases hy with rfl|rfl|rfl|rfl|rfl<;>rfl) (by unfold maxLen;omega) (by omega) (by omega)
 have hseg:zcU p1++p.cells=zcU (p1++ [p]):=by simp [zcU]
 have hown:zoA w' b2 u (p1++ [p]):=by
  unfold zoA OwnR
  rw [←hseg,List.length_append]
  exact h2
 have hub:=OwnR.lt hown
 have hub1: ∀b,u.ownBlock=some b→us.ownBlock=some b∨w.heap.size≤b:=fun b hb=>by
  rcases h5 with h5|h5
  ·exact .inl (h5▸hb)
  ·rw [hb] at h5;cases h5;exact .inr (Nat.le_refl _)
 have hmv:Dw.Mv (fun b=>us.ownBlock=some b) w w':=⟨h3.os,h3.tape,h3.output,h3.size,fun b hb hn=>h3.block b hb (fun e=>hn e.symm)⟩
 refine ⟨u,w',[u],fun b=>F b∨u.ownBlock=some b,h1,rfl,⟨⟨⟨0,0,0,some u⟩,?_,rfl⟩,OwnR.one hown,fun _ h=>(by cases h)⟩,⟨.inl rfl,u,zbo,hown,fun b hb=> .inr hb⟩,?_,hmv.mono fun b hb=>⟨f6 b hb,.inr (hK b hb)⟩⟩
 ·show jq j n _ n=_
  unfold jq
  rw [if_pos ⟨Nat.le_refl _,by simp⟩]
  simp
 ·rintro b (hb|hb)
  ·exact ⟨Nat.lt_of_lt_of_le (hF b hb) hmv.size,.inl hb⟩
  ·refine ⟨(hub b hb).2,?_⟩
   rcases hub1 b hb with h|h
   ·exact .inl (f6 b h)
   ·exact .inr h
set_option maxRecDepth 10000 in
theorem Tryz.zEG {ρ:Val} {w0:World} {K:Nat→Prop} {ia sa:Option Addr} {ids:List Int} {l:List Sg} {c cs:Nat} {v:Value} {p1:List Pt} (hn:l.length≤60000) (hil:ids.length=l.length) (hok: ∀x∈l,x.ok) (hK: ∀b,¬K b)
  (hri:ids= []∨ ∃I o,ia=some ⟨I,o,none⟩∧w0.rangeAt I o (zat ids)) (hrs:l= []∨ ∃R o,sa=some ⟨R,o,none⟩∧w0.rangeAt R o (zaP l))
  (hv0:ρ.v 0= .slice ia l.length c) (hv1:ρ.v 1= .slice sa l.length cs) (d0:(lnv 0).den ρ=l.length):
  zlv prog ρ w0 K (rsG sa l w0.heap.size 1 v p1 (za0 ids l l.length)) zf0:=by
 refine zfs ?_
 intro cc hc j a w F n hsz hdf hsl _ hnone hbase hF hs0 hf hold
 have hb:n=1:=hbase (by show (1:Nat)≠0;decide)
 subst hb
 have g0:=R_val rfl (hsl (0,idL []) (by simp [zf0])).2
 have g1:=R_val rfl (hsl (1,sl1 []) (by simp [zf0])).2
 have g9:=R_val rfl (hsl (9,.nils) (by simp [zf0])).2
 have g10:=R_val rfl (hsl (10,.int .i64 (.lit 0)) (by simp [zf0])).2
 simp only [AV.val,idL,sl1,hv0,hv1,zaf] at g0 g1 g9 g10
 have hcc:cc=zaI prog [0,0,1,0,1,1,1,1,1,1,39]:=by
  have:=zd5 (P:=prog) (p:= [0,1,0,1,1,1,1,1,1,39]) (by kernel_rfl)
  have hc:zaI prog [0,1,0,1,1,1,1,1,1,39]= .loop cc:=hc
  rw [hc] at this
  injection this
 subst hcc
 have hsz:a.tmps.size=103:=hsz
 refine zbl (fun (x:Nat×Value) a' w'=>x.1≤l.length∧a'.tmps.size=103∧a'.defers= []∧a'.tmps.getD 0 undef= .slice ia l.length c∧a'.tmps.getD 1 undef= .slice sa l.length cs∧a'.tmps.getD 9 undef=x.2∧a'.tmps.getD 10 undef= .int .i64 x.1∧Below w.heap.size w w'∧zoA w' w.heap.size x.2 (za0 ids l x.1))
  (fun x=>l.length-x.1) (fun x a1 w1 hI=> ?_) (0,.slice none 0 0) a w ⟨Nat.zero_le _,hsz,hdf,g0,g1,g9,by rw [g10];rfl,Below.refl _ _,OwnR.nil _ _ _ _⟩
 obtain ⟨k,vk⟩:=x
 obtain ⟨hkl,q0,qd,qi,qs,q9,q10,hb,hov⟩:=hI
 simp only at hkl q9 q10 hov
 have hvo:=OwnR.one hov
 have hvlt:=OwnR.lt hov
 have hwk:=zes k (by omega)
 by_cases hk:k<l.length
 ·rcases hri with h0|⟨I,o,rfl,hri⟩
  ·rw [h0] at hil;simp at hil;omega
  rcases hrs with h0|⟨R,p,rfl,hrs⟩
  ·rw [h0] at hk;simp at hk
  have hIl:=zE9 hri (k:=k) (by omega)
  have hRl:=zci hrs (by intro h0;rw [h0] at hk;simp at hk)
  have hri1:=zaJ hri ((hb.block I (by omega)).trans (hold I hIl (hK I)))
  have hrs1:=zaJ hrs ((hb.block R (by omega)).trans (hold R hRl (hK R)))
  have hx9:=zec hri1 k (by omega)
  have hxs:=zbZ hrs1 k hk
  have hxo:=hok l[k] (List.getElem_mem hk)
  have hKw: ∀b,vk.ownBlock=some b→b<w1.heap.size:=fun b hb'=>(hvlt b hb').2
  have hnI:vk.ownBlock≠some I:=fun e=>by have:=(hvlt I e).1;omega
  have hnR:vk.ownBlock≠some R:=fun e=>by have:=(hvlt R e).1;omega
  have fin: ∀ {j2:J} {base:Nat} {p2:Pt} {a2:Act} {w2:World} {ρ':Val},a2.tmps.size=103→a2.defers= []→p2=putAt ids l k→Dw.Mv (fun b=>vk.ownBlock=some b) w1 w2→
    (rsG none [] w.heap.size base vk (za0 ids l k) (za0 ids l k++ [p2])).G 2 j2 w2→([0,1,9,10].map fun t=>a2.tmps.getD t undef)= [.slice (some ⟨I,o,none⟩) l.length c,.slice (some ⟨R,p,none⟩) l.length cs,(AV.opq base none).val ρ' (lcOf j2),.int .i64 (k+1:Nat)]→
    ∃ x':Nat×Value,l.length-x'.1<l.length-k∧x'.1≤l.length∧a2.tmps.size=103∧a2.defers= []∧a2.tmps.getD 0 undef= .slice (some ⟨I,o,none⟩) l.length c∧a2.tmps.getD 1 undef= .slice (some ⟨R,p,none⟩) l.length cs∧a2.tmps.getD 9 undef=x'.2∧a2.tmps.getD 10 undef= .int .i64 x'.1∧Below w.heap.size w w2∧zoA w2 w.heap.size x'.2 (za0 ids l x'.1):=by
   intro j2 base p2 a2 w2 ρ' r1 r2 r3 r4 r5 r6
   obtain ⟨F2,_,_,u,hu,hou,_⟩:=r5
   simp only [List.map_cons,List.map_nil,List.cons.injEq,and_true] at r6
   obtain ⟨t0,t1,t9,t10⟩:=r6
   rw [zcA hu] at t9
   refine ⟨(k+1,u),by simp only;omega,hk,r1,r2,t0,t1,t9,t10,⟨r4.os.trans hb.os,r4.tape.trans hb.tape,r4.output.trans hb.output,Nat.le_trans hb.size r4.size,fun b hb'=>(r4.block b (Nat.lt_of_lt_of_le hb' hb.size) fun e=>by have:=(hvlt b e).1;omega).trans (hb.block b hb')⟩,?_⟩
   rw [zs5,←r3];exact hou
  have hat0:(putAt ids l k).at0=ids[k]:=by simp [putAt,List.getD_eq_getElem?_getD,hil,hk]
  have hsx:l.getD k ⟨0,0,false⟩=l[k]:=by simp [List.getD_eq_getElem?_getD,hk]
  have ha0:(putAt ids l k).a=l[k].at1:=by simp only [putAt,hsx]
  have hl0:(putAt ids l k).ln=l[k].len:=by simp only [putAt,hsx]
  by_cases hk1:k+1<l.length
  ·have hx10:=zec hri1 (k+1) (by omega)
   have D:=spD (n:=l.length) (k:=k) (i:=0) (e:=0) (x9:=ids[k]) (x10:=ids[k+1]) (x:=l[k]) (iv:= .slice (some ⟨I,o,none⟩) l.length c) (sv:= .slice (some ⟨R,p,none⟩) l.length cs) (ov:=vk) (by omega) (by omega) (by omega) hxo
   generalize zlb l.length k 0 0 ids[k] ids[k+1] l[k] (.slice (some ⟨I,o,none⟩) l.length c) (.slice (some ⟨R,p,none⟩) l.length cs) vk=ρ' at D
   have dk1:(SE.bin .add .i64 (lnv 1) (.lit 1)).den ρ'=((k+1:Nat):Int):=by rw [den_add,D.d1,zaf,hwk]
   have hj1:jOf [(I,o+1*k),(I,o+1*(k+1)),(R,p+3*k)] 1=some ⟨I,o+1*k,0,none⟩:=rfl
   have hj2:jOf [(I,o+1*k),(I,o+1*(k+1)),(R,p+3*k)] 2=some ⟨I,o+1*(k+1),0,none⟩:=rfl
   have hj3:jOf [(I,o+1*k),(I,o+1*(k+1)),(R,p+3*k)] 3=some ⟨R,p+3*k,0,none⟩:=rfl
   have hG:(rsG none [] w.heap.size 6 vk (za0 ids l k) (za0 ids l k++ [putAt ids l k])).G 1 (jOf [(I,o+1*k),(I,o+1*(k+1)),(R,p+3*k)]) w1:=
    ⟨fun b=>vk.ownBlock=some b,fun b hb'=>⟨hKw b hb',fun hm=>by
     have:=zcK hm
     simp only [List.map_cons,List.map_nil,List.mem_cons,List.not_mem_nil,or_false] at this
     rcases this with e|e|e<;>(subst e;contradiction)⟩,.inl rfl,hov,fun b hb'=>hb'⟩
   have hfl: ∀wr:Bool,l[k].wr=wr→(putAt ids l k).f=if wr then 3 else 1:=fun wr hwr=>by
    simp only [putAt,hsx,hwr]
    rw [if_pos hk1]
    cases wr<;>rfl
   have hnx:(SE.wrap .u16 (.var 10)).den ρ'=(putAt ids l k).nx:=by
    show IntKind.wrap .u16 (ρ'.i 10)=_
    rw [D.i10,zaS]
    simp only [putAt]
    rw [if_pos hk1]
    simp [List.getD_eq_getElem?_getD,hil,hk1]
   have hsl0:Dw.R ρ' (jOf [(I,o+1*k),(I,o+1*(k+1)),(R,p+3*k)]) (idL [(lnv 1,1),(.bin .add .i64 (lnv 1) (.lit 1),2)]) (.slice (some ⟨I,o,none⟩) l.length c):=
    ⟨D.v0.symm,_,_,_,rfl,D.d0.symm,⟨I,o,_,k,rfl,hj1,rfl,D.d1,hk,rfl⟩,⟨I,o,_,k+1,rfl,hj2,rfl,dk1,hk1,rfl⟩,trivial⟩
   have hsl1:Dw.R ρ' (jOf [(I,o+1*k),(I,o+1*(k+1)),(R,p+3*k)]) (sl1 [(lnv 1,3)]) (.slice (some ⟨R,p,none⟩) l.length cs):=⟨D.v1.symm,_,_,_,rfl,D.d0.symm,⟨R,p,_,k,rfl,hj3,rfl,D.d1,hk,rfl⟩,trivial⟩
   cases hwr:l[k].wr
   ·have hf:(SE.lit 1).den ρ'=(putAt ids l k).f:=by rw [zaf,hfl false hwr];rfl
    refine wp_mono (zax (ρ:=ρ') (K:=fun b=>vk.ownBlock=some b) (g:=rsG none [] w.heap.size 6 vk (za0 ids l k) (za0 ids l k++ [putAt ids l k])) (bl:= [(I,o+1*k),(I,o+1*(k+1)),(R,p+3*k)]) mixed zAH zED hKw
     ⟨zaQ hx9 (by simp) (zab (zac D.i9) RL.nil) hnI,zaQ hx10 (by simp) (zab (zac D.i10) RL.nil) hnI,zaQ hxs (by unfold Sg.cells;simp) (zab (zac D.d3) (zab (zac D.d4) (zab (zaO D.b0) RL.nil))) hnR,trivial⟩
     ⟨fun h=>(by cases h),fun h=>(by cases h),fun h=>(by cases h),trivial⟩ hG trivial trivial ⟨znQ D.v2 (D.i9.trans hat0.symm) (D.d3.trans ha0.symm) (D.d4.trans hl0.symm) hf hnx hb.size (fun _ h=>h) (by rw [zdz];omega),trivial⟩ q0 qd ?_
     (zaa.2 ⟨by rw [zaX,D.d0,D.d1];simp only [decide_eq_true_eq];omega,zaa.2 ⟨by rw [zaX,D.d0,dk1];simp only [decide_eq_true_eq,decide_eq_false_iff_not];omega,zaa.2 ⟨by rw [zaM,D.b0];exact hwr,zad.2 trivial⟩⟩⟩)) fun ex a2 w2 hh=> ?_
    ·intro t ht
     simp only [zdX,List.mem_cons,List.not_mem_nil,or_false] at ht
     rcases ht with rfl|rfl|rfl|rfl
     ·rw [qi];exact hsl0
     ·rw [qs];exact hsl1
     ·rw [q9];exact za5 D.v2 hvo
     ·rw [q10];exact zac D.d1
    ·obtain ⟨q,hq,hto,lf,hlf,rfl,hsz2,j2,hdf2,he⟩:=hh
     unfold zvx at hq
     simp only [List.mem_cons,List.not_mem_nil,or_false] at hq
     subst hq
     cases hlf
     have hs2:=zaE he.ret
     refine fin (base:=6) (ρ':=ρ') hsz2 hdf2 rfl he.mv he.gho ?_
     rw [hs2]
     simp only [AV.valL,D.v0,D.v1,dk1,AV.val]
   ·have hf:(SE.lit 3).den ρ'=(putAt ids l k).f:=by rw [zaf,hfl true hwr];rfl
    refine wp_mono (zax (ρ:=ρ') (K:=fun b=>vk.ownBlock=some b) (g:=rsG none [] w.heap.size 6 vk (za0 ids l k) (za0 ids l k++ [putAt ids l k])) (bl:= [(I,o+1*k),(I,o+1*(k+1)),(R,p+3*k)]) mixed zAF zEC hKw
     ⟨zaQ hx9 (by simp) (zab (zac D.i9) RL.nil) hnI,zaQ hx10 (by simp) (zab (zac D.i10) RL.nil) hnI,zaQ hxs (by unfold Sg.cells;simp) (zab (zac D.d3) (zab (zac D.d4) (zab (zaO D.b0) RL.nil))) hnR,trivial⟩
     ⟨fun h=>(by cases h),fun h=>(by cases h),fun h=>(by cases h),trivial⟩ hG trivial trivial ⟨znQ D.v2 (D.i9.trans hat0.symm) (D.d3.trans ha0.symm) (D.d4.trans hl0.symm) hf hnx hb.size (fun _ h=>h) (by rw [zdz];omega),trivial⟩ q0 qd ?_
     (zaa.2 ⟨by rw [zaX,D.d0,D.d1];simp only [decide_eq_true_eq];omega,zaa.2 ⟨by rw [zaX,D.d0,dk1];simp only [decide_eq_true_eq,decide_eq_false_iff_not];omega,zaa.2 ⟨by rw [zaM,D.b0];exact hwr,zad.2 trivial⟩⟩⟩)) fun ex a2 w2 hh=> ?_
    ·intro t ht
     simp only [zdW,List.mem_cons,List.not_mem_nil,or_false] at ht
     rcases ht with rfl|rfl|rfl|rfl
     ·rw [qi];exact hsl0
     ·rw [qs];exact hsl1
     ·rw [q9];exact za5 D.v2 hvo
     ·rw [q10];exact zac D.d1
    ·obtain ⟨q,hq,hto,lf,hlf,rfl,hsz2,j2,hdf2,he⟩:=hh
     unfold zvv at hq
     simp only [List.mem_cons,List.not_mem_nil,or_false] at hq
     subst hq
     cases hlf
     have hs2:=zaE he.ret
     refine fin (base:=6) (ρ':=ρ') hsz2 hdf2 rfl he.mv he.gho ?_
     rw [hs2]
     simp only [AV.valL,D.v0,D.v1,dk1,AV.val]
  ·have D:=spD (n:=l.length) (k:=k) (i:=0) (e:=0) (x9:=ids[k]) (x10:=0) (x:=l[k]) (iv:= .slice (some ⟨I,o,none⟩) l.length c) (sv:= .slice (some ⟨R,p,none⟩) l.length cs) (ov:=vk) (by omega) (by omega) (by omega) hxo
   generalize zlb l.length k 0 0 ids[k] 0 l[k] (.slice (some ⟨I,o,none⟩) l.length c) (.slice (some ⟨R,p,none⟩) l.length cs) vk=ρ' at D
   have dk1:(SE.bin .add .i64 (lnv 1) (.lit 1)).den ρ'=((k+1:Nat):Int):=by rw [den_add,D.d1,zaf,hwk]
   have hj1:jOf [(I,o+1*k),(R,p+3*k)] 1=some ⟨I,o+1*k,0,none⟩:=rfl
   have hj3:jOf [(I,o+1*k),(R,p+3*k)] 2=some ⟨R,p+3*k,0,none⟩:=rfl
   have hG:(rsG none [] w.heap.size 5 vk (za0 ids l k) (za0 ids l k++ [putAt ids l k])).G 1 (jOf [(I,o+1*k),(R,p+3*k)]) w1:=
    ⟨fun b=>vk.ownBlock=some b,fun b hb'=>⟨hKw b hb',fun hm=>by
     have:=zcK hm
     simp only [List.map_cons,List.map_nil,List.mem_cons,List.not_mem_nil,or_false] at this
     rcases this with e|e<;>(subst e;contradiction)⟩,.inl rfl,hov,fun b hb'=>hb'⟩
   have hfl: ∀wr:Bool,l[k].wr=wr→(putAt ids l k).f=if wr then 2 else 0:=fun wr hwr=>by
    simp only [putAt,hsx,hwr]
    rw [if_neg hk1]
    cases wr<;>rfl
   have hnx:(SE.lit 0).den ρ'=(putAt ids l k).nx:=by
    simp only [putAt]
    rw [if_neg hk1];rfl
   have hsl0:Dw.R ρ' (jOf [(I,o+1*k),(R,p+3*k)]) (idL [(lnv 1,1)]) (.slice (some ⟨I,o,none⟩) l.length c):=
    ⟨D.v0.symm,_,_,_,rfl,D.d0.symm,⟨I,o,_,k,rfl,hj1,rfl,D.d1,hk,rfl⟩,trivial⟩
   have hsl1:Dw.R ρ' (jOf [(I,o+1*k),(R,p+3*k)]) (sl1 [(lnv 1,2)]) (.slice (some ⟨R,p,none⟩) l.length cs):=⟨D.v1.symm,_,_,_,rfl,D.d0.symm,⟨R,p,_,k,rfl,hj3,rfl,D.d1,hk,rfl⟩,trivial⟩
   cases hwr:l[k].wr
   ·have hf:(SE.lit 0).den ρ'=(putAt ids l k).f:=by rw [zaf,hfl false hwr];rfl
    refine wp_mono (zax (ρ:=ρ') (K:=fun b=>vk.ownBlock=some b) (g:=rsG none [] w.heap.size 5 vk (za0 ids l k) (za0 ids l k++ [putAt ids l k])) (bl:= [(I,o+1*k),(R,p+3*k)]) mixed zAB zEz hKw
     ⟨zaQ hx9 (by simp) (zab (zac D.i9) RL.nil) hnI,zaQ hxs (by unfold Sg.cells;simp) (zab (zac D.d3) (zab (zac D.d4) (zab (zaO D.b0) RL.nil))) hnR,trivial⟩
     ⟨fun h=>(by cases h),fun h=>(by cases h),trivial⟩ hG trivial trivial ⟨znQ D.v2 (D.i9.trans hat0.symm) (D.d3.trans ha0.symm) (D.d4.trans hl0.symm) hf hnx hb.size (fun _ h=>h) (by rw [zdz];omega),trivial⟩ q0 qd ?_
     (zaa.2 ⟨by rw [zaX,D.d0,D.d1];simp only [decide_eq_true_eq];omega,zaa.2 ⟨by rw [zaX,D.d0,dk1];simp only [decide_eq_true_eq,decide_eq_false_iff_not];omega,zaa.2 ⟨by rw [zaM,D.b0];exact hwr,zad.2 trivial⟩⟩⟩)) fun ex a2 w2 hh=> ?_
    ·intro t ht
     simp only [zdV,List.mem_cons,List.not_mem_nil,or_false] at ht
     rcases ht with rfl|rfl|rfl|rfl
     ·rw [qi];exact hsl0
     ·rw [qs];exact hsl1
     ·rw [q9];exact za5 D.v2 hvo
     ·rw [q10];exact zac D.d1
    ·obtain ⟨q,hq,hto,lf,hlf,rfl,hsz2,j2,hdf2,he⟩:=hh
     unfold zvr at hq
     simp only [List.mem_cons,List.not_mem_nil,or_false] at hq
     subst hq
     cases hlf
     have hs2:=zaE he.ret
     refine fin (base:=5) (ρ':=ρ') hsz2 hdf2 rfl he.mv he.gho ?_
     rw [hs2]
     simp only [AV.valL,D.v0,D.v1,dk1,AV.val]
   ·have hf:(SE.lit 2).den ρ'=(putAt ids l k).f:=by rw [zaf,hfl true hwr];rfl
    refine wp_mono (zax (ρ:=ρ') (K:=fun b=>vk.ownBlock=some b) (g:=rsG none [] w.heap.size 5 vk (za0 ids l k) (za0 ids l k++ [putAt ids l k])) (bl:= [(I,o+1*k),(R,p+3*k)]) mixed zAz zEy hKw
     ⟨zaQ hx9 (by simp) (zab (zac D.i9) RL.nil) hnI,zaQ hxs (by unfold Sg.cells;simp) (zab (zac D.d3) (zab (zac D.d4) (zab (zaO D.b0) RL.nil))) hnR,trivial⟩
     ⟨fun h=>(by cases h),fun h=>(by cases h),trivial⟩ hG trivial trivial ⟨znQ D.v2 (D.i9.trans hat0.symm) (D.d3.trans ha0.symm) (D.d4.trans hl0.symm) hf hnx hb.size (fun _ h=>h) (by rw [zdz];omega),trivial⟩ q0 qd ?_
     (zaa.2 ⟨by rw [zaX,D.d0,D.d1];simp only [decide_eq_true_eq];omega,zaa.2 ⟨by rw [zaX,D.d0,dk1];simp only [decide_eq_true_eq,decide_eq_false_iff_not];omega,zaa.2 ⟨by rw [zaM,D.b0];exact hwr,zad.2 trivial⟩⟩⟩)) fun ex a2 w2 hh=> ?_
    ·intro t ht
     simp only [zdU,List.mem_cons,List.not_mem_nil,or_false] at ht
     rcases ht with rfl|rfl|rfl|rfl
     ·rw [qi];exact hsl0
     ·rw [qs];exact hsl1
     ·rw [q9];exact za5 D.v2 hvo
     ·rw [q10];exact zac D.d1
    ·obtain ⟨q,hq,hto,lf,hlf,rfl,hsz2,j2,hdf2,he⟩:=hh
     unfold zvp at hq
     simp only [List.mem_cons,List.not_mem_nil,or_false] at hq
     subst hq
     cases hlf
     have hs2:=zaE he.ret
     refine fin (base:=5) (ρ':=ρ') hsz2 hdf2 rfl he.mv he.gho ?_
     rw [hs2]
     simp only [AV.valL,D.v0,D.v1,dk1,AV.val]
 ·have hkk:k=l.length:=by omega
  subst hkk
  have D:=spD (n:=l.length) (k:=l.length) (i:=0) (e:=0) (x9:=0) (x10:=0) (x:=⟨0,1,false⟩) (iv:= .slice ia l.length c) (sv:= .slice sa l.length cs) (ov:=vk) (by omega) (by omega) (by omega) zs8
  generalize zlb l.length l.length 0 0 0 0 ⟨0,1,false⟩ (.slice ia l.length c) (.slice sa l.length cs) vk=ρ' at D
  refine wp_mono (zax (ρ:=ρ') (K:=fun _=>False) (g:=Gho.none) (bl:= []) mixed zEA zIz (fun b h=>h.elim) trivial trivial zaB trivial trivial trivial q0 qd ?_ (zaa.2 ⟨by rw [zaX,D.d0,D.d1];simp,zad.2 trivial⟩)) fun ex a2 w2 hh=> ?_
  ·intro t ht
   simp only [zfn,List.mem_cons,List.not_mem_nil,or_false] at ht
   rcases ht with rfl|rfl|rfl|rfl
   ·rw [qi];exact zFa D.v0 D.d0
   ·rw [qs];exact ⟨D.v1.symm,_,_,_,rfl,D.d0.symm,trivial⟩
   ·rw [q9];exact za5 D.v2 hvo
   ·rw [q10];exact zac D.d1
  ·obtain ⟨q,hq,hto,lf,hlf,rfl,hsz2,j2,hdf2,he⟩:=hh
   have hb3:=zam he (fun _ h=>h)
   unfold zAD at hq
   simp only [List.mem_cons,List.not_mem_nil,or_false] at hq
   subst hq
   cases hlf
   have hs2:=zaE he.ret
   simp only [AV.valL,AV.val,D.v2,List.map_cons,List.map_nil,List.cons.injEq,and_true] at hs2
   have hov2:zoA w2 w.heap.size vk (za0 ids l l.length):=OwnR.kept hov fun b e=>hb3.block b (hvlt b e).2
   have hlt2:=OwnR.lt hov2
   refine ⟨⟨.lit true,.exit 4,[(9,.opq 1 none)],2⟩,[vk],fun b=>F b∨vk.ownBlock=some b,by unfold zf0;rw [zbw,if_pos (show SB.den ρ (.lit true)=true from rfl)],rfl,hsz2,hdf2,(fun t ht=>by cases ht),rfl,fun s hs=> ?_,⟨?_,vk,zbo,OwnR.mono hov2 hs0,fun b hb'=> .inr hb'⟩,?_,Dw.Mv.of_below (hb.trans (hb3.mono hb.size))⟩
   ·simp only [List.mem_cons,List.not_mem_nil,or_false] at hs
    subst hs
    rw [hs2]
    refine ⟨⟨⟨0,0,0,some vk⟩,?_,rfl⟩,hvo,fun _ h=>(by cases h)⟩
    show jq j 1 _ 1=_
    unfold jq
    rw [if_pos ⟨Nat.le_refl _,by simp⟩]
    simp
   ·rcases hf.1 with h0|⟨R,o,e,hFR,hr⟩
    ·exact .inl h0
    ·exact .inr ⟨R,o,e,.inl hFR,zaJ hr ((hb3.block R (Nat.lt_of_lt_of_le (hF R hFR) hb.size)).trans (hb.block R (hF R hFR)))⟩
   ·rintro b (h|h)
    ·exact ⟨Nat.lt_of_lt_of_le (hF b h) (Nat.le_trans hb.size hb3.size),.inl h⟩
    ·exact ⟨(hlt2 b h).2,.inr (hlt2 b h).1⟩
def Tryz.za9 (l:List Sg):Int:=if zaZ l=0∧l.length=0 then 2 else zaZ l
theorem Tryz.zte {A:Nat→Prop} {w:World} {v:Value} {l:List Sg} (h:SegV A w v l) (hl:l.length≤60000):
  Calls prog 50 #[v] w fun e w'=>e= .returned (.int .i64 (za9 l))∧Below w.heap.size w w':=by
 have h0:=h
 obtain ⟨sa,c,rfl,hok,hr⟩:=h
 obtain ⟨F0,hF0,hF1⟩:=zb7 h0
 have D:=spD (n:=l.length) (k:=0) (i:=0) (e:=zaZ l) (x9:=0) (x10:=0) (x:=⟨0,1,false⟩) (iv:=undef) (sv:= .slice sa l.length c) (ov:=undef) (by omega) (by omega) (by omega) zs8
 generalize zlb l.length 0 0 (zaZ l) 0 0 ⟨0,1,false⟩ undef (.slice sa l.length c) undef=ρ at D
 refine Calls.mono (zav (ρ:=ρ) (K:=fun _=>False) (g:=segG sa l) (bl:= []) (vals:= [.slice sa l.length c]) mixed zIq zKH (fun b h=>h.elim) trivial trivial ⟨F0,hF0,hF1⟩
  ⟨zas (Dw.enters_of (by kernel_rfl)) (by decide) [.slice sa l.length c] (.int .i64 (zaZ l)) (fun j=>zab (zil D.v1 D.d0) RL.nil) (fun j=>zac D.i7) fun w F q h=>zEa (SegF.v h hok c),trivial⟩ (zab (zil D.v1 D.d0) RL.nil) (zad.2 trivial)) fun e w' hh=> ?_
 obtain ⟨p,hpm,hto,lf,hlf,j,he⟩:=hh
 have hb:=zam he (fun _ h=>h)
 unfold zGp at hpm
 simp only [List.mem_cons,List.not_mem_nil,or_false] at hpm
 unfold za9
 rcases hpm with rfl|rfl|rfl
 all_goals
  simp only [zaa,zad,zbW,zay,zaf,D.i7,D.d0,beq_iff_eq,beq_eq_false_iff_ne,ne_eq,and_true] at hto
  cases hlf
 ·rw [if_pos ⟨hto.1,by omega⟩];exact ⟨he.ret,hb⟩
 ·rw [if_neg (by omega)];exact ⟨he.ret.trans (by simp only [AV.val,zay,D.i7]),hb⟩
 ·rw [if_neg (fun h=>hto h.1)];exact ⟨he.ret.trans (by simp only [AV.val,zay,D.i7]),hb⟩
theorem Tryz.zxC {A:Nat→Prop} {w:World} {ia:Option Addr} {c:Nat} {v:Value} {ids:List Int} {l:List Sg} (h:SegV A w v l) (hl:l.length≤60000) (hil:ids.length=l.length) (hnd:ids.Nodup) (hin: ∀x∈ids,0≤x∧x<32768)
  (hri:ids= []∨ ∃I o,ia=some ⟨I,o,none⟩∧w.rangeAt I o (zat ids)):
  Calls prog 39 #[.slice ia ids.length c,v] w fun e w'=>Below w.heap.size w w'∧((za9 l=0∧ ∃u,e= .returned (.tuple #[u,.int .i64 0])∧zoA w' w.heap.size u (za0 ids l l.length))∨(za9 l≠0∧e= .returned (.tuple #[.slice none 0 0,.int .i64 (za9 l)]))):=by
 have h0:=h
 obtain ⟨sa,cs,rfl,hok,hr⟩:=h
 have hrs:l= []∨ ∃R o,sa=some ⟨R,o,none⟩∧w.rangeAt R o (zaP l):=hr.imp_right fun ⟨R,o,e,_,h⟩=>⟨R,o,e,h⟩
 have D:=spD (n:=l.length) (k:=0) (i:=0) (e:=za9 l) (x9:=0) (x10:=0) (x:=⟨0,1,false⟩) (iv:= .slice ia l.length c) (sv:= .slice sa l.length cs) (ov:=undef) (by omega) (by omega) (by omega) zs8
 generalize zlb l.length 0 0 (za9 l) 0 0 ⟨0,1,false⟩ (.slice ia l.length c) (.slice sa l.length cs) undef=ρ at D
 have hargs:RL ρ (jOf []) [idL [],sl1 []] [.slice ia ids.length c,.slice sa l.length cs]:=zab (hil▸zFa D.v0 D.d0) (zab (zil D.v1 D.d0) RL.nil)
 by_cases hm:za9 l=0
 ·obtain ⟨F0,hF0,hF1⟩:=zb7 h0
  have hmE:za3 prog ρ w (fun _=>False) (rsG sa l w.heap.size 1 undef [] (za0 ids l l.length)) mayE:=by
   exact zas (Dw.enters_of (by kernel_rfl)) (by decide) [.slice sa l.length cs] (.int .i64 (za9 l)) (fun j=>zab (zil D.v1 D.d0) RL.nil) (fun j=>zac D.i7) fun w F q h=>zte (SegF.v h.1 hok cs) hl
  refine Calls.mono (zdA (ρ:=ρ) (K:=fun _=>False) (g:=rsG sa l w.heap.size 1 undef [] (za0 ids l l.length)) (bl:= []) (vals:= [.slice ia ids.length c,.slice sa l.length cs]) mixed zD6 zIi (fun b h=>h.elim) trivial trivial ⟨F0,hF0,hF1,trivial⟩
   ⟨hmE,trivial⟩ ⟨zJg (by omega) hnd (fun _ h=>h) hri hin (hil▸D.v0) (hil▸D.v1) (hil▸D.d0),zEG hl hil hok (fun _ h=>h) hri hrs D.v0 D.v1 D.d0,trivial⟩ trivial hargs
   (zaa.2 ⟨by rw [zbs,zay,zaf,D.i7,hm];rfl,zad.2 trivial⟩)) fun e w' hh=> ?_
  obtain ⟨p,hpm,hto,lf,hlf,j,he⟩:=hh
  have hb:=zam he (fun _ h=>h)
  unfold zz8 at hpm
  simp only [List.mem_cons,List.not_mem_nil,or_false] at hpm
  subst hpm
  cases hlf
  obtain ⟨F2,_,_,u,hu,hou,_⟩:=he.gho
  refine ⟨hb,.inl ⟨hm,u,he.ret.trans ?_,hou⟩⟩
  show Ending.returned (.tuple #[(AV.opq 1 none).val ρ (lcOf j),.int .i64 0])=_
  rw [zcA hu]
 ·obtain ⟨F0,hF0,hF1⟩:=zb7 h0
  have hmE:za3 prog ρ w (fun _=>False) (segG sa l) mayE:=by
   exact zas (Dw.enters_of (by kernel_rfl)) (by decide) [.slice sa l.length cs] (.int .i64 (za9 l)) (fun j=>zab (zil D.v1 D.d0) RL.nil) (fun j=>zac D.i7) fun w F q h=>zte (SegF.v h hok cs) hl
  refine Calls.mono (zav (ρ:=ρ) (K:=fun _=>False) (g:=segG sa l) (bl:= []) (vals:= [.slice ia ids.length c,.slice sa l.length cs]) mixed zAa zD9 (fun b h=>h.elim) trivial trivial ⟨F0,hF0,hF1⟩ ⟨hmE,trivial⟩ hargs
   (zaa.2 ⟨by rw [zbs,zay,zaf,D.i7];simpa using hm,zad.2 trivial⟩)) fun e w' hh=> ?_
  obtain ⟨_,j,he⟩:=zbd hh
  have hb:=zam he (fun _ h=>h)
  exact ⟨hb,.inr ⟨hm,he.ret.trans (by simp only [AV.val,AV.valL,zay,D.i7])⟩⟩
def Tryz.bytesOf (v:Int) (n:Nat):List Int:=(List.range n).map fun i=>v/2^(8*i)%256
theorem Tryz.zsf (v:Int) (n:Nat):bytesOf v (n+1)=bytesOf v n++ [v/2^(8*n)%256]:=by simp [bytesOf,List.range_succ]
theorem Tryz.zbD (v:Int) (n:Nat):(bytesOf v n).length=n:=by simp [bytesOf]
theorem Tryz.ztR (v:Int) (n:Nat): ∀x∈bytesOf v n,0≤x∧x<256:=fun x hx=>by
 obtain ⟨i,_,rfl⟩:=List.mem_map.1 hx
 exact ⟨Int.emod_nonneg _ (by decide),Int.emod_lt_of_pos _ (by decide)⟩
def Tryz.zby (xs:List Int):List Value:=xs.map fun x=> .int .u8 x
theorem Tryz.zKZ:(prog.info? 5).map (fun i=>(i.zero,i.size,i.bytes))=some (some (.int .u8 0),1,1):=by kernel_rfl
set_option maxRecDepth 100000 in
theorem Tryz.zEb {w:World} {b2:Nat} {b:Value} {xs:List Int} {v:Int} {n:Nat} (h:OwnR 5 1 w b2 b xs.length (zby xs)) (hb2:b2≤w.heap.size) (hn:n≤8) (hx:xs.length≤10000):
    Calls prog 77 #[b,.int .u64 v,.int .i64 n] w fun e w'=> ∃u,e= .returned u∧OwnR 5 1 w' b2 u (xs++bytesOf v n).length (zby (xs++bytesOf v n))∧Below b2 w w'∧Dw.Mv (fun y=>b.ownBlock=some y) w w'∧(∀y,u.ownBlock=some y→b.ownBlock=some y∨w.heap.size≤y):=by
  have hinfo:=zKZ
  cases hi:prog.info? 5 with
  | none=>rw [hi] at hinfo;cases hinfo
  | some i=>
  rw [hi] at hinfo
  simp only [Option.map_some,Option.some.injEq,Prod.mk.injEq] at hinfo
  obtain ⟨i1,i2,i3⟩:=hinfo
  go_enter func77,ntmps77
  go_wp2
  go_loopw [0,7] (fun c k wr=> ∃(q:Nat) (cv:Value),cv=c∧q≤n∧k= .int .i64 q∧OwnR 5 1 wr b2 cv (xs++bytesOf v q).length (zby (xs++bytesOf v q))∧Below b2 w wr∧Dw.Mv (fun y=>b.ownBlock=some y) w wr∧(∀y,cv.ownBlock=some y→b.ownBlock=some y∨w.heap.size≤y)) (fun _ k _=>n-(RowKit.intOf k).toNat)
  case atStart=>exact ⟨0,_,rfl,Nat.zero_le _,rfl,by simpa [bytesOf] using h,Below.refl _ _,Dw.Mv.refl _ _,fun y hy=> .inl hy⟩
  case round=>
    obtain ⟨q,cv,hcv,hq,rfl,ho,hb,hm,hown⟩:=hrel
    subst hcv
    by_cases hqn:q<n
    · have hw8:=wrap_u8 (v/2^(8*q))
      have hsz:=hb.size
      have hol:=OwnR.lt ho
      have ho2: ∀t,(wr.alloc (.cells #[.int .u8 (v/2^(8*q)%256)] t)).ownsRow b2 5 1 cv (xs++bytesOf v q).length (zby (xs++bytesOf v q)):=fun t=>OwnR.kept ho fun b e=>(MapKept.heap_alloc _ _).2 _ (hol b e).2
      have hnew: ∀t j u,([Value.int .u8 (v/2^(8*q)%256)]:List Value)[j]? =some u→(wr.alloc (.cells #[.int .u8 (v/2^(8*q)%256)] t)).cell? ((⟨wr.heap.size,0,none⟩:Addr).add j)=some u:=fun t j u hu=>by
        rw [Dw.addr_add]
        exact (Cl.new wr #[.int .u8 (v/2^(8*q)%256)] t).cell (0+j) u (by rw [Nat.zero_add];exact hu)
      have hlen:(xs++bytesOf v q).length≤10010:=by rw [List.length_append,zbD];omega
      go_wp2_with (first
        | (at_builtin;go_loud (refine wpList_append_own_at _ rfl _ _ 77 rfl b2 5 i _ 1 1 (by kernel_rfl) hi i1 i2 i3 rfl (by decide) cv _ (zby (xs++bytesOf v q)) rfl (ho2 _) ⟨wr.heap.size,0,none⟩ 1 1 [.int .u8 (v/2^(8*q)%256)] rfl rfl (hnew _) (by intro y hy;rw [List.mem_singleton] at hy;subst hy;rfl) (by unfold maxLen;omega) (by omega) (by simp;omega) ?_);intro u w' h2 h3 h4 h5;go_frame)
        | go_in)
      refine ⟨⟨q+1,u,rfl,by omega,by push_cast;rfl,?_,?_,?_,?_⟩,by simp only [RowKit.intOf];omega⟩
      · have e1:xs++bytesOf v (q+1)=(xs++bytesOf v q)++ [v/2^(8*q)%256]:=by rw [zsf,List.append_assoc]
        have e2:zby (xs++bytesOf v (q+1))=zby (xs++bytesOf v q)++ [.int .u8 (v/2^(8*q)%256)]:=by rw [e1];simp [zby]
        rw [e2,e1,List.length_append]
        exact h2
      · have hsz2:=h3.size
        simp only [zbr] at hsz2
        exact ⟨h3.os.trans hb.os,h3.tape.trans hb.tape,h3.output.trans hb.output,by omega,fun y hy=>(h3.block y (by simp only [zbr];omega) (fun e=>by have:=(hol y e.symm).1;omega)).trans (((MapKept.heap_alloc _ _).2 y (by omega)).trans (hb.block y hy))⟩
      · have hsz2:=h3.size
        simp only [zbr] at hsz2
        have hms:=hm.size
        exact ⟨h3.os.trans hm.os,h3.tape.trans hm.tape,h3.output.trans hm.output,by omega,fun y hy hn=>(h3.block y (by simp only [zbr];omega) (fun e=>by
          rcases hown y e.symm with h|h
          · exact hn h
          · omega)).trans (((MapKept.heap_alloc _ _).2 y (by omega)).trans (hm.block y hy hn))⟩
      · intro y hy
        have hms:=hm.size
        rcases h5 with h5|h5
        · exact hown y (h5▸hy)
        · rw [hy] at h5;cases h5;right;simp only [zbr];omega
    · have hqq:q=n:=by omega
      subst hqq
      go_wp2
      go_ret
      exact ⟨_,rfl,ho,hb,hm,hown⟩
def Tryz.rbE (k:Nat) (s:AV) (e:SE) (n:Int):Ent:=⟨77,[s,.int .u64 e,.int .i64 (.lit n)],k,k+2,1,.opq (k+2) none,k+1⟩
def Tryz.zKK:List Ent:= [rbE 0 .nils (u64v 3) 8,rbE 1 (.opq 2 none) (u32v 4) 4,rbE 2 (.opq 3 none) (u16v 5) 2,rbE 3 (.opq 4 none) (u16v 6) 2]
def Tryz.rbG (b2:Nat) (L:Nat→List Int):Gho where
 fact k q F w:=match k with|0=>True|k+1=> ∃u,q (k+2)=some u∧OwnR 5 1 w b2 u (L (k+1)).length (zby (L (k+1)))∧ ∀b,u.ownBlock=some b→F b
 loc:=fun k q q' F w w' h hq hb hs=>by
  match k,h with
  | 0,_=>trivial
  | k+1,⟨u,h7,h8,h9⟩=>exact ⟨u,hq _ _ h7,OwnR.kept h8 fun b e=>hb b (h9 b e),h9⟩
end Go.Proofs
namespace Go.Proofs
open Go.Dw
def Tryz.zvm:List Ent:=zKK
def Tryz.zAx:List Sh:= []
def Tryz.zvn:List AV:= [.agg [.int .u64 (u64v 3),.int .u32 (u32v 4),.int .u16 (u16v 5),.int .u16 (u16v 6)]]
def Tryz.zIy:List (SB×Bool):= []
def Tryz.zGr:List Leaf:= [
 ⟨.opq 5 none,[],[],4,[]⟩]
def Tryz.zKI:List (List (SB×Bool)×Nat):= [
 ([], 0)]
theorem Tryz.zIx:(ev prog (zau zvm) 100000 (.call 37 zvn (zar 0 zAx) (zaK zGr 0))).ways zIy=some zKI:=by kernel_rfl
theorem Tryz.zKJ:(zah zAx&&zae zvm&&AV.smallL zvn&&zaj zGr)=true:=by kernel_rfl
open Go.RowKit Go.Maps Go.Sort
theorem Tryz.zvo {ρ:Val} {w0:World} {K:Nat→Prop} {L:Nat→List Int} {k n:Nat} {s:AV} {e:SE} (hs:(k=0∧s= .nils)∨(0<k∧s= .opq (k+1) none)) (h0:L 0= []) (hL:L (k+1)=L k++bytesOf (e.den ρ) n) (hn:n≤8) (hl:(L k).length≤10000):
  za3 prog ρ w0 K (rbG w0.heap.size L) (rbE k s e n):=by
 refine ⟨Dw.enters_of (by kernel_rfl),fun j w1 vals F m hv hnone hb hF hsz hf _=> ?_⟩
 have hb:m=k+2:=hb (by show (1:Nat)≠0;decide)
 subst hb
 obtain ⟨us,_,rfl,hus,hv⟩:=hv
 obtain ⟨x1,_,rfl,e1,hv⟩:=hv
 obtain ⟨x2,_,rfl,e2,hv⟩:=hv
 have hv:_= []:=hv
 subst hv
 have e1:x1= .int .u64 (e.den ρ):=e1
 have e2:x2= .int .i64 (n:Int):=e2
 subst e1 e2
 have hown:OwnR 5 1 w1 w0.heap.size us (L k).length (zby (L k))∧ ∀b,us.ownBlock=some b→F b:=by
  rcases hs with ⟨rfl,rfl⟩|⟨hk,rfl⟩
  ·have:us= .slice none 0 0:=hus
   subst this
   rw [h0]
   exact ⟨OwnR.nil _ _ _ _,fun b h=>by cases h⟩
  ·obtain ⟨k',rfl⟩: ∃k',k=k'+1:=⟨k-1,by omega⟩
   obtain ⟨u,hq,ho,hF'⟩:=hf
   have:us=u:=by
    obtain ⟨⟨Lq,hj,hu⟩,_⟩:=hus
    unfold opqs at hq
    rw [hj] at hq
    simp only [Option.bind_some] at hq
    rw [hu] at hq
    injection hq
   subst this
   exact ⟨ho,hF'⟩
 obtain ⟨hown,hFo⟩:=hown
 refine Calls.mono (zEb (v:=e.den ρ) hown hsz hn hl) fun en w' hh=> ?_
 obtain ⟨u,rfl,hu,hbl,hmv,hou⟩:=hh
 rw [←hL] at hu
 refine ⟨_,[u],fun b=>F b∨u.ownBlock=some b,rfl,rfl,⟨⟨⟨0,0,0,some u⟩,?_,rfl⟩,OwnR.one hu,fun _ h=>(by cases h)⟩,⟨u,zbo,hu,fun b hb=> .inr hb⟩,?_,hmv.mono fun b hb=>⟨hFo b hb,.inl (OwnR.lt hown b hb).1⟩⟩
 ·show jq j (k+2) _ (k+2)=_
  unfold jq
  rw [if_pos ⟨Nat.le_refl _,by simp⟩]
  simp
 ·rintro b (hb|hb)
  ·exact ⟨Nat.lt_of_lt_of_le (hF b hb) hmv.size,.inl hb⟩
  ·refine ⟨(OwnR.lt hu b hb).2,?_⟩
   rcases hou b hb with h|h
   ·exact .inl (hFo b h)
   ·exact .inr h
def Tryz.Pt.bytes (p:Pt):List Int:=bytesOf p.a 8++bytesOf p.ln 4++bytesOf p.f 2++bytesOf p.nx 2
theorem Tryz.Pt.bytes_len (p:Pt):p.bytes.length=16:=by simp [Pt.bytes,zbD]
theorem Tryz.Pt.bytes_bnd (p:Pt): ∀x∈p.bytes,0≤x∧x<256:=fun x hx=>by
 unfold Pt.bytes at hx
 rw [List.mem_append,List.mem_append,List.mem_append] at hx
 rcases hx with ((h|h)|h)|h<;>exact ztR _ _ x h
structure Tryz.Pt.ok (p:Pt):Prop where
 a:0≤p.a∧p.a<18446744073709551616
 ln:0≤p.ln∧p.ln<4294967296
 f:0≤p.f∧p.f<65536
 nx:0≤p.nx∧p.nx<65536
theorem Tryz.zxJ (p:Pt) (hp:p.ok) (w:World):
  Calls prog 37 #[.agg #[.int .u64 p.a,.int .u32 p.ln,.int .u16 p.f,.int .u16 p.nx]] w fun e w'=> ∃u,e= .returned u∧OwnR 5 1 w' w.heap.size u p.bytes.length (zby p.bytes)∧Below w.heap.size w w':=by
 obtain ⟨ρ,d3,d4,d5,d6⟩: ∃ρ:Val,(u64v 3).den ρ=p.a∧(u32v 4).den ρ=p.ln∧(u16v 5).den ρ=p.f∧(u16v 6).den ρ=p.nx:=
  ⟨vof [0,0,0,p.a,p.ln,p.f,p.nx] [] [],zaH hp.a.1 hp.a.2,zbL hp.ln.1 hp.ln.2,zbj hp.f.1 hp.f.2,zbj hp.nx.1 hp.nx.2⟩
 let L:Nat→List Int:=fun k=>match k with
  | 0=> []|1=>bytesOf p.a 8|2=>bytesOf p.a 8++bytesOf p.ln 4|3=>bytesOf p.a 8++bytesOf p.ln 4++bytesOf p.f 2|_=>p.bytes
 have l1:(L 1).length=8:=by simp [L,zbD]
 have l2:(L 2).length=12:=by simp [L,zbD]
 have l3:(L 3).length=14:=by simp [L,zbD]
 refine Calls.mono (zav (ρ:=ρ) (K:=fun _=>False) (g:=rbG w.heap.size L) (bl:= []) (vals:= [.agg #[.int .u64 p.a,.int .u32 p.ln,.int .u16 p.f,.int .u16 p.nx]]) mixed zIx zKJ (fun b h=>h.elim) trivial trivial ⟨fun _=>False,fun _ h=>h.elim,trivial⟩
  ⟨zvo (n:=8) (.inl ⟨rfl,rfl⟩) rfl (by rw [d3];rfl) (by decide) (Nat.zero_le _),zvo (n:=4) (.inr ⟨by decide,rfl⟩) rfl (by rw [d4];rfl) (by decide) (by omega),zvo (n:=2) (.inr ⟨by decide,rfl⟩) rfl (by rw [d5];rfl) (by decide) (by omega),zvo (n:=2) (.inr ⟨by decide,rfl⟩) rfl (by rw [d6];rfl) (by decide) (by omega),trivial⟩
  (zab (zlu (zab (zac d3) (zab (zac d4) (zab (zac d5) (zab (zac d6) RL.nil))))) RL.nil) (zad.2 trivial)) fun e w' hh=> ?_
 obtain ⟨_,j,he⟩:=zbd hh
 have hb:=zam he (fun _ h=>h)
 obtain ⟨F2,_,u,hu,hou,_⟩:=he.gho
 exact ⟨u,he.ret.trans (by rw [zcA hu]),hou,hb⟩
end Go.Proofs
namespace Go.Proofs
open Go.Dw Go.RowKit
def Tryz.ofIds (l:List (SE×Nat)):AV:= .sx 3 (lnv 4) 1 l
def Tryz.zcG:AV:= .sx 1 (lnv 4) 3 []
def Tryz.zfM:List AV:= [.bool (.lit false),.int .i64 (szv 0),.int .u64 (u64v 1),.int .u64 (u64v 2),.int .u64 (u64v 3)]
def Tryz.znW (ids:AV) (q:Nat):Ent:=⟨39,[ids,zcG],0,q,1,.tup [.opq q none,.int .i64 (.var 7)],1⟩
def Tryz.zAW:Ent:=⟨7,[.int .i64 (.var 5),.int .i64 (szv 0)],2,0,0,.int .i64 (.var 14),2⟩
def Tryz.zAV:Ent:=⟨20,[rg,.int .i64 (.lit 4),.int .i64 (.var 14)],2,0,0,.tup [.int .u64 (.var 15),.int .i64 (.lit 2),.int .i64 (.lit 0)],2⟩
def Tryz.zGu:Ent:=⟨20,[rg,.int .i64 (.lit 3),.int .i64 (.lit 0)],2,0,0,.tup [.int .u64 (.var 16),.int .i64 (.lit 2),.int .i64 (.lit 0)],2⟩
def Tryz.znV (k:Nat) (a v:SE):Ent:=⟨26,[.cst 0 none,.int .u64 a,.int .i64 (.lit 2),.int .u64 v],k,0,0,.int .i64 (.lit 0),k+1⟩
def Tryz.zcB (b:Nat) (ids p i:AV):List (Nat×AV):= [(0,.cst 0 none),(2,ids),(4,.int .i64 (.var 5)),(6,.ptr b 0),(11,p),(12,.int .i64 (.var 7)),(13,i)]
def Tryz.zet (b q:Nat) (ids:AV):LEnt:=⟨[0,1,0,1,1,12],87,1,zcB b ids (.opq q none) (.int .i64 (.lit 0)),[],[(b,zfM)],0,0,[⟨.lit true,.exit 0,[(0,.cst 0 none),(2,ids),(4,.int .i64 (.var 5)),(6,.ptr b 0),(12,.int .i64 (.var 7))],2⟩]⟩
def Tryz.ofBytesE:Ent:=⟨37,[.agg [.int .u64 (u64v 10),.int .u32 (u32v 11),.int .u16 (u16v 12),.int .u16 (u16v 13)]],0,3,1,.opq 3 none,1⟩
def Tryz.zEQ:Ent:=⟨52,[.cst 0 none,.int .u64 (.bin .add .u64 (u64v 1) (.bin .mul .u64 (.lit 16) (.wrap .u64 (.var 8)))),.opq 3 none],1,0,0,.int .i64 (.lit 0),2⟩
end Go.Proofs
namespace Go.Proofs
open Go.Dw
def Tryz.zvG:List Ent:= [ofBytesE,zEQ]
def Tryz.zAS:List Sh:= [.ro zfM,.ro [.int .i64 (.var 8),.int .u64 (u64v 10),.int .u32 (u32v 11),.int .u16 (u16v 12),.int .u16 (u16v 13)]]
def Tryz.zgK:List (Nat×AV):=zcB 1 (ofIds []) (.sx 2 (lnv 17) 5 [(lnv 6,2)]) (.int .i64 (lnv 6))
def Tryz.zqJ:List LEnt:= []
def Tryz.zqK:List AEnt:= []
def Tryz.zAT:Option AV:=none
def Tryz.zIK:List (SB×Bool):= [(.cmp .lss (lnv 6) (lnv 17),true)]
def Tryz.zGt:List zbe:= [
 ⟨.normal,[0,2,4,6,11,12,13],none,⟨.tup [.cst 0 none,.sx 3 ((lnv 4)) 1 [],.int .i64 (.var 5),.ptr 1 0,.sx 2 ((lnv 17)) 5 [((lnv 6),2)],.int .i64 (.var 7),.int .i64 (.bin .add .i64 (lnv 6) (.lit 1))],[(1,[.bool (.lit false),.int .i64 (szv 0),.int .u64 (u64v 1),.int .u64 (u64v 2),.int .u64 (u64v 3)])],[],2,[]⟩⟩]
def Tryz.zGs:List (List (SB×Bool)×Nat):= [
 ([], 0)]
theorem Tryz.zIJ:(evL prog (zau zvG) (zaC zqJ) (zaA zqK) 100000 (.code (zaI prog [0,0,1,0,1,1,12]) [0,0,1,0,1,1,12] 87 (envS 87 zgK zAT) (zar 0 zAS) (zaG zGt 0))).ways zIK=some zGs:=by kernel_rfl
theorem Tryz.zKQ:(zah zAS&&zae zvG&&zan zqJ&&zao zqK&&zaq zgK&&zal zGt&&zaF 87 zgK&&Nat.ble 87 zaN&&zaz zAT)=true:=by kernel_rfl
def Tryz.zqI:List Ent:= []
def Tryz.zvE:List Sh:= [.ro zfM]
def Tryz.zfq:List (Nat×AV):=zcB 1 (ofIds []) (.sx 2 (lnv 17) 5 []) (.int .i64 (lnv 6))
def Tryz.zmD:List LEnt:= []
def Tryz.zmE:List AEnt:= []
def Tryz.zvF:Option AV:=none
def Tryz.zEP:List (SB×Bool):= [(.cmp .lss (lnv 6) (lnv 17),false)]
def Tryz.zAR:List zbe:= [
 ⟨(.exit 0),[0,2,4,6,12],none,⟨.tup [.cst 0 none,.sx 3 ((lnv 4)) 1 [],.int .i64 (.var 5),.ptr 1 0,.int .i64 (.var 7)],[(1,[.bool (.lit false),.int .i64 (szv 0),.int .u64 (u64v 1),.int .u64 (u64v 2),.int .u64 (u64v 3)])],[],0,[]⟩⟩]
def Tryz.zAQ:List (List (SB×Bool)×Nat):= [
 ([], 0)]
theorem Tryz.zEO:(evL prog (zau zqI) (zaC zmD) (zaA zmE) 100000 (.code (zaI prog [0,0,1,0,1,1,12]) [0,0,1,0,1,1,12] 87 (envS 87 zfq zvF) (zar 0 zvE) (zaG zAR 0))).ways zEP=some zAQ:=by kernel_rfl
theorem Tryz.zII:(zah zvE&&zae zqI&&zan zmD&&zao zmE&&zaq zfq&&zal zAR&&zaF 87 zfq&&Nat.ble 87 zaN&&zaz zvF)=true:=by kernel_rfl
def Tryz.zvI:List Ent:= [znW (ofIds [(.lit 0,1)]) 3,zAW,zAV,zGu,znV 2 (.var 15) (.wrap .u64 (.var 9)),znV 3 (.var 16) (.wrap .u64 (.bin .add .i64 (.var 5) (.lit 1)))]
def Tryz.zAX:List Sh:= [.ro [.int .i64 (.var 9)]]
def Tryz.zvJ:List AV:= [.cst 0 none,rg,ofIds [(.lit 0,1)],zcG,.int .i64 (.var 5)]
def Tryz.zqL:List LEnt:= [zet 2 3 (ofIds [(.lit 0,1)])]
def Tryz.zqM:List AEnt:= []
def Tryz.zIM:List (SB×Bool):= [(.cmp .eql (.var 7) (.lit 0),true),(.cmp .lss (.lit 0) (lnv 4),true)]
def Tryz.zGw:List Leaf:= [
 ⟨.bool (.lit true),[],[],4,[]⟩]
def Tryz.zGv:List (List (SB×Bool)×Nat):= [
 ([], 0)]
theorem Tryz.zIL:(evL prog (zau zvI) (zaC zqL) (zaA zqM) 100000 (.call 12 zvJ (zar 0 zAX) (zaK zGw 0))).ways zIM=some zGv:=by kernel_rfl
theorem Tryz.zKR:(zah zAX&&zae zvI&&zan zqL&&zao zqM&&AV.smallL zvJ&&zaj zGw)=true:=by kernel_rfl
def Tryz.zvK:List Ent:= [znW (ofIds []) 2,zAW,zAV,zGu]
def Tryz.zAY:List Sh:= []
def Tryz.zvL:List AV:= [.cst 0 none,rg,ofIds [],zcG,.int .i64 (.var 5)]
def Tryz.zqN:List LEnt:= [zet 1 2 (ofIds [])]
def Tryz.zqO:List AEnt:= []
def Tryz.zIO:List (SB×Bool):= [(.cmp .eql (.var 7) (.lit 0),false)]
def Tryz.zGy:List Leaf:= [
 ⟨.bool (.lit false),[],[],2,[]⟩]
def Tryz.zGx:List (List (SB×Bool)×Nat):= [
 ([], 0)]
theorem Tryz.zIN:(evL prog (zau zvK) (zaC zqN) (zaA zqO) 100000 (.call 12 zvL (zar 0 zAY) (zaK zGy 0))).ways zIO=some zGx:=by kernel_rfl
theorem Tryz.zKS:(zah zAY&&zae zvK&&zan zqN&&zao zqO&&AV.smallL zvL&&zaj zGy)=true:=by kernel_rfl
open Go.RowKit Go.Maps Go.Sort
theorem Tryz.zlj (ps:List Pt):(zcU ps).length=5*ps.length:=by
 induction ps with
 | nil=>rfl
 | cons p ps ih=>simp only [zcU,List.flatMap_cons,List.length_append,List.length_cons] at ih ⊢;rw [ih];simp [Pt.cells];omega
theorem Tryz.zj7: ∀(ps:List Pt) (k:Nat) (hk:k<ps.length) (j:Nat),j<5→(zcU ps)[5*k+j]? =ps[k].cells[j]?
 | p::ps,0,_,j,hj=>by
  simp only [zcU,List.flatMap_cons,Nat.mul_zero,Nat.zero_add,List.getElem_cons_zero]
  rw [List.getElem?_append_left (by simp [Pt.cells];omega)]
 | p::ps,k+1,hk,j,hj=>by
  have:=zj7 ps k (by simpa using hk) j hj
  simp only [zcU,List.flatMap_cons,List.getElem_cons_succ] at this ⊢
  rw [List.getElem?_append_right (by simp [Pt.cells];omega),←this]
  congr 1
  simp [Pt.cells];omega
theorem Tryz.zEI {w:World} {G o:Nat} {ps:List Pt} (h:w.rangeAt G o (zcU ps)) (k:Nat) (hk:k<ps.length):w.rangeAt G (o+5*k) ps[k].cells:=fun j v hv=>by
 have hj:j<5:=by
  have:=(List.getElem?_eq_some_iff.1 hv).1
  simpa [Pt.cells] using this
 have:=h (5*k+j) v (by rw [zj7 ps k hk j hj];exact hv)
 rw [show o+5*k+j=o+(5*k+j) by omega]
 exact this
def Tryz.zdm (d:Int) (ps:List Pt) (g:Nat→Int):Nat→Int:=ps.foldl (fun g p=>putL g (d+16*p.at0).toNat p.bytes) g
theorem Tryz.zxK (d:Int) (ps:List Pt) (p:Pt) (g:Nat→Int):zdm d (ps++ [p]) g=putL (zdm d ps g) (d+16*p.at0).toNat p.bytes:=by simp [zdm]
def Tryz.memC (P L Bs B N:Nat) (gk:Nat→Nat→Int) (C:Gho):Gho where
 fact k q F w:=(F P∧F L∧F Bs∧F B∧GM w P L Bs B N (gk k))∧C.fact k q F w
 loc:=fun k q q' F w w' h hq hb hs=>by
  obtain ⟨⟨h1,h2,h3,h4,h6⟩,h7⟩:=h
  exact ⟨⟨h1,h2,h3,h4,h6.kept (fun b _ hb'=>by rcases hb' with rfl|rfl|rfl|rfl<;>exact hb _ (by assumption)) hs⟩,C.loc k q q' F w w' h7 hq hb hs⟩
def Tryz.byC (b2:Nat) (xs:List Int):Gho where
 fact k q F w:=match k with|1=> ∃u,q 3=some u∧OwnR 5 1 w b2 u xs.length (zby xs)∧ ∀b,u.ownBlock=some b→F b|_=>True
 loc:=fun k q q' F w w' h hq hb hs=>by
  match k,h with
  | 0,_=>trivial
  | 1,⟨u,h7,h8,h9⟩=>exact ⟨u,hq _ _ h7,OwnR.kept h8 fun b e=>hb b (h9 b e),h9⟩
  | k+2,_=>trivial
def Tryz.ptC (sa:Option Addr) (ls:List Sg) (b2 qn:Nat) (ps:List Pt):Gho where
 fact k q F w:=match k with|0=>SegF F w sa ls|1=> ∃u,q qn=some u∧zoA w b2 u ps∧ ∀b,u.ownBlock=some b→F b|_=>True
 loc:=fun k q q' F w w' h hq hb hs=>by
  match k,h with
  | 0,h=>exact SegF.kept h hb
  | 1,⟨u,h7,h8,h9⟩=>exact ⟨u,hq _ _ h7,OwnR.kept h8 fun b e=>hb b (h9 b e),h9⟩
  | k+2,_=>trivial
def Tryz.zER (r:Rg) (len n5 k e x8 x9:Int) (p:Pt) (x14 x15 x16 l17:Int) (mv sv pv iv:Value):Val:=vof [r.n,r.d,r.v,r.c,len,n5,k,e,x8,x9,p.a,p.ln,p.f,p.nx,x14,x15,x16,l17] [] [mv,sv,pv,iv]
structure Tryz.OfD (ρ:Val) (r:Rg) (len n5 k e x8 x9:Int) (p:Pt) (x14 x15 x16 l17:Int) (mv sv pv iv:Value):Prop where
 n:(szv 0).den ρ=r.n
 d:(u64v 1).den ρ=r.d
 v:(u64v 2).den ρ=r.v
 c:(u64v 3).den ρ=r.c
 d4:(lnv 4).den ρ=len
 i5:ρ.i 5=n5
 d6:(lnv 6).den ρ=k
 i7:ρ.i 7=e
 i8:ρ.i 8=x8
 i9:ρ.i 9=x9
 d10:(u64v 10).den ρ=p.a
 d11:(u32v 11).den ρ=p.ln
 d12:(u16v 12).den ρ=p.f
 d13:(u16v 13).den ρ=p.nx
 i14:ρ.i 14=x14
 i15:ρ.i 15=x15
 i16:ρ.i 16=x16
 d17:(lnv 17).den ρ=l17
 v0:ρ.v 0=mv
 v1:ρ.v 1=sv
 v2:ρ.v 2=pv
 v3:ρ.v 3=iv
theorem Tryz.ofD {r:Rg} {len n5 k e x8 x9:Int} {p:Pt} {x14 x15 x16 l17:Int} {mv sv pv iv:Value} (hr:RgOk r) (h4:0≤len∧len<64000) (h6:0≤k∧k<64000) (hp:p.ok) (h17:0≤l17∧l17<64000):OfD (zER r len n5 k e x8 x9 p x14 x15 x16 l17 mv sv pv iv) r len n5 k e x8 x9 p x14 x15 x16 l17 mv sv pv iv:=by
 have hb:=hr.bnd
 have q1:=hr.dE
 have q2:=hr.vE
 have q3:=hr.cE
 exact ⟨zds (is:= [len,n5,k,e,x8,x9,p.a,p.ln,p.f,p.nx,x14,x15,x16,l17]) (bs:= []) (vs:= [mv,sv,pv,iv]) hr,zaH hr.d0 (by show r.d<_;omega),zaH hr.v0 (by show r.v<_;omega),zaH hr.c0 (by show r.c<_;omega),
  zaR h4.1 (by show len<_;omega),rfl,zaR h6.1 (by show k<_;omega),rfl,rfl,rfl,zaH hp.a.1 hp.a.2,zbL hp.ln.1 hp.ln.2,zbj hp.f.1 hp.f.2,zbj hp.nx.1 hp.nx.2,rfl,rfl,rfl,zaR h17.1 (by show l17<_;omega),rfl,rfl,rfl,rfl⟩
def Tryz.okPt0:Pt:=⟨0,0,0,0,0⟩
theorem Tryz.zvD:okPt0.ok:=⟨by decide,by decide,by decide,by decide⟩
theorem Tryz.OfD.rgL {ρ:Val} {j:J} {r:Rg} {len n5 k e x8 x9:Int} {p:Pt} {x14 x15 x16 l17:Int} {mv sv pv iv:Value} (D:OfD ρ r len n5 k e x8 x9 p x14 x15 x16 l17 mv sv pv iv):RL ρ j zfM [.bool false,.int .i64 r.n,.int .u64 r.d,.int .u64 r.v,.int .u64 r.c]:=
 zab (zaO rfl) (zab (zac D.n) (zab (zac D.d) (zab (zac D.v) (zab (zac D.c) RL.nil))))
theorem Tryz.OfD.rgR {ρ:Val} {j:J} {r:Rg} {len n5 k e x8 x9:Int} {p:Pt} {x14 x15 x16 l17:Int} {mv sv pv iv:Value} (D:OfD ρ r len n5 k e x8 x9 p x14 x15 x16 l17 mv sv pv iv):Dw.R ρ j rg r.val:=zlu D.rgL
theorem Tryz.zqs {w:World} {L:Dw.Loc} {vals:List Value} (h:Row w L vals):w.rangeAt L.blk L.off vals:=fun i v hv=>by
 obtain ⟨arr,e,fr,h1,h2⟩:=h
 simp only [World.cell?,h1]
 exact h2 i v hv
theorem Tryz.zjB {w:World} {L:Dw.Loc} {ρ:Val} {j:J} {K:Nat→Prop} {g:Gho} {row:List AV} {vals:List Value} (h:Row w L vals) (h0:vals≠ []) (hr:RL ρ j row vals) (hK: ¬K L.blk):ShOk ρ j (cxOf w K g) (L.blk,L.off) (.ro row):=zaQ (zqs h) h0 hr hK
set_option maxRecDepth 10000 in
theorem Tryz.zAU {ρ:Val} {w0:World} {P L Bs B N:Nat} {gk:Nat→Nat→Int} {sa ia:Option Addr} {ls:List Sg} {b qn c nl:Nat} {sx:List (SE×Nat)} {ps:List Pt} {r:Rg} {n5 e x8 x9 x14 x15 x16 l17:Int} {sv pv:Value} {p0:Pt}
  (D:OfD ρ r nl n5 0 e x8 x9 p0 x14 x15 x16 l17 (.pointer (some ⟨P,0,none⟩)) sv pv (.slice ia nl c)) (hr:RgOk r) (hN:N≤1048576) (hfit:r.d+16*r.n≤N) (hnl:nl<60000) (hpl:ps.length<60000) (hps: ∀p∈ps,p.ok∧0≤p.at0∧p.at0<r.n)
  (hlo:P<w0.heap.size∧L<w0.heap.size∧Bs<w0.heap.size∧B<w0.heap.size) (hg2:gk 2=zdm r.d ps (gk 1)):
  zlv prog ρ w0 (fun y=>y=B) (memC P L Bs B N gk (ptC sa ls w0.heap.size qn ps)) (zet b qn (ofIds sx)):=by
 refine zfs ?_
 intro cc hc j a w F n hsz hdf hsl hrw hnone hbase hF hs0 hf hold
 obtain ⟨⟨fP,fL,fS,fB,hm⟩,u,hq,hou,hFu⟩:=hf
 have hsl0:=(hsl (0,.cst 0 none) (by simp [zet,zcB])).2
 have hsl2:=(hsl (2,ofIds sx) (by simp [zet,zcB])).2
 have hsl4:=(hsl (4,.int .i64 (.var 5)) (by simp [zet,zcB])).2
 have hsl6:=(hsl (6,.ptr b 0) (by simp [zet,zcB])).2
 have hsl11:=(hsl (11,.opq qn none) (by simp [zet,zcB])).2
 have hsl12:=(hsl (12,.int .i64 (.var 7)) (by simp [zet,zcB])).2
 have hsl13:=(hsl (13,.int .i64 (.lit 0)) (by simp [zet,zcB])).2
 have g0:=R_val rfl hsl0
 have g2:=R_val rfl hsl2
 have g4:=R_val rfl hsl4
 have g12:=R_val rfl hsl12
 have g13:=R_val rfl hsl13
 simp only [AV.val,ofIds,D.v0,D.v3,zaf,zay,D.i5,D.i7] at g0 g2 g4 g12 g13
 obtain ⟨Lb,hjb,g6⟩:=hsl6
 obtain ⟨hLF,vals,hvals,hrow⟩:=hrw (b,zfM) (by simp [zet]) Lb hjb
 have hvals:=zcF (show AV.exactL zfM=true by decide) hvals D.rgL
 subst hvals
 have g11:a.tmps.getD 11 undef=u:=by
  obtain ⟨⟨Lq,hj,hu⟩,_⟩:=hsl11
  unfold opqs at hq
  rw [hj] at hq
  simp only [Option.bind_some] at hq
  rw [hu] at hq
  injection hq
 have hcc:cc=zaI prog [0,0,1,0,1,1,12]:=by
  have:=zd5 (P:=prog) (p:= [0,1,0,1,1,12]) (by kernel_rfl)
  have hc:zaI prog [0,1,0,1,1,12]= .loop cc:=hc
  rw [hc] at this
  injection this
 subst hcc
 have hsz:a.tmps.size=87:=hsz
 have hult:=OwnR.lt hou
 obtain ⟨su,cu,rfl,hur⟩:=OwnR.row hou
 have hLlt:Lb.blk<w.heap.size:=zfQ hrow
 have hLB:Lb.blk≠B:=fun e=>hLF (e▸fB)
 refine zbl (fun (k:Nat) a' w'=>k≤ps.length∧a'.tmps.size=87∧a'.defers= []∧a'.tmps.getD 0 undef= .pointer (some ⟨P,0,none⟩)∧a'.tmps.getD 2 undef= .slice ia nl c∧a'.tmps.getD 4 undef= .int .i64 n5∧a'.tmps.getD 6 undef= .pointer (some ⟨Lb.blk,Lb.off+0,none⟩)∧a'.tmps.getD 11 undef= .slice su ps.length cu∧
   a'.tmps.getD 12 undef= .int .i64 e∧a'.tmps.getD 13 undef= .int .i64 k∧GM w' P L Bs B N (zdm r.d (ps.take k) (gk 1))∧Dw.Mv (fun y=>y=B) w w')
  (fun k=>ps.length-k) (fun k a1 w1 hI=> ?_) 0 a w ⟨Nat.zero_le _,hsz,hdf,g0,g2,g4,g6,g11,g12,by rw [g13];rfl,hm,Dw.Mv.refl _ _⟩
 obtain ⟨hkl,q0,qd,q00,q2,q4,q6,q11,q12,q13,hm1,hmv⟩:=hI
 have hrow1:Row w1 Lb [.bool false,.int .i64 r.n,.int .u64 r.d,.int .u64 r.v,.int .u64 r.c]:=hrow.kept (hmv.block _ hLlt hLB)
 have hwk:=zes k (by omega)
 have hj1: ∀x,jOf ((Lb.blk,Lb.off)::x) 1=some ⟨Lb.blk,Lb.off,0,none⟩:=fun _=>rfl
 by_cases hk:k<ps.length
 ·rcases hur with h0|⟨G,rfl,hGo,hur⟩
  ·have:=congrArg List.length h0
   rw [zlj] at this
   simp at this
   omega
  have hGlt:=hult G hGo
  have hur1:=zaJ hur (hmv.block G hGlt.2 (by omega))
  have hx:=zEI hur1 k hk
  obtain ⟨hpo,ha0,ha1⟩:=hps ps[k] (List.getElem_mem hk)
  have htk:ps.take (k+1)=ps.take k++ [ps[k]]:=by rw [List.take_add_one,List.getElem?_eq_getElem hk];rfl
  generalize hX:ps[k]=X at hx hpo ha0 ha1 htk
  have D':=ofD (r:=r) (len:=nl) (n5:=n5) (k:=k) (e:=e) (x8:=X.at0) (x9:=0) (p:=X) (x14:=0) (x15:=0) (x16:=0) (l17:=ps.length) (mv:= .pointer (some ⟨P,0,none⟩)) (sv:=undef) (pv:= .slice (some ⟨G,0,none⟩) ps.length cu) (iv:= .slice ia nl c) hr (by omega) (by omega) hpo (by omega)
  generalize zER r nl n5 k e X.at0 0 X 0 0 0 ps.length (.pointer (some ⟨P,0,none⟩)) undef (.slice (some ⟨G,0,none⟩) ps.length cu) (.slice ia nl c)=ρ' at D'
  have hj2:jOf [(Lb.blk,Lb.off),(G,0+5*k)] 2=some ⟨G,0+5*k,0,none⟩:=rfl
  have hd0:=hr.d0
  have hda:(SE.bin .add .u64 (u64v 1) (.bin .mul .u64 (.lit 16) (.wrap .u64 (.var 8)))).den ρ'=((r.d+16*X.at0).toNat:Nat):=by
   have e8:(SE.wrap .u64 (.var 8)).den ρ'=X.at0:=by
    show IntKind.wrap .u64 (ρ'.i 8)=_
    rw [D'.i8];exact zaL (by omega) (by omega)
   rw [den_add,den_mul,e8,zaf,D'.d,zaL (k:=16*X.at0) (by omega) (by omega),zaL (by omega) (by omega)]
   omega
  refine wp_mono (zax (ρ:=ρ') (K:=fun y=>y=B) (g:=memC P L Bs B N (fun k'=>match k' with|2=>zdm r.d (ps.take (k+1)) (gk 1)|_=>zdm r.d (ps.take k) (gk 1)) (byC w1.heap.size X.bytes)) (bl:= [(Lb.blk,Lb.off),(G,0+5*k)]) mixed zIJ zKQ (fun y h=>by rw [h];exact hm1.bl)
   ⟨zjB hrow1 (by simp) D'.rgL hLB,zaQ hx (by simp [Pt.cells]) (zab (zac D'.i8) (zab (zac D'.d10) (zab (zac D'.d11) (zab (zac D'.d12) (zab (zac D'.d13) RL.nil))))) (by omega),trivial⟩
   ⟨fun h=>(by cases h),fun h=>(by cases h),trivial⟩ ?_ ⟨?_,?_,trivial⟩ trivial trivial q0 qd ?_ (zaa.2 ⟨by rw [zaX,D'.d6,D'.d17];simp only [decide_eq_true_eq];omega,zad.2 trivial⟩)) fun ex a2 w2 hh=> ?_
  ·refine ⟨fun y=>y=P∨y=L∨y=Bs∨y=B,fun y hy=>⟨?_,fun hmn=> ?_⟩,⟨.inl rfl,.inr (.inl rfl),.inr (.inr (.inl rfl)),.inr (.inr (.inr rfl)),hm1⟩,trivial⟩
   ·rcases hy with rfl|rfl|rfl|rfl
    ·exact hm1.pl
    ·exact hm1.ll
    ·exact hm1.sl
    ·exact hm1.bl
   ·have:=zcK hmn
    simp only [List.map_cons,List.map_nil,List.mem_cons,List.not_mem_nil,or_false] at this
    rcases this with e1|e1
    ·rcases hy with h|h|h|h<;>(rw [h] at e1;rw [←e1] at hLF;contradiction)
    ·rcases hy with h|h|h|h<;>omega
  ·refine ⟨Dw.enters_of (by kernel_rfl),fun j' w3 vals' F' m hv hnone' hb' hF' hsz' hf' _=> ?_⟩
   have hb':m=3:=hb' (by show (1:Nat)≠0;decide)
   subst hb'
   have hv:=zcF (show AV.exactL ofBytesE.args=true by decide) hv (zab (zlu (zab (zac D'.d10) (zab (zac D'.d11) (zab (zac D'.d12) (zab (zac D'.d13) RL.nil))))) RL.nil)
   subst hv
   obtain ⟨⟨f1,f2,f3,f4,hm3⟩,_⟩:=hf'
   refine Calls.mono (zxJ X hpo w3) fun en w' hh=> ?_
   obtain ⟨v,rfl,hv,hbl⟩:=hh
   refine ⟨_,[v],fun y=>F' y∨v.ownBlock=some y,rfl,rfl,⟨⟨⟨0,0,0,some v⟩,?_,rfl⟩,OwnR.one hv,fun _ h=>(by cases h)⟩,⟨⟨.inl f1,.inl f2,.inl f3,.inl f4,GM.below (g:=zdm r.d (ps.take k) (gk 1)) hm3 hbl⟩,v,zbo,OwnR.mono hv hsz',fun y h=> .inr h⟩,?_,Dw.Mv.of_below hbl⟩
   ·show jq j' 3 _ 3=_
    unfold jq
    rw [if_pos ⟨Nat.le_refl _,by simp⟩]
    simp
   ·rintro y (h|h)
    ·exact ⟨Nat.lt_of_lt_of_le (hF' y h) hbl.size,.inl h⟩
    ·exact ⟨(OwnR.lt hv y h).2,.inr (OwnR.lt hv y h).1⟩
  ·refine ⟨Dw.enters_of (by kernel_rfl),fun j' w3 vals' F' m hv hnone' hb' hF' hsz' hf' _=> ?_⟩
   obtain ⟨x0,_,rfl,e0,hv⟩:=hv
   obtain ⟨x1,_,rfl,e1,hv⟩:=hv
   obtain ⟨x2,_,rfl,e2,hv⟩:=hv
   have hv:_= []:=hv
   subst hv
   obtain ⟨⟨f1,f2,f3,f4,hm3⟩,v,hq3,hv3,hFv⟩:=hf'
   have hm3:GM w3 P L Bs B N (zdm r.d (ps.take k) (gk 1)):=hm3
   have e0:x0= .pointer (some ⟨P,0,none⟩):=by rw [R_val rfl e0];exact D'.v0
   have e1:x1= .int .u64 ((r.d+16*X.at0).toNat:Nat):=by rw [show x1= .int .u64 (SE.den ρ' (.bin .add .u64 (u64v 1) (.bin .mul .u64 (.lit 16) (.wrap .u64 (.var 8))))) from e1,hda]
   have e2:x2=v:=by
    obtain ⟨⟨Lq,hj,hu⟩,_⟩:=e2
    unfold opqs at hq3
    rw [hj] at hq3
    simp only [Option.bind_some] at hq3
    rw [hu] at hq3
    injection hq3
   subst e0 e1 e2
   have hvl:=OwnR.lt hv3
   obtain ⟨sv',cv,rfl,hvr⟩:=OwnR.row hv3
   rcases hvr with h0|⟨G',rfl,hGo',hvr⟩
   ·have:=congrArg List.length h0
    rw [zby,List.length_map,Pt.bytes_len] at this
    cases this
   refine Calls.mono (zDb P L Bs B N _ G' 0 cv X.bytes _ w3 hm3 hN (by rw [Pt.bytes_len];decide) (by rw [Pt.bytes_len];omega) X.bytes_bnd hvr (hvl G' hGo').2) fun en w' hh=> ?_
   obtain ⟨rfl,hm4,hmv4⟩:=hh
   refine ⟨_,[],F',rfl,rfl,?_,⟨⟨f1,f2,f3,f4,?_⟩,trivial⟩,fun y h=>⟨Nat.lt_of_lt_of_le (hF' y h) hmv4.size,.inl h⟩,(zKW hmv4).mono fun y h=>by subst h;exact ⟨f4,.inr rfl⟩⟩
   ·exact zac rfl
   ·show GM w' P L Bs B N (zdm r.d (ps.take (k+1)) (gk 1))
    rw [htk,zxK];exact hm4
  ·intro t ht
   simp only [zgK,zcB,List.mem_cons,List.not_mem_nil,or_false] at ht
   rcases ht with rfl|rfl|rfl|rfl|rfl|rfl|rfl
   ·rw [q00];exact za5 D'.v0 rfl
   ·rw [q2];exact ⟨D'.v3.symm,_,_,_,rfl,D'.d4.symm,trivial⟩
   ·rw [q4];exact zac D'.i5
   ·rw [q6];exact ⟨_,hj1 _,rfl⟩
   ·rw [q11];exact ⟨D'.v2.symm,_,_,_,rfl,D'.d17.symm,⟨G,0,_,k,rfl,hj2,rfl,D'.d6,hk,rfl⟩,trivial⟩
   ·rw [q12];exact zac D'.i7
   ·rw [q13];exact zac D'.d6
  ·obtain ⟨q,hq',hto,lf,hlf,rfl,hsz2,j2,hdf2,he⟩:=hh
   unfold zGs at hq'
   simp only [List.mem_cons,List.not_mem_nil,or_false] at hq'
   subst hq'
   cases hlf
   obtain ⟨F2,_,⟨_,_,_,_,hm5⟩,_⟩:=he.gho
   have hs2:=zaE he.ret
   have lc1:=zag (he.sub _ _ (hj1 [(G,0+5*k)]))
   simp only [AV.valL,AV.val,D'.v0,D'.v2,D'.v3,D'.d6,D'.i5,D'.i7,zay,den_add,zaf,hwk,lc1,List.map_cons,List.map_nil,List.cons.injEq,and_true] at hs2
   obtain ⟨p0',p2',p4',p6',p11',p12',p13'⟩:=hs2
   exact ⟨k+1,by omega,hk,hsz2,hdf2,p0',p2',p4',p6',p11',p12',p13',hm5,hmv.trans he.mv⟩
 ·have hkk:k=ps.length:=by omega
  subst hkk
  have D':=ofD (r:=r) (len:=nl) (n5:=n5) (k:=ps.length) (e:=e) (x8:=0) (x9:=0) (p:=okPt0) (x14:=0) (x15:=0) (x16:=0) (l17:=ps.length) (mv:= .pointer (some ⟨P,0,none⟩)) (sv:=undef) (pv:= .slice su ps.length cu) (iv:= .slice ia nl c) hr (by omega) (by omega) zvD (by omega)
  generalize zER r nl n5 ps.length e 0 0 okPt0 0 0 0 ps.length (.pointer (some ⟨P,0,none⟩)) undef (.slice su ps.length cu) (.slice ia nl c)=ρ' at D'
  refine wp_mono (zax (ρ:=ρ') (K:=fun _=>False) (g:=Gho.none) (bl:= [(Lb.blk,Lb.off)]) mixed zEO zII (fun y h=>h.elim) ⟨zjB hrow1 (by simp) D'.rgL (fun h=>h),trivial⟩ ⟨fun h=>(by cases h),trivial⟩ zaB trivial trivial trivial q0 qd ?_ (zaa.2 ⟨by rw [zaX,D'.d6,D'.d17];simp,zad.2 trivial⟩)) fun ex a2 w2 hh=> ?_
  ·intro t ht
   simp only [zfq,zcB,List.mem_cons,List.not_mem_nil,or_false] at ht
   rcases ht with rfl|rfl|rfl|rfl|rfl|rfl|rfl
   ·rw [q00];exact za5 D'.v0 rfl
   ·rw [q2];exact ⟨D'.v3.symm,_,_,_,rfl,D'.d4.symm,trivial⟩
   ·rw [q4];exact zac D'.i5
   ·rw [q6];exact ⟨_,hj1 _,rfl⟩
   ·rw [q11];exact ⟨D'.v2.symm,_,_,_,rfl,D'.d17.symm,trivial⟩
   ·rw [q12];exact zac D'.i7
   ·rw [q13];exact zac D'.d6
  ·obtain ⟨q,hq',hto,lf,hlf,rfl,hsz2,j2,hdf2,he⟩:=hh
   have hb3:=zam he (fun _ h=>h)
   unfold zAQ at hq'
   simp only [List.mem_cons,List.not_mem_nil,or_false] at hq'
   subst hq'
   cases hlf
   have hs2:=zaE he.ret
   have lc1:=zag (he.sub _ _ (hj1 []))
   simp only [AV.valL,AV.val,D'.v0,D'.v3,D'.i5,D'.i7,zay,lc1,List.map_cons,List.map_nil,List.cons.injEq,and_true] at hs2
   obtain ⟨p0',p2',p4',p6',p12'⟩:=hs2
   rw [List.take_length] at hm1
   refine ⟨⟨.lit true,.exit 0,[(0,.cst 0 none),(2,ofIds sx),(4,.int .i64 (.var 5)),(6,.ptr b 0),(12,.int .i64 (.var 7))],2⟩,[],F,by unfold zet;rw [zbw,if_pos (show SB.den ρ (.lit true)=true from rfl)],rfl,hsz2,hdf2,(fun t ht=>by cases ht),rfl,fun s hs=> ?_,⟨⟨fP,fL,fS,fB,?_⟩,trivial⟩,fun y h=>⟨Nat.lt_of_lt_of_le (hF y h) (Nat.le_trans hmv.size hb3.size),.inl h⟩,(hmv.trans (Dw.Mv.of_below hb3)).mono fun y h=>by subst h;exact ⟨fB,.inr rfl⟩⟩
   ·rw [zfS]
    simp only [List.mem_cons,List.not_mem_nil,or_false] at hs
    rcases hs with rfl|rfl|rfl|rfl|rfl
    ·rw [p0',←g0];exact hsl0
    ·rw [p2',←g2];exact hsl2
    ·rw [p4',←g4];exact hsl4
    ·rw [p6'];exact ⟨Lb,hjb,rfl⟩
    ·rw [p12',←g12];exact hsl12
   ·rw [hg2];exact hm1.below hb3
def Tryz.zdB (r:Rg) (ids:List Int) (l:List Sg) (n:Int) (g:Nat→Int):Nat→Int:=
 if za9 l=0 then putW (putW (zdm r.d (za0 ids l l.length) g) (r.v+4+2*(n%r.n)).toNat 2 (ids.getD 0 0)) (r.v+2).toNat 2 (n+1) else g
theorem Tryz.zjY {ids:List Int} {l:List Sg} {m:Int} (hil:ids.length=l.length) (hok: ∀x∈l,x.ok) (hin: ∀x∈ids,0≤x∧x<m): ∀p∈za0 ids l l.length,p.ok∧0≤p.at0∧p.at0<m:=fun p hp=>by
 obtain ⟨k,hk,rfl⟩:=List.mem_map.1 hp
 have hk:k<l.length:=List.mem_range.1 hk
 have h1:=hok l[k] (List.getElem_mem hk)
 have h2:=hin ids[k] (List.getElem_mem (by omega))
 have e1:l.getD k ⟨0,0,false⟩=l[k]:=by simp [List.getD_eq_getElem?_getD,hk]
 have e2:ids.getD k 0=ids[k]:=by simp [List.getD_eq_getElem?_getD,hil,hk]
 refine ⟨⟨?_,?_,?_,?_⟩,?_⟩
 ·simp only [putAt,e1];exact ⟨h1.1,h1.2.1⟩
 ·simp only [putAt,e1];exact ⟨h1.2.2.1,h1.2.2.2⟩
 ·simp only [putAt];split<;>split<;>omega
 ·simp only [putAt];split<;>omega
 ·simp only [putAt,e2];exact h2
theorem Tryz.zmG {ρ:Val} {w0:World} {K:Nat→Prop} {P L Bs B N:Nat} {gk:Nat→Nat→Int} {ia sa:Option Addr} {c cs qn:Nat} {ids:List Int} {l:List Sg} {sx:List (SE×Nat)}
  (hv3:ρ.v 3= .slice ia ids.length c) (hv1:ρ.v 1= .slice sa l.length cs) (h7:ρ.i 7=za9 l) (hok: ∀x∈l,x.ok) (hl:l.length≤60000) (hil:ids.length=l.length) (hnd:ids.Nodup) (hin: ∀x∈ids,0≤x∧x<32768)
  (hri:ids= []∨ ∃I o,ia=some ⟨I,o,none⟩∧ ¬K I∧w0.rangeAt I o (zat ids)) (hgk:gk 1=gk 0):
  za3 prog ρ w0 K (memC P L Bs B N gk (ptC sa l w0.heap.size qn (if za9 l=0 then za0 ids l l.length else []))) (znW (ofIds sx) qn):=by
 refine ⟨Dw.enters_of (by kernel_rfl),fun j w1 vals F m hv hnone hb hF hsz hf hold=> ?_⟩
 have hb:m=qn:=hb (by show (1:Nat)≠0;decide)
 subst hb
 obtain ⟨x0,_,rfl,e0,hv⟩:=hv
 obtain ⟨x1,_,rfl,e1,hv⟩:=hv
 have hv:_= []:=hv
 subst hv
 have e0:x0= .slice ia ids.length c:=by rw [R_val rfl e0];exact hv3
 have e1:x1= .slice sa l.length cs:=by rw [R_val rfl e1];exact hv1
 subst e0 e1
 obtain ⟨⟨f1,f2,f3,f4,hm⟩,hsg⟩:=hf
 have hri1:ids= []∨ ∃I o,ia=some ⟨I,o,none⟩∧w1.rangeAt I o (zat ids):=by
  rcases hri with h|⟨I,o,e,hK,hr⟩
  ·exact .inl h
  ·by_cases h0:ids= []
   ·exact .inl h0
   ·have hlt:=zE9 hr (k:=0) (by cases ids with|nil=>exact absurd rfl h0|cons x t=>simp)
    exact .inr ⟨I,o,e,zaJ hr (hold I hlt hK)⟩
 refine Calls.mono (zxC (SegF.v hsg hok cs) hl hil hnd hin hri1) fun en w' hh=> ?_
 obtain ⟨hbl,hh⟩:=hh
 have key: ∃u,en= .returned (.tuple #[u,.int .i64 (za9 l)])∧zoA w' w1.heap.size u (if za9 l=0 then za0 ids l l.length else []):=by
  rcases hh with ⟨h0,u,rfl,hu⟩|⟨h0,rfl⟩
  ·rw [h0,if_pos rfl];exact ⟨u,rfl,hu⟩
  ·rw [if_neg h0];exact ⟨_,rfl,OwnR.nil _ _ _ _⟩
 obtain ⟨u,rfl,hu⟩:=key
 refine ⟨_,[u],fun b=>F b∨u.ownBlock=some b,rfl,rfl,zcz (zab ⟨⟨⟨0,0,0,some u⟩,?_,rfl⟩,OwnR.one hu,fun _ h=>(by cases h)⟩ (zab (zac h7) RL.nil)),⟨⟨.inl f1,.inl f2,.inl f3,.inl f4,?_⟩,u,zbo,OwnR.mono hu hsz,fun b h=> .inr h⟩,?_,Dw.Mv.of_below hbl⟩
 ·show jq j m _ m=_
  unfold jq
  rw [if_pos ⟨Nat.le_refl _,by simp⟩]
  simp
 ·show GM w' P L Bs B N (gk 1)
  rw [hgk];exact hm.below hbl
 ·rintro b (h|h)
  ·exact ⟨Nat.lt_of_lt_of_le (hF b h) hbl.size,.inl h⟩
  ·exact ⟨(OwnR.lt hu b h).2,.inr (OwnR.lt hu b h).1⟩
theorem Tryz.zmF {ρ:Val} {w0:World} {K:Nat→Prop} {P L Bs B N:Nat} {gk:Nat→Nat→Int} {C:Gho} {k:Nat} {a:Int} {x:Int} {ae ve:SE} (hv0:ρ.v 0= .pointer (some ⟨P,0,none⟩)) (ha:ae.den ρ=a) (hx:ve.den ρ=x) (h0:0≤a) (hin:a+2≤N) (hN:N≤1048576) (hK:K B)
    (hg:gk (k+1)=putW (gk k) a.toNat 2 x) (hC: ∀q F w,C.fact (k+1) q F w):za3 prog ρ w0 K (memC P L Bs B N gk C) (znV k ae ve):=
  zif (Dw.enters_of (by kernel_rfl)) rfl [.pointer (some ⟨P,0,none⟩),.int .u64 a,.int .i64 2,.int .u64 x] (.int .i64 0) (fun j=>zab (za5 hv0 rfl) (zab (zac ha) (zab (zac rfl) (zab (zac hx) RL.nil))))
    (fun j=>zac rfl) (fun w F q hf=>by
      obtain ⟨⟨h1,h2,h3,h4,hm⟩,_⟩:=hf
      exact Calls.mono (zuw (k:=2) hm hN (.inr (.inl rfl)) x h0 hin) fun e w' ⟨e1,e2,e3⟩=>⟨e1,⟨⟨h1,h2,h3,h4,by rw [hg];exact e2⟩,hC _ _ _⟩,e3.mono fun b hb=>hb▸⟨h4,hK⟩⟩)
set_option maxRecDepth 10000 in
theorem Tryz.zAP {A:Nat→Prop} {w:World} {P L Bs B N c:Nat} {g:Nat→Int} {r:Rg} {ia:Option Addr} {sv:Value} {ids:List Int} {l:List Sg} {n:Int} (hm:GM w P L Bs B N g) (hN:N≤1048576) (hr:RgOk r) (hfit:r.d+16*r.n≤N∧r.v+6+2*r.n≤N)
  (hsv:SegV A w sv l) (hl:l.length<60000) (hil:ids.length=l.length) (hnd:ids.Nodup) (hin: ∀x∈ids,0≤x∧x<r.n) (hn:0≤n∧n<1000000) (hpw:r.n≤32768)
  (hI:ids= []∨ ∃I o,ia=some ⟨I,o,none⟩∧w.rangeAt I o (zat ids)∧I≠P∧I≠L∧I≠Bs∧I≠B∧ ∀R o',(∃c',sv= .slice (some ⟨R,o',none⟩) l.length c')→I≠R):
  Calls prog 12 #[.pointer (some ⟨P,0,none⟩),r.val,.slice ia ids.length c,sv,.int .i64 n] w fun e w'=>e= .returned (.bool (decide (za9 l=0)))∧GM w' P L Bs B N (zdB r ids l n g)∧Dw.Mv (fun b=>b=B) w w':=by
 have h0:=hsv
 obtain ⟨sa,cs,rfl,hok,hrs⟩:=hsv
 obtain ⟨F0,hF0,hF1⟩:=zb7 h0
 have hb:=hr.bnd
 have q1:=hr.d0
 have q2:=hr.v0
 have hmod:0≤n%r.n∧n%r.n<r.n:=⟨Int.emod_nonneg _ (by omega),Int.emod_lt_of_pos _ (by omega)⟩
 have hps:=zjY hil hok hin
 have hin': ∀x∈ids,0≤x∧x<32768:=fun x hx=>⟨(hin x hx).1,by have:=(hin x hx).2;omega⟩
 have hpl:=zdz ids l l.length
 have D:=ofD (r:=r) (len:=l.length) (n5:=n) (k:=0) (e:=za9 l) (x8:=0) (x9:=ids.getD 0 0) (p:=okPt0) (x14:=n%r.n) (x15:=r.v+4+2*(n%r.n)) (x16:=r.v+2) (l17:=0) (mv:= .pointer (some ⟨P,0,none⟩)) (sv:= .slice sa l.length cs) (pv:=undef) (iv:= .slice ia l.length c) hr (by omega) (by omega) zvD (by omega)
 generalize zER r l.length n 0 (za9 l) 0 (ids.getD 0 0) okPt0 (n%r.n) (r.v+4+2*(n%r.n)) (r.v+2) 0 (.pointer (some ⟨P,0,none⟩)) (.slice sa l.length cs) undef (.slice ia l.length c)=ρ at D
 have hri:ids= []∨ ∃I o,ia=some ⟨I,o,none⟩∧ ¬(fun y=>y=B) I∧w.rangeAt I o (zat ids):=by
  rcases hI with h|⟨I,o,e,h,_,_,_,h4,_⟩
  ·exact .inl h
  ·exact .inr ⟨I,o,e,h4,h⟩
 have hF: ∀b,(b=P∨b=L∨b=Bs∨b=B∨(l≠ []∧ ∃o',sa=some ⟨b,o',none⟩))→b<w.heap.size:=fun b h=>by
  rcases h with rfl|rfl|rfl|rfl|⟨h,o',e⟩
  ·exact hm.pl
  ·exact hm.ll
  ·exact hm.sl
  ·exact hm.bl
  ·rcases hrs with h1|⟨R,o,e1,_,h2⟩
   ·exact absurd h1 h
   ·rw [e] at e1;cases e1
    exact zci h2 h
 have hSF:SegF (fun b=>b=P∨b=L∨b=Bs∨b=B∨(l≠ []∧ ∃o',sa=some ⟨b,o',none⟩)) w sa l:=by
  by_cases h:l= []
  ·exact .inl h
  ·rcases hrs with h1|⟨R,o,e1,_,h2⟩
   ·exact .inl h1
   ·exact .inr ⟨R,o,e1,.inr (.inr (.inr (.inr ⟨h,o,e1⟩))),h2⟩
 unfold zdB
 by_cases he0:za9 l=0
 ·have hl0:l≠ []:=fun h=>by
   subst h
   revert he0
   decide
  have hlp:0<l.length:=List.length_pos_iff.2 hl0
  rcases hI with h|⟨I,o,rfl,hIr,i1,i2,i3,i4,i5⟩
  ·rw [h] at hil;simp at hil;omega
  have hx9:=zec hIr 0 (by omega)
  have hid:ids.getD 0 0=ids[0]'(by omega):=by simp [List.getD_eq_getElem?_getD,show 0<ids.length by omega]
  have hid2:=hin (ids[0]'(by omega)) (List.getElem_mem (by omega))
  have hj1:jOf [(I,o+1*0)] 1=some ⟨I,o+1*0,0,none⟩:=rfl
  rw [if_pos he0,decide_eq_true he0]
  have hpe:(if za9 l=0 then za0 ids l l.length else [])=za0 ids l l.length:=if_pos he0
  refine Calls.mono (zdA (ρ:=ρ) (K:=fun y=>y=B) (g:=memC P L Bs B N (fun k=>match k with|0=>g|1=>g|2=>zdm r.d (za0 ids l l.length) g|3=>putW (zdm r.d (za0 ids l l.length) g) (r.v+4+2*(n%r.n)).toNat 2 (ids.getD 0 0)|_=>putW (putW (zdm r.d (za0 ids l l.length) g) (r.v+4+2*(n%r.n)).toNat 2 (ids.getD 0 0)) (r.v+2).toNat 2 (n+1)) (ptC sa l w.heap.size 3 (if za9 l=0 then za0 ids l l.length else []))) (bl:= [(I,o+1*0)])
   (vals:= [.pointer (some ⟨P,0,none⟩),r.val,.slice (some ⟨I,o,none⟩) ids.length c,.slice sa l.length cs,.int .i64 n]) mixed zIL zKR (fun b h=>by rw [h];exact hm.bl)
   ⟨zaQ hx9 (by simp) (zab (zac (D.i9.trans hid)) RL.nil) i4,trivial⟩ ⟨fun h=>(by cases h),trivial⟩
   ⟨fun b=>b=P∨b=L∨b=Bs∨b=B∨(l≠ []∧ ∃o',sa=some ⟨b,o',none⟩),fun b h=>⟨hF b h,fun hmn=> ?_⟩,⟨.inl rfl,.inr (.inl rfl),.inr (.inr (.inl rfl)),.inr (.inr (.inr (.inl rfl))),hm⟩,hSF⟩
   ⟨zmG (hil▸D.v3) D.v1 D.i7 hok (by omega) hil hnd hin' hri rfl,
   zas (Dw.enters_of (by kernel_rfl)) (by decide) [.int .i64 n,.int .i64 r.n] (.int .i64 (n%r.n)) (fun j=>zab (zac D.i5) (zab (zac D.n) RL.nil)) (fun j=>zac D.i14) (fun w F q hf=>Calls.mono (ziE n r.n (by omega) w) fun e w' hh=>⟨hh.1,hh.2▸Below.refl _ _⟩),
   zas (Dw.enters_of (by kernel_rfl)) (by decide) [r.val,.int .i64 4,.int .i64 (n%r.n)] (.tuple #[.int .u64 (r.v+4+2*(n%r.n)),.int .i64 2,.int .i64 0]) (fun j=>zab D.rgR (zab (zac rfl) (zab (zac D.i14) RL.nil))) (fun j=>zcz (zab (zac D.i15) (zab (zac rfl) (zab (zac rfl) RL.nil)))) (fun w F q hf=>zu4 r hr (n%r.n) hmod w),
   zas (Dw.enters_of (by kernel_rfl)) (by decide) [r.val,.int .i64 3,.int .i64 0] (.tuple #[.int .u64 (r.v+2),.int .i64 2,.int .i64 0]) (fun j=>zab D.rgR (zab (zac rfl) (zab (zac rfl) RL.nil))) (fun j=>zcz (zab (zac D.i16) (zab (zac rfl) (zab (zac rfl) RL.nil)))) (fun w F q hf=>zu6 r hr w),
   zmF D.v0 D.i15 (x:=ids.getD 0 0) (by show IntKind.wrap .u64 (ρ.i 9)=_;rw [D.i9];exact zaL (by omega) (by omega)) (by omega) (by omega) hN rfl rfl (fun _ _ _=>trivial),
   zmF D.v0 D.i16 (x:=n+1) (by show IntKind.wrap .u64 ((SE.bin .add .i64 (.var 5) (.lit 1)).den ρ)=_;rw [den_add,zay,D.i5,zaf,zdt (by omega) (by omega)];exact zaL (by omega) (by omega)) (by omega) (by omega) hN rfl rfl (fun _ _ _=>trivial),trivial⟩
   ⟨zAU D hr hN hfit.1 hl (by rw [hpe,hpl];omega) (by rw [hpe];exact hps) ⟨hm.pl,hm.ll,hm.sl,hm.bl⟩ (by rw [hpe];rfl),trivial⟩ trivial
   (zab (za5 D.v0 rfl) (zab D.rgR (zab ?_ (zab ⟨D.v1.symm,_,_,_,rfl,D.d4.symm,trivial⟩ (zab (zac D.i5) RL.nil)))))
   (zaa.2 ⟨by rw [zbW,zay,zaf,D.i7,he0];rfl,zaa.2 ⟨by rw [zaX,D.d4,zaf];simp only [decide_eq_true_eq];omega,zad.2 trivial⟩⟩)) fun e w' hh=> ?_
  ·have:=zcK hmn
   simp only [List.map_cons,List.map_nil,List.mem_cons,List.not_mem_nil,or_false] at this
   subst this
   rcases h with h|h|h|h|⟨_,o',h⟩
   ·exact i1 h
   ·exact i2 h
   ·exact i3 h
   ·exact i4 h
   ·exact i5 b o' ⟨cs,by rw [h]⟩ rfl
  ·rw [hil]
   exact ⟨D.v3.symm,_,_,_,rfl,D.d4.symm,⟨I,o,_,0,rfl,hj1,rfl,rfl,hlp,rfl⟩,trivial⟩
  ·obtain ⟨p,hpm,hto,lf,hlf,j,he⟩:=hh
   unfold zGv at hpm
   simp only [List.mem_cons,List.not_mem_nil,or_false] at hpm
   subst hpm
   cases hlf
   obtain ⟨F2,_,⟨_,_,_,_,hm2⟩,_⟩:=he.gho
   exact ⟨he.ret,hm2,he.mv⟩
 ·rw [if_neg he0,decide_eq_false he0]
  have hpe:(if za9 l=0 then za0 ids l l.length else [])= []:=if_neg he0
  refine Calls.mono (zdA (ρ:=ρ) (K:=fun y=>y=B) (g:=memC P L Bs B N (fun _=>g) (ptC sa l w.heap.size 2 (if za9 l=0 then za0 ids l l.length else []))) (bl:= [])
   (vals:= [.pointer (some ⟨P,0,none⟩),r.val,.slice ia ids.length c,.slice sa l.length cs,.int .i64 n]) mixed zIN zKS (fun b h=>by rw [h];exact hm.bl) trivial trivial
   ⟨fun b=>b=P∨b=L∨b=Bs∨b=B∨(l≠ []∧ ∃o',sa=some ⟨b,o',none⟩),fun b h=>⟨hF b h,fun hmn=> ?_⟩,⟨.inl rfl,.inr (.inl rfl),.inr (.inr (.inl rfl)),.inr (.inr (.inr (.inl rfl))),hm⟩,hSF⟩
   ⟨zmG (hil▸D.v3) D.v1 D.i7 hok (by omega) hil hnd hin' hri rfl,
   zas (Dw.enters_of (by kernel_rfl)) (by decide) [.int .i64 n,.int .i64 r.n] (.int .i64 (n%r.n)) (fun j=>zab (zac D.i5) (zab (zac D.n) RL.nil)) (fun j=>zac D.i14) (fun w F q hf=>Calls.mono (ziE n r.n (by omega) w) fun e w' hh=>⟨hh.1,hh.2▸Below.refl _ _⟩),
   zas (Dw.enters_of (by kernel_rfl)) (by decide) [r.val,.int .i64 4,.int .i64 (n%r.n)] (.tuple #[.int .u64 (r.v+4+2*(n%r.n)),.int .i64 2,.int .i64 0]) (fun j=>zab D.rgR (zab (zac rfl) (zab (zac D.i14) RL.nil))) (fun j=>zcz (zab (zac D.i15) (zab (zac rfl) (zab (zac rfl) RL.nil)))) (fun w F q hf=>zu4 r hr (n%r.n) hmod w),
   zas (Dw.enters_of (by kernel_rfl)) (by decide) [r.val,.int .i64 3,.int .i64 0] (.tuple #[.int .u64 (r.v+2),.int .i64 2,.int .i64 0]) (fun j=>zab D.rgR (zab (zac rfl) (zab (zac rfl) RL.nil))) (fun j=>zcz (zab (zac D.i16) (zab (zac rfl) (zab (zac rfl) RL.nil)))) (fun w F q hf=>zu6 r hr w),trivial⟩
   ⟨zAU D hr hN hfit.1 hl (by rw [hpe];exact Nat.zero_lt_of_lt hl) (by rw [hpe];intro p hp;cases hp) ⟨hm.pl,hm.ll,hm.sl,hm.bl⟩ (by rw [hpe];rfl),trivial⟩ trivial
   (zab (za5 D.v0 rfl) (zab D.rgR (zab ?_ (zab ⟨D.v1.symm,_,_,_,rfl,D.d4.symm,trivial⟩ (zab (zac D.i5) RL.nil)))))
   (zaa.2 ⟨by rw [zbW,zay,zaf,D.i7];simpa using he0,zad.2 trivial⟩)) fun e w' hh=> ?_
  ·obtain ⟨k,L',h1,_⟩:=hmn
   cases k<;>cases h1
  ·rw [hil]
   exact ⟨D.v3.symm,_,_,_,rfl,D.d4.symm,trivial⟩
  ·obtain ⟨p,hpm,hto,lf,hlf,j,he⟩:=hh
   unfold zGx at hpm
   simp only [List.mem_cons,List.not_mem_nil,or_false] at hpm
   subst hpm
   cases hlf
   obtain ⟨F2,_,⟨_,_,_,_,hm2⟩,_⟩:=he.gho
   exact ⟨he.ret,hm2,he.mv⟩
end Go.Proofs
namespace Go.Proofs
open Go.Dw Go.RowKit
theorem Tryz.zxL {g:Nat→Int} {a k j:Nat} {v:Int} (h:putW g a k v j≠g j):a≤j∧j<a+k:=by
 unfold putW at h
 by_cases hh:a≤j∧j<a+k
 ·exact hh
 ·rw [if_neg hh] at h;exact absurd rfl h
theorem Tryz.SegV.set {A A':Nat→Prop} {w:World} {v:Value} {l:List Sg} (h:SegV A w v l) (hA: ∀b,b<w.heap.size→A' b→A b):SegV A' w v l:=by
 obtain ⟨sa,c,e,hok,hr⟩:=h
 refine ⟨sa,c,e,hok,?_⟩
 by_cases h0:l= []
 ·exact .inl h0
 ·rcases hr with hr|⟨R,o,e1,h1,h2⟩
  ·exact .inl hr
  ·exact .inr ⟨R,o,e1,fun h=>h1 (hA R (zci h2 h0) h),h2⟩
theorem Tryz.zew.set {A A':Nat→Prop} {w:World} {S ph:Nat} {v:Value} (h:zew A w S ph v) (hA: ∀b,b<w.heap.size→A' b→A b):zew A' w S ph v:=by
 cases h with
 | idle h hv=>exact .idle h hv
 | meth f h hv=>exact .meth f h hv
 | fence f X Y h hv hX hY aX aY=>exact .fence f X Y h hv hX hY (fun h=>aX (hA X (zfQ hX) h)) (fun h=>aY (hA Y (zfQ hY) h))
theorem Tryz.TkW.set {A A':Nat→Prop} {w:World} {M:Nat} {tk:List (Int×List Sg)} (h:TkW A w M tk) (hA: ∀b,b<w.heap.size→A' b→A b):TkW A' w M tk:=by
 obtain ⟨arr,clock,h1,h2,h3⟩:=h.map
 refine ⟨⟨arr,clock,h1,h2,fun k=>⟨(h3 k).1,fun l hl=> ?_⟩⟩,h.keys,h.u16⟩
 obtain ⟨v,h4,h5⟩:=(h3 k).2 l hl
 exact ⟨v,h4,h5.set hA⟩
theorem Tryz.SrvW.set {A A':Nat→Prop} {w:World} {S P M:Nat} {r:Rg} {s:SS} (h:SrvW A w S P M r s) (hA: ∀b,b<w.heap.size→A' b→A b) (aS:A' S) (aM:A' M):SrvW A' w S P M r s:=by
 obtain ⟨nv,sv,h1,h2,h3⟩:=h.obj
 exact ⟨⟨nv,sv,h1,h2.set hA,h3.set hA⟩,h.tk.set hA,h.ne,aS,aM,h.rg,h.nx,h.us,h.hd,h.wr⟩
theorem Tryz.SW.set {A A':Nat→Prop} {w:World} {S P L Bs B M N:Nat} {r:Rg} {s:SS} {g:Nat→Int} (h:SW A w S P L Bs B M N r s g) (hA: ∀b,b<w.heap.size→A' b→A b) (aS:A' S) (aM:A' M) (aB:A' B) (hl: ∀b,A' b→b<w.heap.size):SW A' w S P L Bs B M N r s g:=
 ⟨h.srv.set hA aS aM,h.mem,h.hN,h.sd,h.md,aB,hl,h.fit⟩
theorem Tryz.SW.kept {A:Nat→Prop} {w w':World} {S P L Bs B M N:Nat} {r:Rg} {s:SS} {g:Nat→Int} (h:SW A w S P L Bs B M N r s g) (hS:w'.heap[S]? =w.heap[S]?) (hM:w'.heap[M]? =w.heap[M]?) (hk: ∀k,k<w.heap.size→ ¬A k→w'.heap[k]? =w.heap[k]?) (hg: ∀k,(k=P∨k=L∨k=Bs∨k=B)→w'.heap[k]? =w.heap[k]?) (hs:w.heap.size≤w'.heap.size):SW A w' S P L Bs B M N r s g:=
 ⟨h.srv.kept hS hM hk,h.mem.kept (fun k _ hk=>hg k hk) hs,h.hN,h.sd,h.md,h.aB,fun b hb=>Nat.lt_of_lt_of_le (h.lt b hb) hs,h.fit⟩
def Tryz.AF (S M B:Nat) (F:Nat→Prop) (w:World) (b:Nat):Prop:=b<w.heap.size∧(¬F b∨b=S∨b=M∨b=B)
structure Tryz.LwF (S P L Bs B M N:Nat) (r:Rg) (s:SS) (g:Nat→Int) (F:Nat→Prop) (w:World):Prop where
 fS:F S
 fM:F M
 fP:F P
 fL:F L
 fs:F Bs
 fB:F B
 sw:SW (AF S M B F w) w S P L Bs B M N r s g
theorem Tryz.LwF.kept {S P L Bs B M N:Nat} {r:Rg} {s:SS} {g:Nat→Int} {F:Nat→Prop} {w w':World} (h:LwF S P L Bs B M N r s g F w) (hb: ∀b,F b→w'.heap[b]? =w.heap[b]?) (hs:w.heap.size≤w'.heap.size):LwF S P L Bs B M N r s g F w':=by
 obtain ⟨h1,h2,h3,h4,h5,h6,h7⟩:=h
 have l1:=h7.srv.ltS
 have l2:=h7.srv.ltM
 have l3:=h7.mem.bl
 have e1:=h7.srv.set (A':=fun b=> ¬F b∨b=S∨b=M∨b=B) (fun b hb hh=>⟨hb,hh⟩) (.inr (.inl rfl)) (.inr (.inr (.inl rfl)))
 have e2:=e1.kept (hb S h1) (hb M h2) (fun k hk hn=>hb k (Classical.byContradiction fun hF=>hn (.inl hF)))
 exact ⟨h1,h2,h3,h4,h5,h6,⟨e2.set (fun b _ hh=>hh.2) ⟨by omega,.inr (.inl rfl)⟩ ⟨by omega,.inr (.inr (.inl rfl))⟩,h7.mem.kept (fun k _ hk=>by rcases hk with rfl|rfl|rfl|rfl<;>exact hb _ (by assumption)) hs,h7.hN,h7.sd,h7.md,⟨by omega,.inr (.inr (.inr rfl))⟩,fun b hb=>hb.1,h7.fit⟩⟩
theorem Tryz.LwF.next {S P L Bs B M N:Nat} {r:Rg} {s s':SS} {g g':Nat→Int} {F F':Nat→Prop} {w w':World} (h:LwF S P L Bs B M N r s g F w) (hsw:SW (AF S M B F w) w' S P L Bs B M N r s' g') (hs:w.heap.size≤w'.heap.size) (hF: ∀b,F b→F' b) (hn: ∀b,w.heap.size≤b→b<w'.heap.size→F' b):LwF S P L Bs B M N r s' g' F' w':=by
 obtain ⟨h1,h2,h3,h4,h5,h6,h7⟩:=h
 have l1:=h7.srv.ltS
 have l2:=h7.srv.ltM
 have l3:=h7.mem.bl
 refine ⟨hF S h1,hF M h2,hF P h3,hF L h4,hF Bs h5,hF B h6,hsw.set (fun b hb hh=> ?_) ⟨by omega,.inr (.inl rfl)⟩ ⟨by omega,.inr (.inr (.inl rfl))⟩ ⟨by omega,.inr (.inr (.inr rfl))⟩ fun b hb=>hb.1⟩
 obtain ⟨_,hh⟩:=hh
 by_cases hlt:b<w.heap.size
 ·rcases hh with hh|hh
  ·exact ⟨hlt,.inl fun hf=>hh (hF b hf)⟩
  ·exact ⟨hlt,.inr hh⟩
 ·rcases hh with hh|hh
  ·exact absurd (hn b (by omega) hb) hh
  ·rcases hh with rfl|rfl|rfl<;>exact absurd (by assumption) hlt
theorem Tryz.LwF.mem {S P L Bs B M N:Nat} {r:Rg} {s:SS} {g:Nat→Int} {F:Nat→Prop} {w:World} (h:LwF S P L Bs B M N r s g F w):GM w P L Bs B N g:=h.sw.mem
theorem Tryz.LwF.stored {S P L Bs B M N:Nat} {r:Rg} {s:SS} {g g':Nat→Int} {F:Nat→Prop} {w w':World} (h:LwF S P L Bs B M N r s g F w) (hm:Dw.Mv (fun b=>b=B) w w') (hg:GM w' P L Bs B N g'):LwF S P L Bs B M N r s g' F w':=by
 obtain ⟨h1,h2,h3,h4,h5,h6,h7⟩:=h
 have hs:=hm.size
 have l1:=h7.srv.ltS
 have l2:=h7.srv.ltM
 have l3:=h7.mem.bl
 have hB: ∀b,b≠B→b<w.heap.size→w'.heap[b]? =w.heap[b]? :=fun b hb hlt=>hm.block b hlt hb
 have e1:=h7.srv.set (A':=fun b=> ¬F b∨b=S∨b=M∨b=B) (fun b hb hh=>⟨hb,hh⟩) (.inr (.inl rfl)) (.inr (.inr (.inl rfl)))
 have e2:=e1.kept (hB S (fun e=>h7.sd.2.2.2 e) l1) (hB M (fun e=>h7.md.2.2.2 e) l2) (fun k hk hn=>hB k (fun e=>hn (.inr (.inr (.inr e)))) hk)
 exact ⟨h1,h2,h3,h4,h5,h6,⟨e2.set (fun b _ hh=>hh.2) ⟨by omega,.inr (.inl rfl)⟩ ⟨by omega,.inr (.inr (.inl rfl))⟩,hg,h7.hN,h7.sd,h7.md,⟨by omega,.inr (.inr (.inr rfl))⟩,fun b hb=>hb.1,h7.fit⟩⟩
def Tryz.zmJ (l:List Nat):List (Nat×AV):=l.map fun t=>(t,.cst (100+t) none)
def Tryz.zBf:Ent:=⟨28,[.cst 2 none],1,0,0,.tup [.agg [.int .i64 (.var 30),.int .i64 (.var 31),.int .i64 (.var 32)],.int .i64 (.var 21)],2⟩
def Tryz.zBm (k b:Nat):Ent:=⟨27,[.cst 2 none],k,0,0,.bool (.var b),k⟩
open Go.Maps Go.Sort
structure Tryz.LwR where
 q:Option Nat
 v:Value
 sz:Nat
 n:Nat
 cs:List Value
def Tryz.LwR.is (e:LwR) (q:Nat→Option Value) (u:Value):Prop:=match e.q with|some n=>q n=some u|none=>u=e.v
def Tryz.lwG (X:Nat→Prop) (bX:Nat) (S P L Bs B M N:Nat) (r:Rg) (b2:Nat) (sk:Nat→SS) (gk:Nat→Nat→Int) (rows:Nat→List LwR):Gho where
 fact k q F w:=(∀b,F b→X b∨bX≤b)∧ ∃F0:Nat→Prop,(∀b,F0 b→F b)∧LwF S P L Bs B M N r (sk k) (gk k) F0 w∧ ∀e∈rows k,∃(u:Value) (t:TypeId),e.is q u∧OwnR t e.sz w b2 u e.n e.cs∧ ∀b,u.ownBlock=some b→F b∧ ¬F0 b
 loc:=fun k q q' F w w' h hq hb hs=>⟨h.1,by
  obtain ⟨_,F0,h0,h1,h2⟩:=h
  refine ⟨F0,h0,h1.kept (fun b h=>hb b (h0 b h)) hs,fun e he=> ?_⟩
  obtain ⟨u,t,q1,q2,q3⟩:=h2 e he
  refine ⟨u,t,?_,OwnR.kept q2 fun b e=>hb b (q3 b e).1,q3⟩
  unfold LwR.is at q1 ⊢
  split at q1
  ·exact hq _ _ q1
  ·exact q1⟩
section
variable {X:Nat→Prop} {bX:Nat} {ρ:Val} {w0:World} {K:Nat→Prop} {S P L Bs B M N:Nat} {r:Tryz.Rg} {b2:Nat} {sk:Nat→Tryz.SS} {gk:Nat→Nat→Int} {rows:Nat→List Tryz.LwR} {f:FuncId} {args:List AV} {res:AV} {k k':Nat}
theorem Tryz.ztk (he:Dw.Enters prog f) (hx:AV.exactL args=true) (hbX:bX≤w0.heap.size) (V:List Value) (U:Value) (ha: ∀j,RL ρ j args V) (hr: ∀j,Dw.R ρ j res U) (hlt:S<b2∧M<b2∧B<b2) (hK:K S∧K M∧K B) (hrows: ∀e∈rows k',e∈rows k)
  (h: ∀(A:Nat→Prop) (w:World),SW A w S P L Bs B M N r (sk k) (gk k)→Calls prog f V.toArray w fun e w'=>e= .returned U∧SW A w' S P L Bs B M N r (sk k') (gk k')∧Dw.Mv (sK S M B) w w'):
  za3 prog ρ w0 K (lwG X bX S P L Bs B M N r b2 sk gk rows) ⟨f,args,k,0,0,res,k'⟩:=by
 refine ⟨he,fun j w vals F n hv hnone _ hF hsz hf _=> ?_⟩
 have hv:=zcF hx hv (ha j)
 subst hv
 obtain ⟨hXF,F0,hF0,h1,h2⟩:=hf
 refine Calls.mono (h _ w h1.sw) fun en w' hh=> ?_
 obtain ⟨rfl,hsw,hmv⟩:=hh
 refine ⟨U,[],fun b=>F b∨(w.heap.size≤b∧b<w'.heap.size),rfl,rfl,hr _,⟨fun b hb=> ?_,fun b=>F0 b∨(w.heap.size≤b∧b<w'.heap.size),fun b hb=>hb.imp_left (hF0 b),h1.next hsw hmv.size (fun b hb=> .inl hb) fun b q1 q2=> .inr ⟨q1,q2⟩,fun e he=> ?_⟩,?_,hmv.mono fun b hb=> ?_⟩
 ·rcases hb with hb|⟨hb,_⟩
  ·exact hXF b hb
  ·exact .inr (by omega)
 ·obtain ⟨u,t,q1,q2,q3⟩:=h2 e (hrows e he)
  refine ⟨u,t,by rw [zfS];exact q1,OwnR.kept q2 fun b hb=>hmv.block b (OwnR.lt q2 b hb).2 fun hh=> ?_,fun b hb=>⟨.inl (q3 b hb).1,fun hn=> ?_⟩⟩
  ·have:=(OwnR.lt q2 b hb).1
   rcases hh with hh|hh|hh<;>omega
  ·have:=(OwnR.lt q2 b hb).2
   rcases hn with hn|hn
   ·exact (q3 b hb).2 hn
   ·omega
 ·rintro b (hb|⟨q1,q2⟩)
  ·exact ⟨Nat.lt_of_lt_of_le (hF b hb) hmv.size,.inl hb⟩
  ·exact ⟨q2,.inr q1⟩
 ·rcases hb with rfl|rfl|rfl
  ·exact ⟨hF0 _ h1.fS,.inr hK.1⟩
  ·exact ⟨hF0 _ h1.fM,.inr hK.2.1⟩
  ·exact ⟨hF0 _ h1.fB,.inr hK.2.2⟩
end
end Go.Proofs
namespace Go.Proofs
open Go.Dw Go.RowKit Go.Maps Go.Sort
theorem Tryz.zmC {ρ:Val} {j:J}: ∀ {x:AV} {v:Value},(match x with| .int _ _=>true| .ptr _ _=>true| .cst _ _=>true| .opq _ _=>true| .sx _ _ _ _=>true|_=>false)=true→Dw.R ρ j x v→v.oneCell'=true
 | .int _ _,_,_,h=>by rw [show _=_ from h];rfl
 | .ptr _ _,_,_,⟨_,_,h⟩=>by rw [h];rfl
 | .cst _ _,_,_,h=>h.2.1
 | .opq _ _,_,_,h=>h.2.1
 | .sx _ _ _ _,_,_,⟨_,_,_,_,h,_⟩=>by rw [h];rfl
theorem Tryz.zrd {j:J} {n:Nat} {qs:List Value} (h: ∀k,n≤k→j k=none):Sub j (jq j n qs):=fun m L e=>by
 unfold jq
 rw [if_neg (fun hh=>by rw [h m hh.1] at e;cases e)]
 exact e
theorem Tryz.zJc:(prog.info? 3).map (fun i=>(i.zero,i.size,i.bytes))=some (some (.int .i64 0),1,8):=by kernel_rfl
section
variable {ρ:Val} {w0:World} {K:Nat→Prop} {X:Nat→Prop} {bX:Nat} {S P L Bs B M N:Nat} {r:Tryz.Rg} {b2:Nat} {sk:Nat→Tryz.SS} {gk:Nat→Nat→Int} {rows:Nat→List Tryz.LwR} {k k' q:Nat}
theorem Tryz.zBe {x y z:Int} (hv2:ρ.v 2= .pointer (some ⟨S,0,none⟩)) (hacc:(zaT N r (sk 1) (gk 1)).1=accV x y z) (h30:ρ.i 30=x) (h31:ρ.i 31=y) (h32:ρ.i 32=z) (h21:ρ.i 21=(zaT N r (sk 1) (gk 1)).2.1) (hs:sk 2=(zaT N r (sk 1) (gk 1)).2.2.1) (hg:gk 2=(zaT N r (sk 1) (gk 1)).2.2.2) (hbX:bX≤w0.heap.size) (hlt:S<b2∧M<b2∧B<b2) (hK:K S∧K M∧K B) (hrows: ∀e∈rows 2,e∈rows 1):
  za3 prog ρ w0 K (lwG X bX S P L Bs B M N r b2 sk gk rows) zBf:=
 ztk (Dw.enters_of (by kernel_rfl)) (by decide) hbX [.pointer (some ⟨S,0,none⟩)] (.tuple #[accV x y z,.int .i64 (zaT N r (sk 1) (gk 1)).2.1]) (fun j=>zab (za5 hv2 rfl) RL.nil) (fun j=>zcz (zab (zlu (zab (zac h30) (zab (zac h31) (zab (zac h32) RL.nil)))) (zab (zac h21) RL.nil))) hlt hK hrows fun A w hsw=>by
  rw [hs,hg,←hacc];exact zDx hsw
theorem Tryz.zBl {b:Nat} (hv2:ρ.v 2= .pointer (some ⟨S,0,none⟩)) (hb:ρ.b b=decide ((sk k).ph≠0)):za3 prog ρ w0 K (lwG X bX S P L Bs B M N r b2 sk gk rows) (zBm k b):=
 zas (Dw.enters_of (by kernel_rfl)) (by decide) [.pointer (some ⟨S,0,none⟩)] (.bool (decide ((sk k).ph≠0))) (fun j=>zab (za5 hv2 rfl) RL.nil) (fun j=>zaO hb) fun w F q hf=>by
  obtain ⟨_,F0,_,h1,_⟩:=hf
  exact Calls.mono (zot h1.sw.srv) fun e w' hh=>⟨hh.1,hh.2▸Below.refl _ _⟩
end
end Go.Proofs
namespace Go.Proofs
open Go.Dw Go.RowKit Go.Maps Go.Sort
set_option maxRecDepth 10000 in
theorem Tryz.zzX {A B:Nat→Prop} {w:World} {v1 v2:Value} {l1 l2:List Sg} (h1:SegV A w v1 l1) (h2:SegV B w v2 l2) (hl:l1.length<4000000) (hl2:l2.length<4000000):
  Calls prog 16 #[v1,v2] w fun e w'=>e= .returned (.bool (decide (l1=l2)))∧Below w.heap.size w w':=by
 obtain ⟨sa,c,rfl,hok,hr⟩:=h1
 obtain ⟨sb,d,rfl,hok2,hr2⟩:=h2
 by_cases hlen:l1.length=l2.length
 ·have e2:Value.slice sb l2.length d= .slice sb l1.length d:=by rw [hlen]
  rw [e2]
  obtain ⟨n,hn⟩: ∃n,n=l1.length:=⟨_,rfl⟩
  have hn2:n=l2.length:=hn.trans hlen
  rw [←hn]
  have Hn:(fun _:Unit=>n)=fun _=>l1.length:=by rw [hn]
  have Hn2:(fun _:Unit=>n)=fun _=>l2.length:=by rw [hn2]
  clear hlen e2 hn hn2
  go_enter func16,ntmps16
  go_wp2
  rename_i K hK
  have hn:n=l1.length:=congrFun Hn ()
  have hn2:n=l2.length:=congrFun Hn2 ()
  clear Hn Hn2
  refine zbH (c':= .loop (zaI prog [0,0,1,0,1,1,16])) (by kernel_rfl) ?_
  have done: ∀ {a2:Act} {w2:World} {b:Bool},a2.defers= []→a2.tmps.getD 4 undef= .bool b→b=decide (l1=l2)→Below w.heap.size w w2→
    bodyPost prog f16 (fun e w'=>e= .returned (.bool (decide (l1=l2)))∧RowKit.Below w.heap.size w w') .ret a2 w2:=fun {a2 w2 b} q1 q2 q3 q4=>
   zcu (fn:=f16) (Post:=fun e w'=>e= .returned (.bool (decide (l1=l2)))∧RowKit.Below w.heap.size w w') q1 rfl q2 ⟨by rw [q3],q4⟩
  refine zbl (fun (k:Nat) a' w'=>k≤n∧a'.tmps.size=26∧a'.defers= []∧a'.tmps.getD 0 undef= .slice sa n c∧a'.tmps.getD 1 undef= .slice sb n d∧a'.tmps.getD 5 undef= .int .i64 k∧Below w.heap.size w w'∧ ∀i,i<k→l1[i]? =l2[i]?)
   (fun k=>n-k) (fun k a1 w1 hI=> ?_) 0 _ _ ⟨Nat.zero_le _,rfl,rfl,rfl,rfl,rfl,Below.refl _ _,fun i hi=>absurd hi (Nat.not_lt_zero i)⟩
  obtain ⟨hk,q0,qd,p0,p1,p5,hb,heq⟩:=hI
  have hwk:=zes k (by omega)
  by_cases hkn:k<n
  ·rcases hr with h0|⟨R,o,rfl,_,hr⟩
   ·rw [h0] at hn;simp at hn;omega
   rcases hr2 with h0|⟨R2,o2,rfl,_,hr2⟩
   ·rw [h0] at hn2;simp at hn2;omega
   have hne1:l1≠ []:=fun h=>by rw [h] at hn;simp at hn;omega
   have hne2:l2≠ []:=fun h=>by rw [h] at hn2;simp at hn2;omega
   have hx:=zbZ (zaJ hr (hb.block R (zci hr hne1))) k (by omega)
   have hx2:=zbZ (zaJ hr2 (hb.block R2 (zci hr2 hne2))) k (by omega)
   have hxo:=hok l1[k] (List.getElem_mem (by omega))
   have hxo2:=hok2 l2[k] (List.getElem_mem (by omega))
   have g1:l1[k]? =some l1[k]:=List.getElem?_eq_getElem (by omega)
   have g2:l2[k]? =some l2[k]:=List.getElem?_eq_getElem (by omega)
   generalize l1[k]=X at hx hxo g1
   generalize l2[k]=Y at hx2 hxo2 g2
   have d0:(lnv 0).den (vof [n,k,0,X.at1,X.len,Y.at1,Y.len] [X.wr,Y.wr] [undef,.slice (some ⟨R,o,none⟩) n c,.slice (some ⟨R2,o2,none⟩) n d])=n:=zaR (by show (0:Int)≤n;omega) (by show (n:Int)<_;omega)
   have d1:(lnv 1).den (vof [n,k,0,X.at1,X.len,Y.at1,Y.len] [X.wr,Y.wr] [undef,.slice (some ⟨R,o,none⟩) n c,.slice (some ⟨R2,o2,none⟩) n d])=k:=zaR (by show (0:Int)≤k;omega) (by show (k:Int)<_;omega)
   have d3:(u64v 3).den (vof [n,k,0,X.at1,X.len,Y.at1,Y.len] [X.wr,Y.wr] [undef,.slice (some ⟨R,o,none⟩) n c,.slice (some ⟨R2,o2,none⟩) n d])=X.at1:=zaH hxo.1 hxo.2.1
   have d4:(u32v 4).den (vof [n,k,0,X.at1,X.len,Y.at1,Y.len] [X.wr,Y.wr] [undef,.slice (some ⟨R,o,none⟩) n c,.slice (some ⟨R2,o2,none⟩) n d])=X.len:=zbL hxo.2.2.1 hxo.2.2.2
   have d5:(u64v 5).den (vof [n,k,0,X.at1,X.len,Y.at1,Y.len] [X.wr,Y.wr] [undef,.slice (some ⟨R,o,none⟩) n c,.slice (some ⟨R2,o2,none⟩) n d])=Y.at1:=zaH hxo2.1 hxo2.2.1
   have d6:(u32v 6).den (vof [n,k,0,X.at1,X.len,Y.at1,Y.len] [X.wr,Y.wr] [undef,.slice (some ⟨R,o,none⟩) n c,.slice (some ⟨R2,o2,none⟩) n d])=Y.len:=zbL hxo2.2.2.1 hxo2.2.2.2
   have e0:(vof [n,k,0,X.at1,X.len,Y.at1,Y.len] [X.wr,Y.wr] [undef,.slice (some ⟨R,o,none⟩) n c,.slice (some ⟨R2,o2,none⟩) n d]).b 0=X.wr:=rfl
   have e1:(vof [n,k,0,X.at1,X.len,Y.at1,Y.len] [X.wr,Y.wr] [undef,.slice (some ⟨R,o,none⟩) n c,.slice (some ⟨R2,o2,none⟩) n d]).b 1=Y.wr:=rfl
   have v1:(vof [n,k,0,X.at1,X.len,Y.at1,Y.len] [X.wr,Y.wr] [undef,.slice (some ⟨R,o,none⟩) n c,.slice (some ⟨R2,o2,none⟩) n d]).v 1= .slice (some ⟨R,o,none⟩) n c:=rfl
   have v2:(vof [n,k,0,X.at1,X.len,Y.at1,Y.len] [X.wr,Y.wr] [undef,.slice (some ⟨R,o,none⟩) n c,.slice (some ⟨R2,o2,none⟩) n d]).v 2= .slice (some ⟨R2,o2,none⟩) n d:=rfl
   generalize vof [n,k,0,X.at1,X.len,Y.at1,Y.len] [X.wr,Y.wr] [undef,.slice (some ⟨R,o,none⟩) n c,.slice (some ⟨R2,o2,none⟩) n d]=ρ at d0 d1 d3 d4 d5 d6 e0 e1 v1 v2
   have hj1:jOf [(R,o+3*k),(R2,o2+3*k)] 1=some ⟨R,o+3*k,0,none⟩:=rfl
   have hj2:jOf [(R,o+3*k),(R2,o2+3*k)] 2=some ⟨R2,o2+3*k,0,none⟩:=rfl
   refine wp_mono (zax (ρ:=ρ) (K:=fun _=>False) (g:=Gho.none) (bl:= [(R,o+3*k),(R2,o2+3*k)]) mixed zHT zKv (fun b h=>h.elim)
    ⟨zaQ hx (by simp [Sg.cells]) (zab (zac d3) (zab (zac d4) (zab (zaO e0) RL.nil))) (fun h=>h),zaQ hx2 (by simp [Sg.cells]) (zab (zac d5) (zab (zac d6) (zab (zaO e1) RL.nil))) (fun h=>h),trivial⟩ ⟨fun hh=>(by cases hh),fun hh=>(by cases hh),trivial⟩ zaB trivial trivial trivial q0 qd ?_ (zaa.2 ⟨by rw [zaX,d1,d0];exact decide_eq_true (by omega),zad.2 trivial⟩)) fun ex a2 w2 hh=> ?_
   ·intro t ht
    simp only [zgm,List.mem_cons,List.not_mem_nil,or_false] at ht
    rcases ht with rfl|rfl|rfl
    ·rw [p0];exact ⟨v1.symm,_,_,_,rfl,d0.symm,⟨R,o,_,k,rfl,hj1,rfl,d1,hkn,rfl⟩,trivial⟩
    ·rw [p1];exact ⟨v2.symm,_,_,_,rfl,d0.symm,⟨R2,o2,_,k,rfl,hj2,rfl,d1,hkn,rfl⟩,trivial⟩
    ·rw [p5];exact zac d1
   ·obtain ⟨q,hq,hto,lf,hlf,rfl,hsz2,j2,hdf2,he⟩:=hh
    have hb3:=zam he (fun _ h=>h)
    have hb4:=hb.trans (hb3.mono hb.size)
    unfold zGj at hq
    simp only [List.mem_cons,List.not_mem_nil,or_false] at hq
    rcases hq with rfl|rfl
    ·cases hlf
     have hs2:=zaE he.ret
     simp only [AV.valL,AV.val,zbA,List.map_cons,List.map_nil,List.cons.injEq,and_true] at hs2
     refine done hdf2 hs2 ?_ hb4
     simp only [zaa,zad,SB.den,zbW,d3,d4,d5,d6,e0,e1,and_true] at hto
     symm
     refine decide_eq_false fun hh=> ?_
     rw [hh] at g1
     rw [g1] at g2
     injection g2 with g2
     rw [g2] at hto
     simp [zep] at hto
    ·cases hlf
     have hs2:=zaE he.ret
     simp only [AV.valL,AV.val,den_add,zaf,d0,d1,v1,v2,hwk,List.map_cons,List.map_nil,List.cons.injEq,and_true] at hs2
     simp only [zaa,zad,SB.den,zbW,d3,d4,d5,d6,e0,e1,and_true,beq_iff_eq] at hto
     have hXY:X=Y:=by
      obtain ⟨xa,xb,xc⟩:=X
      obtain ⟨ya,yb,yc⟩:=Y
      obtain ⟨h1,h2,h3⟩:=hto
      have h1:xa=ya:=by simpa [zep] using h1
      have h2:xb=yb:=by simpa [zep] using h2
      have h3:xc=yc:=h3
      rw [h1,h2,h3]
     refine ⟨k+1,by omega,by omega,hsz2,hdf2,hs2.1,hs2.2.1,hs2.2.2,hb4,fun i hi=> ?_⟩
     by_cases hik:i=k
     ·subst hik;rw [g1,g2,hXY]
     ·exact heq i (by omega)
  ·have hkk:k=n:=by omega
   subst hkk
   have hll:l1=l2:=List.ext_getElem? fun i=>by
    by_cases hi:i<k
    ·exact heq i hi
    ·rw [List.getElem?_eq_none (by omega),List.getElem?_eq_none (by omega)]
   have d0:(lnv 0).den (vof [k,k] [] [undef,.slice sa k c,.slice sb k d])=k:=zaR (by show (0:Int)≤k;omega) (by show (k:Int)<_;omega)
   have d1:(lnv 1).den (vof [k,k] [] [undef,.slice sa k c,.slice sb k d])=k:=zaR (by show (0:Int)≤k;omega) (by show (k:Int)<_;omega)
   have v1:(vof [k,k] [] [undef,.slice sa k c,.slice sb k d]).v 1= .slice sa k c:=rfl
   have v2:(vof [k,k] [] [undef,.slice sa k c,.slice sb k d]).v 2= .slice sb k d:=rfl
   generalize vof [k,k] [] [undef,.slice sa k c,.slice sb k d]=ρ at d0 d1 v1 v2
   refine wp_mono (zax (ρ:=ρ) (K:=fun _=>False) (g:=Gho.none) (bl:= []) mixed zHR zKu (fun b h=>h.elim) trivial trivial zaB trivial trivial trivial q0 qd ?_ (zaa.2 ⟨by rw [zaX,d1,d0];exact decide_eq_false (by omega),zad.2 trivial⟩)) fun ex a2 w2 hh=> ?_
   ·intro t ht
    simp only [zgl,List.mem_cons,List.not_mem_nil,or_false] at ht
    rcases ht with rfl|rfl|rfl
    ·rw [p0];exact ⟨v1.symm,_,_,_,rfl,d0.symm,trivial⟩
    ·rw [p1];exact ⟨v2.symm,_,_,_,rfl,d0.symm,trivial⟩
    ·rw [p5];exact zac d1
   ·obtain ⟨q,hq,hto,lf,hlf,rfl,hsz2,j2,hdf2,he⟩:=hh
    have hb3:=zam he (fun _ h=>h)
    have hb4:=hb.trans (hb3.mono hb.size)
    unfold zGh at hq
    simp only [List.mem_cons,List.not_mem_nil,or_false] at hq
    subst hq
    cases hlf
    show K a2 w2
    refine hK _ _ ?_
    obtain ⟨tmps,dfr⟩:=a2
    have hdf2:dfr= []:=hdf2
    have hsz2:tmps.size=26:=hsz2
    subst hdf2
    have hdec:(fun _:Unit=>true)=fun _=>decide (l1=l2):=by rw [decide_eq_true hll]
    clear hn hn2 hll
    go_wp2_with fail
    refine done (a2:=⟨_,[]⟩) rfl ?_ (congrFun hdec ()) hb4
    simp [hsz2]
 ·have hne: ¬((l1.length:Int)=l2.length):=by omega
  have hd:decide (l1=l2)=false:=decide_eq_false fun hh=>hlen (by rw [hh])
  rw [hd]
  clear hlen hd
  go_enter func16,ntmps16
  go_wp2
  go_ret
  exact ⟨rfl,Below.refl _ _⟩
def Tryz.IntV (w:World) (v:Value) (xs:List Int):Prop:=
 ∃ (sa:Option Addr) (c:Nat),v= .slice sa xs.length c∧(xs= []∨ ∃R o,sa=some ⟨R,o,none⟩∧w.rangeAt R o (zat xs))
theorem Tryz.int_lt {w:World} {R o:Nat} {l:List Int} (h:w.rangeAt R o (zat l)) (h0:l≠ []):R<w.heap.size:=by
 match l,h0 with
 | x::r,_=>exact World.block_lt_of_cell? w _ (h 0 (.int .i64 x) rfl)
theorem Tryz.zrl {w:World} {R o:Nat} {l:List Int} (h:w.rangeAt R o (zat l)) (k:Nat) (hk:k<l.length):w.rangeAt R (o+1*k) [.int .i64 l[k]]:=fun j v hv=>by
 have hj:j=0:=by
  have:=(List.getElem?_eq_some_iff.1 hv).1
  simp at this;exact this
 subst hj
 have:=h k (.int .i64 l[k]) (by simp [zat,hk])
 simp at hv
 rw [←hv]
 simpa using this
set_option maxRecDepth 10000 in
theorem Tryz.zzY {w:World} {v1 v2:Value} {l1 l2:List Int} (h1:IntV w v1 l1) (h2:IntV w v2 l2) (hl:l1.length<4000000) (hl2:l2.length<4000000):
  Calls prog 17 #[v1,v2] w fun e w'=>e= .returned (.bool (decide (l1=l2)))∧Below w.heap.size w w':=by
 obtain ⟨sa,c,rfl,hr⟩:=h1
 obtain ⟨sb,d,rfl,hr2⟩:=h2
 by_cases hlen:l1.length=l2.length
 ·have e2:Value.slice sb l2.length d= .slice sb l1.length d:=by rw [hlen]
  rw [e2]
  obtain ⟨n,hn⟩: ∃n,n=l1.length:=⟨_,rfl⟩
  have hn2:n=l2.length:=hn.trans hlen
  rw [←hn]
  have Hn:(fun _:Unit=>n)=fun _=>l1.length:=by rw [hn]
  have Hn2:(fun _:Unit=>n)=fun _=>l2.length:=by rw [hn2]
  clear hlen e2 hn hn2
  go_enter func17,ntmps17
  go_wp2
  rename_i K hK
  have hn:n=l1.length:=congrFun Hn ()
  have hn2:n=l2.length:=congrFun Hn2 ()
  clear Hn Hn2
  refine zbH (c':= .loop (zaI prog [0,0,1,0,1,1,17])) (by kernel_rfl) ?_
  have done: ∀ {a2:Act} {w2:World} {b:Bool},a2.defers= []→a2.tmps.getD 4 undef= .bool b→b=decide (l1=l2)→Below w.heap.size w w2→
    bodyPost prog f17 (fun e w'=>e= .returned (.bool (decide (l1=l2)))∧RowKit.Below w.heap.size w w') .ret a2 w2:=fun {a2 w2 b} q1 q2 q3 q4=>
   zcu (fn:=f17) (Post:=fun e w'=>e= .returned (.bool (decide (l1=l2)))∧RowKit.Below w.heap.size w w') q1 rfl q2 ⟨by rw [q3],q4⟩
  refine zbl (fun (k:Nat) a' w'=>k≤n∧a'.tmps.size=26∧a'.defers= []∧a'.tmps.getD 0 undef= .slice sa n c∧a'.tmps.getD 1 undef= .slice sb n d∧a'.tmps.getD 5 undef= .int .i64 k∧Below w.heap.size w w'∧ ∀i,i<k→l1[i]? =l2[i]?)
   (fun k=>n-k) (fun k a1 w1 hI=> ?_) 0 _ _ ⟨Nat.zero_le _,rfl,rfl,rfl,rfl,rfl,Below.refl _ _,fun i hi=>absurd hi (Nat.not_lt_zero i)⟩
  obtain ⟨hk,q0,qd,p0,p1,p5,hb,heq⟩:=hI
  have hwk:=zes k (by omega)
  by_cases hkn:k<n
  ·rcases hr with h0|⟨R,o,rfl,hr⟩
   ·rw [h0] at hn;simp at hn;omega
   rcases hr2 with h0|⟨R2,o2,rfl,hr2⟩
   ·rw [h0] at hn2;simp at hn2;omega
   have hne1:l1≠ []:=fun h=>by rw [h] at hn;simp at hn;omega
   have hne2:l2≠ []:=fun h=>by rw [h] at hn2;simp at hn2;omega
   have hx:=zrl (zaJ hr (hb.block R (int_lt hr hne1))) k (by omega)
   have hx2:=zrl (zaJ hr2 (hb.block R2 (int_lt hr2 hne2))) k (by omega)
   have g1:l1[k]? =some l1[k]:=List.getElem?_eq_getElem (by omega)
   have g2:l2[k]? =some l2[k]:=List.getElem?_eq_getElem (by omega)
   generalize l1[k]=X at hx g1
   generalize l2[k]=Y at hx2 g2
   have d0:(lnv 0).den (vof [n,k,0,X,0,Y] [] [undef,.slice (some ⟨R,o,none⟩) n c,.slice (some ⟨R2,o2,none⟩) n d])=n:=zaR (by show (0:Int)≤n;omega) (by show (n:Int)<_;omega)
   have d1:(lnv 1).den (vof [n,k,0,X,0,Y] [] [undef,.slice (some ⟨R,o,none⟩) n c,.slice (some ⟨R2,o2,none⟩) n d])=k:=zaR (by show (0:Int)≤k;omega) (by show (k:Int)<_;omega)
   have d3:(vof [n,k,0,X,0,Y] [] [undef,.slice (some ⟨R,o,none⟩) n c,.slice (some ⟨R2,o2,none⟩) n d]).i 3=X:=rfl
   have d5:(vof [n,k,0,X,0,Y] [] [undef,.slice (some ⟨R,o,none⟩) n c,.slice (some ⟨R2,o2,none⟩) n d]).i 5=Y:=rfl
   have v1:(vof [n,k,0,X,0,Y] [] [undef,.slice (some ⟨R,o,none⟩) n c,.slice (some ⟨R2,o2,none⟩) n d]).v 1= .slice (some ⟨R,o,none⟩) n c:=rfl
   have v2:(vof [n,k,0,X,0,Y] [] [undef,.slice (some ⟨R,o,none⟩) n c,.slice (some ⟨R2,o2,none⟩) n d]).v 2= .slice (some ⟨R2,o2,none⟩) n d:=rfl
   generalize vof [n,k,0,X,0,Y] [] [undef,.slice (some ⟨R,o,none⟩) n c,.slice (some ⟨R2,o2,none⟩) n d]=ρ at d0 d1 d3 d5 v1 v2
   have hj1:jOf [(R,o+1*k),(R2,o2+1*k)] 1=some ⟨R,o+1*k,0,none⟩:=rfl
   have hj2:jOf [(R,o+1*k),(R2,o2+1*k)] 2=some ⟨R2,o2+1*k,0,none⟩:=rfl
   refine wp_mono (zax (ρ:=ρ) (K:=fun _=>False) (g:=Gho.none) (bl:= [(R,o+1*k),(R2,o2+1*k)]) mixed zI6 zKY (fun b h=>h.elim)
    ⟨zaQ hx (by simp) (zab (zac d3) RL.nil) (fun h=>h),zaQ hx2 (by simp) (zab (zac d5) RL.nil) (fun h=>h),trivial⟩ ⟨fun hh=>(by cases hh),fun hh=>(by cases hh),trivial⟩ zaB trivial trivial trivial q0 qd ?_ (zaa.2 ⟨by rw [zaX,d1,d0];exact decide_eq_true (by omega),zad.2 trivial⟩)) fun ex a2 w2 hh=> ?_
   ·intro t ht
    simp only [zg0,List.mem_cons,List.not_mem_nil,or_false] at ht
    rcases ht with rfl|rfl|rfl
    ·rw [p0];exact ⟨v1.symm,_,_,_,rfl,d0.symm,⟨R,o,_,k,rfl,hj1,rfl,d1,hkn,rfl⟩,trivial⟩
    ·rw [p1];exact ⟨v2.symm,_,_,_,rfl,d0.symm,⟨R2,o2,_,k,rfl,hj2,rfl,d1,hkn,rfl⟩,trivial⟩
    ·rw [p5];exact zac d1
   ·obtain ⟨q,hq,hto,lf,hlf,rfl,hsz2,j2,hdf2,he⟩:=hh
    have hb3:=zam he (fun _ h=>h)
    have hb4:=hb.trans (hb3.mono hb.size)
    unfold zGE at hq
    simp only [List.mem_cons,List.not_mem_nil,or_false] at hq
    rcases hq with rfl|rfl
    ·cases hlf
     have hs2:=zaE he.ret
     simp only [AV.valL,AV.val,zbA,List.map_cons,List.map_nil,List.cons.injEq,and_true] at hs2
     refine done hdf2 hs2 ?_ hb4
     simp only [zaa,zad,zbs,zay,d3,d5,and_true] at hto
     symm
     refine decide_eq_false fun hh=> ?_
     rw [hh] at g1
     rw [g1] at g2
     injection g2 with g2
     rw [g2] at hto
     simp at hto
    ·cases hlf
     have hs2:=zaE he.ret
     simp only [AV.valL,AV.val,den_add,zaf,d0,d1,v1,v2,hwk,List.map_cons,List.map_nil,List.cons.injEq,and_true] at hs2
     simp only [zaa,zad,zbs,zay,d3,d5,and_true] at hto
     have hXY:X=Y:=by simpa using hto
     refine ⟨k+1,by omega,by omega,hsz2,hdf2,hs2.1,hs2.2.1,hs2.2.2,hb4,fun i hi=> ?_⟩
     by_cases hik:i=k
     ·subst hik;rw [g1,g2,hXY]
     ·exact heq i (by omega)
  ·have hkk:k=n:=by omega
   subst hkk
   have hll:l1=l2:=List.ext_getElem? fun i=>by
    by_cases hi:i<k
    ·exact heq i hi
    ·rw [List.getElem?_eq_none (by omega),List.getElem?_eq_none (by omega)]
   have d0:(lnv 0).den (vof [k,k] [] [undef,.slice sa k c,.slice sb k d])=k:=zaR (by show (0:Int)≤k;omega) (by show (k:Int)<_;omega)
   have d1:(lnv 1).den (vof [k,k] [] [undef,.slice sa k c,.slice sb k d])=k:=zaR (by show (0:Int)≤k;omega) (by show (k:Int)<_;omega)
   have v1:(vof [k,k] [] [undef,.slice sa k c,.slice sb k d]).v 1= .slice sa k c:=rfl
   have v2:(vof [k,k] [] [undef,.slice sa k c,.slice sb k d]).v 2= .slice sb k d:=rfl
   generalize vof [k,k] [] [undef,.slice sa k c,.slice sb k d]=ρ at d0 d1 v1 v2
   refine wp_mono (zax (ρ:=ρ) (K:=fun _=>False) (g:=Gho.none) (bl:= []) mixed zI4 zKX (fun b h=>h.elim) trivial trivial zaB trivial trivial trivial q0 qd ?_ (zaa.2 ⟨by rw [zaX,d1,d0];exact decide_eq_false (by omega),zad.2 trivial⟩)) fun ex a2 w2 hh=> ?_
   ·intro t ht
    simp only [zgZ,List.mem_cons,List.not_mem_nil,or_false] at ht
    rcases ht with rfl|rfl|rfl
    ·rw [p0];exact ⟨v1.symm,_,_,_,rfl,d0.symm,trivial⟩
    ·rw [p1];exact ⟨v2.symm,_,_,_,rfl,d0.symm,trivial⟩
    ·rw [p5];exact zac d1
   ·obtain ⟨q,hq,hto,lf,hlf,rfl,hsz2,j2,hdf2,he⟩:=hh
    have hb3:=zam he (fun _ h=>h)
    have hb4:=hb.trans (hb3.mono hb.size)
    unfold zGC at hq
    simp only [List.mem_cons,List.not_mem_nil,or_false] at hq
    subst hq
    cases hlf
    show K a2 w2
    refine hK _ _ ?_
    obtain ⟨tmps,dfr⟩:=a2
    have hdf2:dfr= []:=hdf2
    have hsz2:tmps.size=26:=hsz2
    subst hdf2
    have hdec:(fun _:Unit=>true)=fun _=>decide (l1=l2):=by rw [decide_eq_true hll]
    clear hn hn2 hll
    go_wp2_with fail
    refine done (a2:=⟨_,[]⟩) rfl ?_ (congrFun hdec ()) hb4
    simp [hsz2]
 ·have hne: ¬((l1.length:Int)=l2.length):=by omega
  have hd:decide (l1=l2)=false:=decide_eq_false fun hh=>hlen (by rw [hh])
  rw [hd]
  clear hlen hd
  go_enter func17,ntmps17
  go_wp2
  go_ret
  exact ⟨rfl,Below.refl _ _⟩
end Go.Proofs
namespace Go.Proofs
open Go.Dw Go.RowKit
set_option maxRecDepth 100000 in
theorem Tryz.zA5 {A:Nat→Prop} {w:World} {v:Value} {l:List Sg} (h:SegV A w v l) (hl:l.length≤60000):
    Calls prog 10 #[v,.bool true] w fun e w'=>e= .returned (.int .i64 (if za9 l=0 then 1 else 0))∧Below w.heap.size w w':=by
  have hm:=zte h hl
  by_cases h0:za9 l=0
  · rw [h0] at hm
    rw [if_pos h0]
    clear h0
    go_enter func10,ntmps10
    go_wp2_with (first
      | (go_at_call 50;refine hm.mono ?_;rintro e w' ⟨rfl,hb⟩)
      | go_in)
    go_ret
    exact ⟨rfl,hb⟩
  · rw [if_neg h0]
    go_enter func10,ntmps10
    go_wp2_with (first
      | (go_at_call 50;refine hm.mono ?_;rintro e w' ⟨rfl,hb⟩)
      | go_in)
    go_ret
    exact ⟨rfl,hb⟩
theorem Tryz.zLp {fn:Func} {p:Tmp} {ty:TypeId} (h:fn.results= #[.cell p ty]) (tmps:Array Value) (w:World) (b:Nat) (cs:List Value) (d:TypeDesc)
  (hp:tmps.getD p undef= .pointer (some ⟨b,0,none⟩)) (hg:w.rangeAt b 0 cs) (hu:prog.underlying ty=some d) (hd:d.isRow=true) (hi:(prog.info? ty).map (·.size)=some cs.length):
  (results fn tmps).run prog w= .ok (.agg cs.toArray) w:=by
 have hp':tmps[p]?.getD undef= .pointer (some ⟨b,0,none⟩):=by simpa using hp
 simp [results,h,hp',asAddr,run_loadVar_mid w b 0 ty cs d hg hu hd hi]
set_option maxRecDepth 100000 in
theorem Tryz.zAk {w:World} {v:Int} (h:0≤v∧v<65536):
  Calls prog 22 #[.int .u64 v] w fun e w'=>e= .returned (.agg #[.int .u32 v,.int .u32 0])∧Below w.heap.size w w':=by
 have e1:v.tmod 4294967296=v:=by rw [Int.tmod_eq_emod_of_nonneg h.1];exact Int.emod_eq_of_lt h.1 (by omega)
 have e2:IntKind.wrap .u64 v=v:=zaL (by omega) (by omega)
 have e3:IntKind.wrap .u32 v=v:=by
  show v%4294967296=v
  exact Int.emod_eq_of_lt h.1 (by omega)
 have e4:v/4294967296=0:=Int.ediv_eq_zero_of_lt h.1 (by omega)
 have hA:=(Below.refl w.heap.size w).alloc (Nat.le_refl _)
 go_enter func22,ntmps22
 go_wp2
 have kc:=Cl.new w #[.int .u32 v,.int .u32 0] 65
 refine bodyPost_ret (zLp rfl _ _ w.heap.size [.int .u32 v,.int .u32 0] _ rfl (fun j y hy=>by rw [Nat.zero_add];exact kc.cell j y hy) underlying65 rfl (by kernel_rfl)) rfl ?_
 exact ⟨rfl,hA _⟩
theorem Tryz.znD {h:Int}: ∀ {tk:List (Int×List Sg)},h∉tk.map (·.1)→zbz h tk=none
 | [], _=>rfl
 | e::r,hn=>by
  rw [List.map_cons,List.mem_cons,not_or] at hn
  unfold zbz
  rw [if_neg hn.1]
  exact znD hn.2
theorem Tryz.zoS {h:Int}: ∀ {tk:List (Int×List Sg)},h∈tk.map (·.1)→ ∃l,zbz h tk=some l∧(h,l)∈tk
 | [], hm=>by simp at hm
 | e::r,hm=>by
  unfold zbz
  by_cases he:h=e.1
  ·rw [if_pos he]
   exact ⟨e.2,rfl,by rw [he];exact List.mem_cons_self ..⟩
  ·rw [if_neg he]
   rw [List.map_cons,List.mem_cons] at hm
   rcases hm with hm|hm
   ·exact absurd hm he
   ·obtain ⟨l,h1,h2⟩:=zoS hm
    exact ⟨l,h1,List.mem_cons_of_mem _ h2⟩
theorem Tryz.zoU {h:Int}: ∀ {tk:List (Int×List Sg)},(zeD h tk).map (·.1)=(tk.map (·.1)).erase h
 | [] => rfl
 | e::r=>by
  unfold zeD
  by_cases he:h=e.1
  ·rw [if_pos he,List.map_cons,List.erase_cons,if_pos (by rw [he];simp)]
  ·rw [if_neg he,List.map_cons,List.map_cons,List.erase_cons,if_neg (by simpa using fun hh=>he hh.symm),zoU]
theorem Tryz.zBS {s:SS} (hp:(s.tk.map (·.1)).Pairwise (· < ·)):zya s=s.tk.map (·.1):=by
 unfold zya
 refine List.mergeSort_of_pairwise ?_
 exact hp.imp fun h=>by simp only [leI,decide_eq_true_eq];omega
theorem Tryz.zFj {l:List Int} (hp:l.Pairwise (· < ·)) {k:Nat} (hk:k<l.length):l.take k++l.drop (k+1)=l.erase l[k]:=by
 have hnd:l.Nodup:=hp.imp fun h=>by omega
 have hsp:l=l.take k++l[k]::l.drop (k+1):=by
  conv=>lhs;rw [←List.take_append_drop k l,List.drop_eq_getElem_cons hk]
 have hni:l[k]∉l.take k:=fun hh=>by
  obtain ⟨i,hi,he⟩:=List.mem_iff_getElem.1 hh
  rw [List.getElem_take] at he
  have hi':i<k:=by simp at hi;omega
  exact (List.pairwise_iff_getElem.1 hnd) i k (by omega) hk hi' he
 obtain ⟨x,hx⟩: ∃x,x=l[k]:=⟨_,rfl⟩
 rw [←hx] at hsp hni ⊢
 conv=>rhs;rw [hsp]
 rw [List.erase_append_right _ hni,List.erase_cons_head]
theorem Tryz.zcO {g:Nat→Int} {a:Nat} {v:Int}: ∀ {n:Nat},0≤v→(∀i,i<n→g (a+i)=v/2^(8*i)%256)→zai g a n=v%256^n
 | 0,_,_=>by simp [zai,Int.emod_one]
 | n+1,h0,h=>by
  have ih:=zcO (n:=n) h0 fun i hi=>h i (by omega)
  unfold zai
  rw [ih,h n (by omega)]
  have e:(2:Int)^(8*n)=256^n:=by rw [Int.pow_mul];rfl
  rw [e]
  have hp:(0:Int)<256^n:=Int.pow_pos (by decide)
  have h1:=Int.emod_add_mul_ediv v (256^n)
  have h2:=Int.emod_add_mul_ediv (v/256^n) 256
  have h3:=Int.emod_add_mul_ediv v (256^(n+1))
  have h4:v/256^(n+1)=v/256^n/256:=by
   rw [Int.pow_succ,Int.ediv_ediv_of_nonneg (by omega)]
  rw [h4] at h3
  have h5:(256:Int)^(n+1)=256^n*256:=Int.pow_succ ..
  rw [h5] at h3 ⊢
  have h6:(256:Int)^n*256*(v/256^n/256)=256^n*(256*(v/256^n/256)):=by rw [Int.mul_assoc]
  have h7:(256:Int)^n*(v/256^n)=256^n*(v/256^n%256)+256^n*(256*(v/256^n/256)):=by rw [←Int.mul_add,h2]
  have h8:v/256^n%256*256^n=256^n*(v/256^n%256):=Int.mul_comm ..
  rw [h8]
  omega
theorem Tryz.zoE {g g':Nat→Int} {a:Nat}: ∀ {n:Nat},(∀i,i<n→g' (a+i)=g (a+i))→zai g' a n=zai g a n
 | 0,_=>rfl
 | n+1,h=>by
  unfold zai
  rw [zoE (n:=n) fun i hi=>h i (by omega),h n (by omega)]
theorem Tryz.ziy {g:Nat→Int} {a n:Nat} {v:Int} (h0:0≤v):zai (putW g a n v) a n=v%256^n:=
 zcO h0 fun i hi=>by
  unfold putW
  rw [if_pos ⟨by omega,by omega⟩,Nat.add_sub_cancel_left]
theorem Tryz.zdk {g:Nat→Int} {a n b m:Nat} {v:Int} (h:a+n≤b∨b+m≤a):zai (putW g b m v) a n=zai g a n:=
 zoE fun i hi=>by
  unfold putW
  rw [if_neg (by omega)]
structure Tryz.PtAt (g:Nat→Int) (a:Nat) (p:Pt):Prop where
 w: ∀i,i<16→g (a+i)=p.bytes.getD i 0
theorem Tryz.zdj (v:Int) (n i:Nat) (h:i<n):(bytesOf v n).getD i 0=v/2^(8*i)%256:=by
 simp [bytesOf,h]
theorem Tryz.PtAt.words {g:Nat→Int} {a:Nat} {p:Pt} (h:PtAt g a p) (hp:p.ok):zai g a 8=p.a∧zai g (a+8) 4=p.ln∧zai g (a+12) 2=p.f∧zai g (a+14) 2=p.nx:=by
 have L8:=zbD p.a 8
 have L4:=zbD p.ln 4
 have L2:=zbD p.f 2
 have M2:=zbD p.nx 2
 have b: ∀i,i<16→p.bytes.getD i 0=if i<8 then p.a/2^(8*i)%256 else if i<12 then p.ln/2^(8*(i-8))%256 else if i<14 then p.f/2^(8*(i-12))%256 else p.nx/2^(8*(i-14))%256:=fun i hi=>by
  unfold Pt.bytes
  simp only [List.getD_eq_getElem?_getD]
  by_cases h1:i<8
  ·rw [if_pos h1,List.getElem?_append_left (by simp only [List.length_append,L8,L4,L2];omega),List.getElem?_append_left (by simp only [List.length_append,L8,L4];omega),List.getElem?_append_left (by omega),←List.getD_eq_getElem?_getD,zdj _ _ _ h1]
  ·rw [if_neg h1]
   by_cases h2:i<12
   ·rw [if_pos h2,List.getElem?_append_left (by simp only [List.length_append,L8,L4,L2];omega),List.getElem?_append_left (by simp only [List.length_append,L8,L4];omega),List.getElem?_append_right (by omega),L8,←List.getD_eq_getElem?_getD,zdj _ _ _ (by omega)]
   ·rw [if_neg h2]
    by_cases h3:i<14
    ·rw [if_pos h3,List.getElem?_append_left (by simp only [List.length_append,L8,L4,L2];omega),List.getElem?_append_right (by simp only [List.length_append,L8,L4];omega),←List.getD_eq_getElem?_getD]
     simp only [List.length_append,L8,L4]
     rw [show i-(8+4)=i-12 by omega,zdj _ _ _ (by omega)]
    ·rw [if_neg h3,List.getElem?_append_right (by simp only [List.length_append,L8,L4,L2];omega),←List.getD_eq_getElem?_getD]
     simp only [List.length_append,L8,L4,L2]
     rw [show i-(8+4+2)=i-14 by omega,zdj _ _ _ (by omega)]
 refine ⟨?_,?_,?_,?_⟩
 ·rw [zcO hp.a.1 fun i hi=>by rw [h.w i (by omega),b i (by omega),if_pos hi]]
  exact Int.emod_eq_of_lt hp.a.1 (by have:=hp.a.2;simpa using this)
 ·rw [zcO hp.ln.1 fun i hi=>by rw [Nat.add_assoc,h.w (8+i) (by omega),b (8+i) (by omega),if_neg (by omega),if_pos (by omega),Nat.add_sub_cancel_left]]
  exact Int.emod_eq_of_lt hp.ln.1 (by have:=hp.ln.2;simpa using this)
 ·rw [zcO hp.f.1 fun i hi=>by rw [Nat.add_assoc,h.w (12+i) (by omega),b (12+i) (by omega),if_neg (by omega),if_neg (by omega),if_pos (by omega),Nat.add_sub_cancel_left]]
  exact Int.emod_eq_of_lt hp.f.1 (by have:=hp.f.2;simpa using this)
 ·rw [zcO hp.nx.1 fun i hi=>by rw [Nat.add_assoc,h.w (14+i) (by omega),b (14+i) (by omega),if_neg (by omega),if_neg (by omega),if_neg (by omega),Nat.add_sub_cancel_left]]
  exact Int.emod_eq_of_lt hp.nx.1 (by have:=hp.nx.2;simpa using this)
theorem Tryz.zAy {d:Int} (hd:0≤d): ∀ {ps:List Pt} {g:Nat→Int},(ps.map (·.at0)).Nodup→(∀p∈ps,0≤p.at0)→
  (∀ p∈ps,PtAt (zdm d ps g) (d+16*p.at0).toNat p)∧(∀j:Nat,(∀p∈ps,(j:Int)<d+16*p.at0∨d+16*p.at0+16≤(j:Int))→zdm d ps g j=g j)
 | [], g,_,_=>⟨fun p hp=>(by cases hp),fun j _=>rfl⟩
 | q::ps,g,hn,h0=>by
  rw [List.map_cons,List.nodup_cons] at hn
  have hq:=h0 q (List.mem_cons_self ..)
  obtain ⟨i1,i2⟩:=zAy hd (ps:=ps) (g:=putL g (d+16*q.at0).toNat q.bytes) hn.2 fun p hp=>h0 p (List.mem_cons_of_mem _ hp)
  have e:zdm d (q::ps) g=zdm d ps (putL g (d+16*q.at0).toNat q.bytes):=rfl
  have hql:=Pt.bytes_len q
  have hap: ∀p∈ps,p.at0≠q.at0:=fun p hp hh=>hn.1 (hh▸List.mem_map_of_mem hp)
  rw [e]
  refine ⟨fun p hp=> ?_,fun j hj=> ?_⟩
  ·rcases List.mem_cons.1 hp with rfl|hp
   ·refine ⟨fun i hi=> ?_⟩
    rw [i2 _ fun p' hp'=> ?_,zs6,if_pos ⟨by omega,by omega⟩,Nat.add_sub_cancel_left]
    have h1:=hap p' hp'
    have h2:=h0 p' (List.mem_cons_of_mem _ hp')
    omega
   ·exact i1 p hp
  ·rw [i2 j fun p hp=>hj p (List.mem_cons_of_mem _ hp),zs6,if_neg]
   have:=hj q (List.mem_cons_self ..)
   omega
theorem Tryz.zEH {ids:List Int} {l:List Sg} {k:Nat} (hil:ids.length=l.length) (hok: ∀x∈l,x.ok) (hin: ∀x∈ids,0≤x∧x<32768) (hk:k<l.length):(putAt ids l k).ok∧0≤(putAt ids l k).at0∧(putAt ids l k).at0<32768:=
 zjY hil hok hin _ (List.mem_map.2 ⟨k,List.mem_range.2 hk,rfl⟩)
theorem Tryz.znt {N:Nat} {g:Nat→Int} {tab:Int→Int→Int→WS→WS} {at0 size:Int} {ids:List Int} {l:List Sg} (hil:ids.length=l.length) (hnd:ids.Nodup) (hin: ∀x∈ids,0≤x∧x<size) (hsz:size≤32768) (h0:0≤at0) (hfit:at0+16*size≤N) (hN:N≤1048576) (hok: ∀x∈l,x.ok)
  (hat: ∀k,k<l.length→PtAt g (at0+16*ids.getD k 0).toNat (putAt ids l k)): ∀(m f k:Nat),k+m=l.length→1≤m→m≤f→
   zbt N g tab f at0 size (ids.getD k 0) (ids.take k).reverse ⟨l.take k,k,0⟩=⟨l,l.length,0⟩
 | m,0,k,_,h1,h2=>by omega
 | m,f+1,k,hkm,h1,h2=>by
  have hk:k<l.length:=by omega
  have hki:k<ids.length:=by omega
  have gk:ids.getD k 0=ids[k]:=by simp [List.getD_eq_getElem?_getD,hki]
  have lk:l.getD k ⟨0,0,false⟩=l[k]:=by simp [List.getD_eq_getElem?_getD,hk]
  have hb:=hin ids[k] (List.getElem_mem hki)
  obtain ⟨hp,_,_⟩:=zEH hil hok (fun x hx=>⟨(hin x hx).1,by have:=(hin x hx).2;omega⟩) hk
  obtain ⟨w1,w2,w3,w4⟩:=(hat k hk).words hp
  have hns:ids.getD k 0∉(ids.take k).reverse:=by
   rw [gk,List.mem_reverse]
   intro hh
   obtain ⟨i,hi,he⟩:=List.mem_iff_getElem.1 hh
   rw [List.getElem_take] at he
   have hi':i<k:=by simp at hi;omega
   have hne:=(List.pairwise_iff_getElem.1 hnd) i k (by omega) hki hi'
   exact hne he
  have hm:(at0+16*ids.getD k 0)%18446744073709551616=at0+16*ids.getD k 0:=Int.emod_eq_of_lt (by rw [gk];omega) (by rw [gk];omega)
  have e3:(putAt ids l k).f=(if (l.getD k ⟨0,0,false⟩).wr then 2 else 0)+(if k+1<l.length then 1 else 0):=rfl
  have hf4:(putAt ids l k).f/4%2=0:=by rw [e3];split<;>split<;>decide
  have hsg:zex g (at0+16*ids.getD k 0).toNat=l[k]:=by
   unfold zex
   rw [w1,w2,w3,e3]
   show (⟨(l.getD k ⟨0,0,false⟩).at1,(l.getD k ⟨0,0,false⟩).len,_⟩:Sg)=l[k]
   rw [lk]
   rcases l[k] with ⟨a,b,wr⟩
   cases wr<;>by_cases hh:k+1<l.length<;>simp [hh]
  unfold zbt
  rw [if_neg (by rw [not_or];exact ⟨hns,by rw [gk];omega⟩),hm,if_neg (by rw [gk,Classical.not_not];omega),w3,if_neg (by rw [hf4];decide),hsg,w4]
  by_cases hlast:k+1<l.length
  ·rw [if_neg (by rw [e3,if_pos hlast];split<;>decide)]
   have hnx:(putAt ids l k).nx=ids.getD (k+1) 0:=by
    show (if k+1<l.length then ids.getD (k+1) 0%65536 else 0)=_
    rw [if_pos hlast]
    have hki1:k+1<ids.length:=by omega
    have gk1:ids.getD (k+1) 0=ids[k+1]:=by simp [List.getD_eq_getElem?_getD,hki1]
    have:=hin ids[k+1] (List.getElem_mem hki1)
    rw [gk1]
    exact Int.emod_eq_of_lt this.1 (by omega)
   rw [hnx]
   have:=znt hil hnd hin hsz h0 hfit hN hok hat (m-1) f (k+1) (by omega) (by omega) (by omega) (tab:=tab)
   rw [←this]
   congr 1
   ·rw [List.take_succ_eq_append_getElem hki,List.reverse_append,gk];rfl
   ·rw [List.take_succ_eq_append_getElem hk]
    rfl
  ·rw [if_pos (by rw [e3,if_neg hlast];split<;>decide)]
   have hkl:k+1=l.length:=by omega
   have:l.take k++ [l[k]]=l:=by rw [←List.take_succ_eq_append_getElem hk,hkl,List.take_length]
   rw [this]
   show (⟨l,(k:Int)+1,0⟩:WS)=⟨l,l.length,0⟩
   rw [←hkl];rfl
theorem Tryz.zs9 {N:Nat} {r:Rg} {g:Nat→Int} {ids:List Int} {l:List Sg} {k:Int} (hr:RgOk r) (hN:N≤1048576) (hfit:r.d+16*r.n≤N∧r.v+6+2*r.n≤N) (he:za9 l=0) (hil:ids.length=l.length) (hln:(l.length:Int)≤r.n) (hnd:ids.Nodup) (hin: ∀x∈ids,0≤x∧x<r.n) (hok: ∀x∈l,x.ok) (hk:0≤k) (hsi:zcc N l=true) (tb:Bool):
  zai (zdB r ids l k g) (r.v+2).toNat 2=(k+1)%65536∧zai (zdB r ids l k g) (r.v+4+2*(k%r.n)).toNat 2=ids.getD 0 0∧zbg N (zdB r ids l k g) r (ids.getD 0 0) tb=(l,0):=by
 have hb:=hr.bnd
 have hd0:=hr.d0
 have hv0:=hr.v0
 have hm0:0≤k%r.n:=Int.emod_nonneg _ (by omega)
 have hm1:k%r.n<r.n:=Int.emod_lt_of_pos _ (by omega)
 have hne:l≠ []:=fun h=>by
  subst h
  unfold za9 at he
  split at he
  ·cases he
  ·rename_i hh
   exact hh ⟨he,rfl⟩
 have hse:zaZ l=0:=by
  unfold za9 at he
  split at he
  ·cases he
  ·exact he
 have hlp:0<l.length:=List.length_pos_iff.2 hne
 have h0i:0<ids.length:=by omega
 have g0:ids.getD 0 0=ids[0]:=by simp [List.getD_eq_getElem?_getD,h0i]
 have hi0:=hin ids[0] (List.getElem_mem h0i)
 unfold zdB
 rw [if_pos he]
 refine ⟨?_,?_,?_⟩
 ·rw [ziy (by omega)];rfl
 ·rw [zdk (by omega),ziy (by rw [g0];exact hi0.1),g0]
  exact Int.emod_eq_of_lt hi0.1 (by show ids[0]<65536;omega)
 ·have hmap:(za0 ids l l.length).map (·.at0)=ids:=by
   refine List.ext_getElem (by simp [za0,hil]) fun i h1 h2=> ?_
   simp [za0,putAt,h2]
  obtain ⟨q1,q2⟩:=zAy hd0 (ps:=za0 ids l l.length) (g:=g) (by rw [hmap];exact hnd) fun p hp=>(zjY hil hok hin p hp).2.1
  have hsR:zdc N (putW (putW (zdm r.d (za0 ids l l.length) g) (r.v+4+2*(k%r.n)).toNat 2 (ids.getD 0 0)) (r.v+2).toNat 2 (k+1)) r (ids.getD 0 0) tb=⟨l,l.length,0⟩:=by
   unfold zdc
   refine znt hil hnd hin hb.2 hd0 hfit.1 hN hok (fun i hi=> ?_) l.length (r.n.toNat+1) 0 (by omega) (by omega) (by omega)
   have hp:=q1 (putAt ids l i) (List.mem_map.2 ⟨i,List.mem_range.2 hi,rfl⟩)
   have hii:i<ids.length:=by omega
   have gi:ids.getD i 0=ids[i]:=by simp [List.getD_eq_getElem?_getD,hii]
   have hbi:=hin ids[i] (List.getElem_mem hii)
   have ea:(putAt ids l i).at0=ids.getD i 0:=rfl
   rw [ea] at hp
   refine ⟨fun j hj=> ?_⟩
   rw [←hp.w j hj]
   have hdv:=hr.dv
   have e1:putW (putW (zdm r.d (za0 ids l l.length) g) (r.v+4+2*(k%r.n)).toNat 2 (ids.getD 0 0)) (r.v+2).toNat 2 (k+1) ((r.d+16*ids.getD i 0).toNat+j)=putW (zdm r.d (za0 ids l l.length) g) (r.v+4+2*(k%r.n)).toNat 2 (ids.getD 0 0) ((r.d+16*ids.getD i 0).toNat+j):=by
    rw [gi]
    unfold putW
    rw [if_neg (by omega)]
   rw [e1]
   rw [gi]
   unfold putW
   rw [if_neg (by omega)]
  unfold zbg
  rw [hsR]
  have hlook:zf2 N l=0:=by
   unfold zf2
   rw [if_neg (by rw [not_or];exact ⟨hne,by rw [Classical.not_not];exact hse⟩)]
   unfold zgx
   rw [if_pos hse,if_pos hsi]
  simp only [if_true,hlook]
def Tryz.finS (N:Nat) (r:Rg):Nat→Int→SS→(Nat→Int)→Int×SS×(Nat→Int)
 | 0,n,s,g=>(n,s,g)
 | f+1,n,s,g=>if s.ph=0 then (n,s,g) else if (zaT N r s g).2.1=0 then finS N r f (n+1) (zaT N r s g).2.2.1 (zaT N r s g).2.2.2 else (-1,(zaT N r s g).2.2.1,(zaT N r s g).2.2.2)
theorem Tryz.ziM {N:Nat} {r:Rg} {f:Nat} {n:Int} {s:SS} {g:Nat→Int} (h:s.ph=0):finS N r f n s g=(n,s,g):=by
 cases f with
 | zero=>rfl
 | succ f=>unfold finS;rw [if_pos h]
theorem Tryz.zbN {N:Nat} {r:Rg} {f:Nat} {n:Int} {s:SS} {g:Nat→Int} {x:Value} {s':SS} {g':Nat→Int} (h:s.ph≠0) (e:zaT N r s g=(x,0,s',g')):finS N r (f+1) n s g=finS N r f (n+1) s' g':=by
 conv=>lhs;unfold finS
 rw [if_neg h,e];rfl
theorem Tryz.zca {N:Nat} {r:Rg} {s:SS} {g:Nat→Int} {p:Nat} (hb:s.br=false) (hp:s.ph=p):zaT N r s g=zHQ N r s g p:=by
 unfold zaT
 rw [if_neg (by rw [hb];decide),hp]
theorem Tryz.zxM {N:Nat} {r:Rg} {s:SS} {g:Nat→Int} {h:Int} {l:List Sg} (hr:RgOk r) (hph:s.ph=0) (hb:s.br=false) (hn0:0≤s.nx∧s.nx<60000) (hidx:zai g (r.v+2).toNat 2=s.nx+1) (hring:zai g (r.v+4+2*(s.nx%r.n)).toNat 2=h) (hfree:zbz h s.tk=none) (hsp:zbg N g r h s.tb=(l,0)):
  (zda s).1=0∧finS N r 20 0 (zda s).2 g=(4,{ s with op:=3,nn:=false,hd:=h,sg:=l,wr:=0,it:=false,tk:=s.tk++ [(h,l)],nx:=s.nx+1,ph:=0,dn:=true,br:=false },g):=by
 have hbn:=hr.bnd
 have hpoll:zda s=(0,({ s with op:=3,nn:=false,hd:=0,sg:= [],wr:=0,it:=false }:SS).goto 1):=by
  unfold zda
  rw [if_neg (by rw [hb];decide),if_neg (by rw [hph];decide)]
 rw [hpoll]
 refine ⟨rfl,?_⟩
 have hah:zc7 r g (({ s with op:=3,nn:=false,hd:=0,sg:= [],wr:=0,it:=false }:SS).goto 1)=1:=by
  show (zai g (r.v+2).toNat 2-s.nx)%65536=1
  rw [hidx,show s.nx+1-s.nx=(1:Int) by omega];rfl
 have e1:zaT N r (({ s with op:=3,nn:=false,hd:=0,sg:= [],wr:=0,it:=false }:SS).goto 1) g=(accV 2 3 0,0,(({ s with op:=3,nn:=false,hd:=0,sg:= [],wr:=0,it:=false }:SS).goto 1).goto 5,g):=by
  rw [zca (p:=1) rfl rfl]
  show (accV 2 3 0,(zcf r g _).1,(zcf r g _).2,g)=_
  have:zcf r g (({ s with op:=3,nn:=false,hd:=0,sg:= [],wr:=0,it:=false }:SS).goto 1)=(0,(({ s with op:=3,nn:=false,hd:=0,sg:= [],wr:=0,it:=false }:SS).goto 1).goto 5):=by
   unfold zcf
   rw [hah,if_neg (by omega),if_pos (by omega)]
  rw [this]
 rw [show (20:Nat)=19+1 from rfl,zbN (by show (1:Nat)≠0;decide) e1]
 rw [show (19:Nat)=18+1 from rfl,zbN (by show (5:Nat)≠0;decide) (zca (p:=5) rfl rfl)]
 have e3:zaT N r (((({ s with op:=3,nn:=false,hd:=0,sg:= [],wr:=0,it:=false }:SS).goto 1).goto 5).goto 6) g=(accV 2 4 (s.nx.tmod r.n),0,({ s with op:=3,nn:=false,hd:=h,sg:= [],wr:=0,it:=false }:SS).goto 7,g):=by
  rw [zca (p:=6) rfl rfl]
  show (accV 2 4 (s.nx.tmod r.n),0,zs1 r g _,g)=_
  unfold zs1
  have hm:s.nx.tmod r.n=s.nx%r.n:=Int.tmod_eq_emod_of_nonneg hn0.1
  simp only [SS.goto,hm,hring]
 rw [show (18:Nat)=17+1 from rfl,zbN (by show (6:Nat)≠0;decide) e3]
 have e4:zaT N r (({ s with op:=3,nn:=false,hd:=h,sg:= [],wr:=0,it:=false }:SS).goto 7) g=(accV 1 0 0,0,{ s with op:=3,nn:=false,hd:=h,sg:=l,wr:=0,it:=false,tk:=s.tk++ [(h,l)],nx:=s.nx+1,ph:=0,dn:=true,br:=false },g):=by
  rw [zca (p:=7) rfl rfl]
  show (accV 1 0 0,(chnS N r g _).1,(chnS N r g _).2,g)=_
  have hx:(s.nx+1)%65536=s.nx+1:=Int.emod_eq_of_lt (by omega) (by omega)
  have:chnS N r g (({ s with op:=3,nn:=false,hd:=h,sg:= [],wr:=0,it:=false }:SS).goto 7)=(0,{ s with op:=3,nn:=false,hd:=h,sg:=l,wr:=0,it:=false,tk:=s.tk++ [(h,l)],nx:=s.nx+1,ph:=0,dn:=true,br:=false }):=by
   unfold chnS
   have q1:zbz (({ s with op:=3,nn:=false,hd:=h,sg:= [],wr:=0,it:=false }:SS).goto 7).hd (({ s with op:=3,nn:=false,hd:=h,sg:= [],wr:=0,it:=false }:SS).goto 7).tk=none:=hfree
   have q2:zbg N g r (({ s with op:=3,nn:=false,hd:=h,sg:= [],wr:=0,it:=false }:SS).goto 7).hd (({ s with op:=3,nn:=false,hd:=h,sg:= [],wr:=0,it:=false }:SS).goto 7).tb=(l,0):=hsp
   rw [if_pos ⟨q1,by rw [q2]⟩]
   rw [q2]
   show (0,({ s with op:=3,nn:=false,hd:=h,sg:=l,wr:=0,it:=false,tk:=s.tk++ [(h,l)],nx:=(s.nx+1)%65536,ph:=0,dn:=true,br:=false }:SS))=_
   rw [hx]
  rw [this]
 rw [show (17:Nat)=16+1 from rfl,zbN (by show (7:Nat)≠0;decide) e4,ziM rfl]
 rfl
theorem Tryz.zAJ {N:Nat} {r:Rg} {s:SS} {g:Nat→Int} (hr:RgOk r) (hph:s.ph=0) (hb:s.br=false) (hidx:zai g (r.v+2).toNat 2=s.nx):
  (zda s).1=0∧ ∃n g',(n=1∨n=4)∧finS N r 20 0 (zda s).2 g=(n,{ s with op:=3,nn:=true,hd:=0,sg:= [],wr:=0,it:=false,ph:=0,dn:=true,br:=false },g')∧ ∀j,g' j≠g j→r.c+4+8*r.n≤(j:Int)∧(j:Int)<r.c+4+8*r.n+2:=by
 have hbn:=hr.bnd
 have hc0:=hr.c0
 have hv0:=hr.v0
 have hvc:=hr.vc
 have hpoll:zda s=(0,({ s with op:=3,nn:=false,hd:=0,sg:= [],wr:=0,it:=false }:SS).goto 1):=by
  unfold zda
  rw [if_neg (by rw [hb];decide),if_neg (by rw [hph];decide)]
 rw [hpoll]
 refine ⟨rfl,?_⟩
 have hah: ∀p,zc7 r g (({ s with op:=3,nn:=false,hd:=0,sg:= [],wr:=0,it:=false }:SS).goto p)=0:=fun p=>by
  show (zai g (r.v+2).toNat 2-s.nx)%65536=0
  rw [hidx,Int.sub_self];rfl
 by_cases hev:s.ev=true
 ·have e1:zaT N r (({ s with op:=3,nn:=false,hd:=0,sg:= [],wr:=0,it:=false }:SS).goto 1) g=(accV 2 3 0,0,(({ s with op:=3,nn:=false,hd:=0,sg:= [],wr:=0,it:=false }:SS).goto 1).goto 2,g):=by
   rw [zca (p:=1) rfl rfl]
   show (accV 2 3 0,(zcf r g _).1,(zcf r g _).2,g)=_
   have:zcf r g (({ s with op:=3,nn:=false,hd:=0,sg:= [],wr:=0,it:=false }:SS).goto 1)=(0,(({ s with op:=3,nn:=false,hd:=0,sg:= [],wr:=0,it:=false }:SS).goto 1).goto 2):=by
    unfold zcf
    rw [hah,if_neg (by omega),if_neg (by omega),if_pos (by exact hev)]
   rw [this]
  obtain ⟨g2,hg2⟩: ∃g2,g2=putW g (r.c+4+8*r.n).toNat 2 s.nx:=⟨_,rfl⟩
  have hw:zai g2 (r.v+2).toNat 2=s.nx:=by rw [hg2,zdk (by omega),hidx]
  have e2:zaT N r ((({ s with op:=3,nn:=false,hd:=0,sg:= [],wr:=0,it:=false }:SS).goto 1).goto 2) g=(accV 3 9 0,0,({ s with op:=3,nn:=false,hd:=0,sg:= [],wr:=0,it:=false }:SS).goto 3,g2):=by
   rw [zca (p:=2) rfl rfl,hg2];rfl
  have e4:zaT N r (({ s with op:=3,nn:=false,hd:=0,sg:= [],wr:=0,it:=false }:SS).goto 4) g2=(accV 2 3 0,0,{ s with op:=3,nn:=true,hd:=0,sg:= [],wr:=0,it:=false,ph:=0,dn:=true,br:=false },g2):=by
   rw [zca (p:=4) rfl rfl]
   show (accV 2 3 0,(zcy r g2 _).1,(zcy r g2 _).2,g2)=_
   have h0:zc7 r g2 (({ s with op:=3,nn:=false,hd:=0,sg:= [],wr:=0,it:=false }:SS).goto 4)=0:=by
    show (zai g2 (r.v+2).toNat 2-s.nx)%65536=0
    rw [hw,Int.sub_self];rfl
   unfold zcy
   rw [h0,if_neg (by omega),if_neg (by omega)]
   rfl
  refine ⟨4,g2,.inr rfl,?_,fun j hj=> ?_⟩
  ·rw [show (20:Nat)=19+1 from rfl,zbN (by show (1:Nat)≠0;decide) e1]
   rw [show (19:Nat)=18+1 from rfl,zbN (by show (2:Nat)≠0;decide) e2]
   have e3:zaT N r (({ s with op:=3,nn:=false,hd:=0,sg:= [],wr:=0,it:=false }:SS).goto 3) g2=(accV 4 0 0,0,({ s with op:=3,nn:=false,hd:=0,sg:= [],wr:=0,it:=false }:SS).goto 4,g2):=by
    rw [zca (p:=3) rfl rfl];rfl
   rw [show (18:Nat)=17+1 from rfl,zbN (by show (3:Nat)≠0;decide) e3]
   rw [show (17:Nat)=16+1 from rfl,zbN (by show (4:Nat)≠0;decide) e4,ziM rfl]
   rfl
  ·rw [hg2] at hj
   have:=zxL hj
   omega
 ·have e1:zaT N r (({ s with op:=3,nn:=false,hd:=0,sg:= [],wr:=0,it:=false }:SS).goto 1) g=(accV 2 3 0,0,{ s with op:=3,nn:=true,hd:=0,sg:= [],wr:=0,it:=false,ph:=0,dn:=true,br:=false },g):=by
   rw [zca (p:=1) rfl rfl]
   show (accV 2 3 0,(zcf r g _).1,(zcf r g _).2,g)=_
   unfold zcf
   rw [hah,if_neg (by omega),if_neg (by omega),if_neg (by exact hev)]
   rfl
  refine ⟨1,g,.inl rfl,?_,fun j hj=>absurd rfl hj⟩
  rw [show (20:Nat)=19+1 from rfl,zbN (by show (1:Nat)≠0;decide) e1,ziM rfl]
  rfl
theorem Tryz.zEj {N:Nat} {r:Rg} {s:SS} {g:Nat→Int} {h:Int} {l:List Sg} (hr:RgOk r) (hph:s.ph=0) (hb:s.br=false) (hu:0≤s.us∧s.us<60000) (hok: ∀x∈l,x.ok) (ht:zbz h s.tk=some l):
  (retS s h 0).1=0∧ ∃it,finS N r 20 0 (retS s h 0).2 g=(5,{ s with op:=4,nn:=false,hd:=h,sg:= [],wr:=0,it:=it,tk:=zeD h s.tk,us:=s.us+1,ph:=0,dn:=true,br:=false },putW (putW g (r.c+4+8*(s.us%r.n)).toNat 8 h) (r.c+2).toNat 2 (s.us+1)):=by
 have hret:retS s h 0=(0,({ s with op:=4,nn:=false,hd:=h,sg:= [],wr:=0,it:=false }:SS).goto 11):=by
  unfold retS
  rw [if_neg (by rw [hb];decide),if_neg (by rw [hph];decide),ht]
  simp only
  have:=(zhZ hok).2.2.1
  rw [if_neg (by omega)]
 rw [hret]
 refine ⟨rfl,?_⟩
 have hm:s.us.tmod r.n=s.us%r.n:=Int.tmod_eq_emod_of_nonneg hu.1
 have hx:(s.us+1)%65536=s.us+1:=Int.emod_eq_of_lt (by omega) (by omega)
 obtain ⟨g1,hg1⟩: ∃g1,g1=putW g (r.c+4+8*(s.us%r.n)).toNat 8 h:=⟨_,rfl⟩
 obtain ⟨g2,hg2⟩: ∃g2,g2=putW g1 (r.c+2).toNat 2 (s.us+1):=⟨_,rfl⟩
 have e1:zaT N r (({ s with op:=4,nn:=false,hd:=h,sg:= [],wr:=0,it:=false }:SS).goto 11) g=(accV 3 8 (s.us.tmod r.n),0,({ s with op:=4,nn:=false,hd:=h,sg:= [],wr:=0,it:=false }:SS).goto 12,g1):=by
  rw [zca (p:=11) rfl rfl,hg1,←hm]
  show (_,_,_,putW g (r.c+4+8*s.us.tmod r.n).toNat 8 (h+0*4294967296))=_
  rw [show h+0*4294967296=h by omega]
  rfl
 have e3:zaT N r (({ s with op:=4,nn:=false,hd:=h,sg:= [],wr:=0,it:=false }:SS).goto 13) g1=(accV 3 7 0,0,({ s with op:=4,nn:=false,hd:=h,sg:= [],wr:=0,it:=false,us:=s.us+1 }:SS).goto 14,g2):=by
  rw [zca (p:=13) rfl rfl,hg2]
  show (accV 3 7 0,(0:Int),({ s with op:=4,nn:=false,hd:=h,sg:= [],wr:=0,it:=false,us:=(s.us+1)%65536 }:SS).goto 14,putW g1 (r.c+2).toNat 2 ((s.us+1)%65536))=_
  rw [hx]
 refine ⟨zEV r g2 (({ s with op:=4,nn:=false,hd:=h,sg:= [],wr:=0,it:=false,us:=s.us+1 }:SS).goto 15),?_⟩
 rw [←hg1,←hg2]
 rw [show (20:Nat)=19+1 from rfl,zbN (by show (11:Nat)≠0;decide) e1]
 have e2:zaT N r (({ s with op:=4,nn:=false,hd:=h,sg:= [],wr:=0,it:=false }:SS).goto 12) g1=(accV 4 0 0,0,({ s with op:=4,nn:=false,hd:=h,sg:= [],wr:=0,it:=false }:SS).goto 13,g1):=by
  rw [zca (p:=12) rfl rfl];rfl
 have e4:zaT N r (({ s with op:=4,nn:=false,hd:=h,sg:= [],wr:=0,it:=false,us:=s.us+1 }:SS).goto 14) g2=(accV 4 0 0,0,({ s with op:=4,nn:=false,hd:=h,sg:= [],wr:=0,it:=false,us:=s.us+1 }:SS).goto 15,g2):=by
  rw [zca (p:=14) rfl rfl];rfl
 rw [show (19:Nat)=18+1 from rfl,zbN (by show (12:Nat)≠0;decide) e2]
 rw [show (18:Nat)=17+1 from rfl,zbN (by show (13:Nat)≠0;decide) e3]
 rw [show (17:Nat)=16+1 from rfl,zbN (by show (14:Nat)≠0;decide) e4]
 rw [show (16:Nat)=15+1 from rfl,zbN (by show (15:Nat)≠0;decide) (zca (p:=15) rfl rfl),ziM rfl]
 rfl
def Tryz.zba (next:Int) (k:Nat):List Int:=(List.range k).map fun (i:Nat)=>next+(i:Int)
theorem Tryz.zeb (next:Int) (k:Nat):(zba next k).length=k:=by simp [zba]
theorem Tryz.zmO {next m:Int} {k:Nat} (h0:0≤next) (h:next+k≤m): ∀x∈zba next k,0≤x∧x<m:=fun x hx=>by
 obtain ⟨i,hi,rfl⟩:=List.mem_map.1 hx
 have:=List.mem_range.1 hi
 omega
theorem Tryz.zg1 {next:Int} {k:Nat}:(zba next k).Nodup:=by
 unfold zba
 rw [List.nodup_iff_pairwise_ne,List.pairwise_map]
 exact List.nodup_range.imp fun h e=>h (by omega)
theorem Tryz.zrq {next:Int} {k:Nat} (h:0<k):(zba next k).getD 0 0=next:=by
 simp [zba,List.getD_eq_getElem?_getD,h]
structure Tryz.TkI (r:Rg) (s:SS) (g:Nat→Int) (hs:List Int) (bs:List (List Sg)) (next:Int):Prop where
 ph:s.ph=0
 br:s.br=false
 nx:s.nx=hs.length
 us:s.us=0
 tk:s.tk=hs.zip bs
 len:hs.length=bs.length
 inc:hs.Pairwise (· < ·)
 lt: ∀h∈hs,0≤h∧h<next
 n0:0≤next∧next≤r.n
 kn:(hs.length:Int)≤next
 idx:zai g (r.v+2).toNat 2=hs.length
 ok: ∀b∈bs,(∀x∈b,x.ok)∧b.length≤64
theorem Tryz.TkI.keys {r:Rg} {s:SS} {g:Nat→Int} {hs:List Int} {bs:List (List Sg)} {next:Int} (h:TkI r s g hs bs next):s.tk.map (·.1)=hs:=by
 rw [h.tk]
 exact List.map_fst_zip (by rw [h.len];exact Nat.le_refl _)
theorem Tryz.TkI.take {N:Nat} {r:Rg} {s:SS} {g:Nat→Int} {hs:List Int} {bs:List (List Sg)} {next:Int} (h:TkI r s g hs bs next) (hr:RgOk r) (hN:N≤1048576) (hfit:r.d+16*r.n≤N∧r.v+6+2*r.n≤N) {l:List Sg} (he:za9 l=0) (hl0:l.length≠0) (hl:next+l.length≤r.n) (hok: ∀x∈l,x.ok) (hsi:zcc N l=true):
  (zda s).1=0∧ ∃s',finS N r 20 0 (zda s).2 (zdB r (zba next l.length) l hs.length g)=(4,s',zdB r (zba next l.length) l hs.length g)∧s'.nn=false∧s'.hd=next∧s'.sg=l∧s'.dn=true∧s'.op=3∧s'.wr=0∧s'.it=false∧
   TkI r s' (zdB r (zba next l.length) l hs.length g) (hs++ [next]) (bs++ [l]) (next+l.length):=by
 have hb:=hr.bnd
 have hn0:=h.n0
 have hkn:=h.kn
 have hlen:=zeb next l.length
 obtain ⟨q1,q2,q3⟩:=zs9 (g:=g) (k:=hs.length) hr hN hfit he hlen (by omega) zg1 (zmO hn0.1 hl) hok (by omega) hsi s.tb
 rw [zrq (by omega)] at q2 q3
 have hx:((hs.length:Int)+1)%65536=hs.length+1:=Int.emod_eq_of_lt (by omega) (by omega)
 rw [hx] at q1
 have hfree:zbz next s.tk=none:=znD (by
  rw [h.keys]
  intro hm
  have:=(h.lt next hm).2
  omega)
 obtain ⟨p1,p2⟩:=zxM (N:=N) (s:=s) (g:=zdB r (zba next l.length) l hs.length g) (h:=next) (l:=l) hr h.ph h.br (by rw [h.nx];omega) (by rw [h.nx];exact q1) (by rw [h.nx];exact q2) hfree q3
 refine ⟨p1,_,p2,rfl,rfl,rfl,rfl,rfl,rfl,rfl,rfl,rfl,?_,h.us,?_,?_,?_,?_,by omega,?_,?_,?_⟩
 ·show s.nx+1=_
  rw [h.nx];simp
 ·show s.tk++ [(next,l)]=_
  rw [h.tk,List.zip_append h.len];rfl
 ·simp [h.len]
 ·rw [List.pairwise_append]
  refine ⟨h.inc,List.pairwise_singleton ..,fun x hx y hy=> ?_⟩
  rw [List.mem_singleton] at hy
  subst hy
  exact (h.lt x hx).2
 ·intro x hx
  rcases List.mem_append.1 hx with hx|hx
  ·have:=h.lt x hx;omega
  ·rw [List.mem_singleton] at hx;subst hx;omega
 ·simp only [List.length_append,List.length_cons,List.length_nil];push_cast;omega
 ·rw [q1];simp
 ·intro b hb'
  rcases List.mem_append.1 hb' with hb'|hb'
  ·exact h.ok b hb'
  ·rw [List.mem_singleton] at hb'
   subst hb'
   refine ⟨hok,?_⟩
   have hse:zaZ b=0:=by
    unfold za9 at he
    split at he
    ·cases he
    ·exact he
   unfold zaZ at hse
   split at hse
   ·cases hse
   ·omega
structure Tryz.BkI (r:Rg) (s:SS) (hs:List Int) (used:Int):Prop where
 ph:s.ph=0
 br:s.br=false
 us:s.us=used
 tk:s.tk.map (·.1)=hs
 inc:hs.Pairwise (· < ·)
 lt: ∀h∈hs,0≤h∧h<r.n
 u0:0≤used∧used+hs.length≤32768
 ok: ∀e∈s.tk,(∀x∈e.2,x.ok)∧e.2.length≤64
theorem Tryz.TkI.back {r:Rg} {s s':SS} {g:Nat→Int} {hs:List Int} {bs:List (List Sg)} {next:Int} (h:TkI r s g hs bs next) (hr:RgOk r) (h1:s'.ph=0) (h2:s'.br=false) (h3:s'.us=s.us) (h4:s'.tk=s.tk):BkI r s' hs 0:=by
 have hb:=hr.bnd
 have hn0:=h.n0
 have hkn:=h.kn
 refine ⟨h1,h2,h3.trans h.us,by rw [h4];exact h.keys,h.inc,fun x hx=> ?_,⟨by omega,by omega⟩,fun e he=> ?_⟩
 ·have:=h.lt x hx;omega
 ·rw [h4,h.tk] at he
  exact h.ok e.2 (List.of_mem_zip he).2
theorem Tryz.BkI.give {N:Nat} {r:Rg} {s:SS} {g:Nat→Int} {hs:List Int} {used:Int} (h:BkI r s hs used) (hr:RgOk r) {k:Nat} (hk:k<hs.length):
  (retS s hs[k] 0).1=0∧ ∃s' g',finS N r 20 0 (retS s hs[k] 0).2 g=(5,s',g')∧(retS s' hs[k] 0).1=6∧(retS s' hs[k] 0).2=s'∧BkI r s' (hs.take k++hs.drop (k+1)) (used+1)∧
   zai g' (r.c+4+8*(used%r.n)).toNat 8=hs[k]∧zai g' (r.c+2).toNat 2=used+1:=by
 have hb:=hr.bnd
 have hc0:=hr.c0
 have hu0:=h.u0
 have hlt:=h.lt hs[k] (List.getElem_mem hk)
 have hm0:0≤used%r.n:=Int.emod_nonneg _ (by omega)
 have hm1:used%r.n<r.n:=Int.emod_lt_of_pos _ (by omega)
 obtain ⟨l,hl,hml⟩:=zoS (h:=hs[k]) (tk:=s.tk) (by rw [h.tk];exact List.getElem_mem hk)
 obtain ⟨p1,it,p2⟩:=zEj (N:=N) (g:=g) hr h.ph h.br (by rw [h.us];omega) (h.ok _ hml).1 hl
 rw [h.us] at p2
 have hnd:hs.Nodup:=h.inc.imp fun h=>by omega
 have hke:(zeD hs[k] s.tk).map (·.1)=hs.erase hs[k]:=by rw [zoU,h.tk]
 have hni:hs[k]∉hs.erase hs[k]:=fun hh=>(List.Nodup.mem_erase_iff hnd).1 hh|>.1 rfl
 have hno:zbz hs[k] (zeD hs[k] s.tk)=none:=znD (by rw [hke];exact hni)
 have her:=zFj h.inc hk
 refine ⟨p1,_,_,p2,?_,?_,?_,?_,?_⟩
 ·unfold retS
  rw [if_neg (by show¬false=true;decide),if_neg (by show¬(0:Nat)≠0;decide)]
  show (match zbz hs[k] (zeD hs[k] s.tk) with|none=>((6:Int),_)|some l=>_).1=6
  rw [hno]
 ·unfold retS
  rw [if_neg (by show¬false=true;decide),if_neg (by show¬(0:Nat)≠0;decide)]
  show (match zbz hs[k] (zeD hs[k] s.tk) with|none=>((6:Int),_)|some l=>_).2=_
  rw [hno]
 ·rw [her]
  refine ⟨rfl,rfl,rfl,hke,h.inc.sublist List.erase_sublist,fun x hx=>h.lt x (List.mem_of_mem_erase hx),⟨by omega,?_⟩,fun e he=>h.ok e ((ze9 hs[k] s.tk).subset he)⟩
  have:=List.length_erase_of_mem (List.getElem_mem hk)
  rw [this]
  omega
 ·rw [zdk (by omega),ziy hlt.1]
  exact Int.emod_eq_of_lt hlt.1 (by show hs[k]<18446744073709551616;omega)
 ·rw [ziy (by omega)]
  exact Int.emod_eq_of_lt (by omega) (by show used+1<65536;omega)
end Go.Proofs
namespace Go.Proofs
open Go.Dw
def Tryz.zwm:List Ent:= [zBm 1 0,zBf]
def Tryz.zCe:List Sh:= []
def Tryz.zkO:List (Nat×AV):= [(0,.cst 2 none),(3,.int .i64 (lnv 26))]
def Tryz.zrR:List LEnt:= []
def Tryz.zrS:List AEnt:= []
def Tryz.zCf:Option AV:=none
def Tryz.zJo:List (SB×Bool):= [(.cmp .lss (lnv 26) (.lit 20),true)]
def Tryz.zGM:List zbe:= [
 ⟨.ret,[2],none,⟨.tup [.int .i64 (.lit (-1))],[],[],2,[]⟩⟩,
 ⟨.normal,[0,3],none,⟨.tup [.cst 2 none,.int .i64 (.bin .add .i64 (lnv 26) (.lit 1))],[],[],2,[]⟩⟩,
 ⟨(.exit 0),[0,3],none,⟨.tup [.cst 2 none,.int .i64 (lnv 26)],[],[],1,[]⟩⟩]
def Tryz.zGL:List (List (SB×Bool)×Nat):= [
 ([(.var 0,true),((.cmp .neq (.var 21) (.lit 0)),true)],0),
 ([(.var 0,true),((.cmp .neq (.var 21) (.lit 0)),false)],1),
 ([(.var 0,false)],2)]
theorem Tryz.zJn:(evL prog (zau zwm) (zaC zrR) (zaA zrS) 100000 (.code (zaI prog [0,0,0,1,1,14]) [0,0,0,1,1,14] 22 (envS 22 zkO zCf) (zar 1 zCe) (zaG zGM 0))).ways zJo=some zGL:=by kernel_rfl
theorem Tryz.zK5:(zah zCe&&zae zwm&&zan zrR&&zao zrS&&zaq zkO&&zal zGM&&zaF 22 zkO&&Nat.ble 22 zaN&&zaz zCf)=true:=by kernel_rfl
def Tryz.zwl:List Ent:= []
def Tryz.zCc:List Sh:= []
def Tryz.zkN:List (Nat×AV):= [(0,.cst 2 none),(3,.int .i64 (lnv 26))]
def Tryz.zrP:List LEnt:= []
def Tryz.zrQ:List AEnt:= []
def Tryz.zCd:Option AV:=none
def Tryz.zJm:List (SB×Bool):= [(.cmp .lss (lnv 26) (.lit 20),false)]
def Tryz.zGK:List zbe:= [
 ⟨(.exit 0),[0,3],none,⟨.tup [.cst 2 none,.int .i64 (lnv 26)],[],[],1,[]⟩⟩]
def Tryz.zGJ:List (List (SB×Bool)×Nat):= [
 ([], 0)]
theorem Tryz.zJl:(evL prog (zau zwl) (zaC zrP) (zaA zrQ) 100000 (.code (zaI prog [0,0,0,1,1,14]) [0,0,0,1,1,14] 22 (envS 22 zkN zCd) (zar 1 zCc) (zaG zGK 0))).ways zJm=some zGJ:=by kernel_rfl
theorem Tryz.zK4:(zah zCc&&zae zwl&&zan zrP&&zao zrQ&&zaq zkN&&zal zGK&&zaF 22 zkN&&Nat.ble 22 zaN&&zaz zCd)=true:=by kernel_rfl
open Go.RowKit Go.Maps Go.Sort
theorem Tryz.zzk (N:Nat) (r:Rg) (s:SS) (g:Nat→Int): ∃x y z,(zaT N r s g).1=accV x y z:=by
 unfold zaT zHQ
 split
 ·exact ⟨_,_,_,rfl⟩
 ·split<;>exact ⟨_,_,_,rfl⟩
def Tryz.srvX (A:Nat→Prop) (S P L Bs B M:Nat) (b:Nat):Prop:= ¬A b∨b=S∨b=M∨b=B
theorem Tryz.zpp {A:Nat→Prop} {w:World} {S P L Bs B M N:Nat} {r:Rg} {s:SS} {g:Nat→Int} (h:SW A w S P L Bs B M N r s g) (hA: ¬A P∧ ¬A L∧ ¬A Bs) {k b2:Nat} {sk:Nat→SS} {gk:Nat→Nat→Int} {rows:Nat→List LwR} (hs:sk k=s) (hg:gk k=g) (hr:rows k= []) {bl:List (Nat×Nat)} (hbl: ∀x∈bl,A x.1∧x.1≠S∧x.1≠M∧x.1≠B):
  (lwG (srvX A S P L Bs B M) w.heap.size S P L Bs B M N r b2 sk gk rows).G k (jOf bl) w:=by
 have k1:=h.srv.ltS
 have k2:=h.srv.ltM
 have k3:=h.mem.bl
 refine ⟨fun b=>b<w.heap.size∧srvX A S P L Bs B M b,fun b hb=>⟨hb.1,fun hm=> ?_⟩,fun b hb=> .inl hb.2,fun b=>b<w.heap.size∧srvX A S P L Bs B M b,fun b hb=>hb,?_,fun e he=> ?_⟩
 ·have:=zcK hm
  obtain ⟨x,hx,rfl⟩:=List.mem_map.1 this
  obtain ⟨q1,q2,q3,q4⟩:=hbl x hx
  rcases hb.2 with e|e|e|e
  ·exact e q1
  ·exact q2 e
  ·exact q3 e
  ·exact q4 e
 ·show LwF S P L Bs B M N r (sk k) (gk k) _ w
  rw [hs,hg]
  refine ⟨⟨k1,.inr (.inl rfl)⟩,⟨k2,.inr (.inr (.inl rfl))⟩,⟨h.mem.pl,.inl hA.1⟩,⟨h.mem.ll,.inl hA.2.1⟩,⟨h.mem.sl,.inl hA.2.2⟩,⟨k3,.inr (.inr (.inr rfl))⟩,h.set (fun b hb hh=> ?_) ⟨k1,.inr (.inl rfl)⟩ ⟨k2,.inr (.inr (.inl rfl))⟩ ⟨k3,.inr (.inr (.inr rfl))⟩ fun b hb=>hb.1⟩
  rcases hh.2 with hh|rfl|rfl|rfl
  ·exact Classical.byContradiction fun hn=>hh ⟨hb,.inl hn⟩
  ·exact h.srv.aS
  ·exact h.srv.aM
  ·exact h.aB
 ·rw [hr] at he
  cases he
theorem Tryz.znK {A:Nat→Prop} {w w2:World} {S P L Bs B M N:Nat} {r:Rg} {s s':SS} {g g':Nat→Int} (h:SW A w S P L Bs B M N r s g) (hs:w.heap.size≤w2.heap.size) {F2 F0:Nat→Prop} (hX: ∀b,F2 b→srvX A S P L Bs B M b∨w.heap.size≤b) (hF: ∀b,F0 b→F2 b) (hl:LwF S P L Bs B M N r s' g' F0 w2):SW A w2 S P L Bs B M N r s' g':=
 hl.sw.set (fun b hb hh=>⟨hb,by
  by_cases e:b=S∨b=M∨b=B
  ·exact .inr e
  ·refine .inl fun hf=> ?_
   rcases hX b (hF b hf) with q|q
   ·rcases q with q|q
    ·exact q hh
    ·exact e q
   ·have:=h.lt b hh;omega⟩) h.srv.aS h.srv.aM h.aB fun b hb=>Nat.lt_of_lt_of_le (h.lt b hb) hs
def Tryz.zrT (k c x y z:Int) (b:Bool) (S:Nat):Val:=⟨fun n=>match n with|26=>k|21=>c|30=>x|31=>y|32=>z|_=>0,fun _=>b,fun n=>match n with|2=> .pointer (some ⟨S,0,none⟩)|_=>undef⟩
set_option maxRecDepth 10000 in
theorem Tryz.zCh {A:Nat→Prop} {w:World} {S P L Bs B M N:Nat} {r:Rg} {s:SS} {g:Nat→Int} (h:SW A w S P L Bs B M N r s g) (hA: ¬A P∧ ¬A L∧ ¬A Bs):
  Calls prog 14 #[.pointer (some ⟨S,0,none⟩)] w fun e w'=>e= .returned (.int .i64 (finS N r 20 0 s g).1)∧SW A w' S P L Bs B M N r (finS N r 20 0 s g).2.1 (finS N r 20 0 s g).2.2∧Dw.Mv (sK S M B) w w':=by
 go_enter func14,ntmps14
 go_wp2
 rename_i K hK
 refine zbH (c':= .loop (zaI prog [0,0,0,1,1,14])) (by kernel_rfl) ?_
 have k1:=h.srv.ltS
 have done: ∀ {a2:Act} {w2:World} {v:Int},a2.defers= []→a2.tmps.getD 2 undef= .int .i64 v→v=(finS N r 20 0 s g).1→SW A w2 S P L Bs B M N r (finS N r 20 0 s g).2.1 (finS N r 20 0 s g).2.2→Dw.Mv (sK S M B) w w2→
   bodyPost prog f14 (fun e w'=>e= .returned (.int .i64 (finS N r 20 0 s g).1)∧SW A w' S P L Bs B M N r (finS N r 20 0 s g).2.1 (finS N r 20 0 s g).2.2∧Dw.Mv (sK S M B) w w') .ret a2 w2:=fun {a2 w2 v} h1 h2 h3 h4 h5=>
  zcu (fn:=f14) (Post:=fun e w'=>e= .returned (.int .i64 (finS N r 20 0 s g).1)∧SW A w' S P L Bs B M N r (finS N r 20 0 s g).2.1 (finS N r 20 0 s g).2.2∧Dw.Mv (sK S M B) w w') h1 rfl h2 ⟨by rw [h3],h4,h5⟩
 have tail: ∀ {a2:Act} {w2:World},a2.tmps.size=22→a2.defers= []→a2.tmps.getD 0 undef= .pointer (some ⟨S,0,none⟩)→a2.tmps.getD 3 undef= .int .i64 (finS N r 20 0 s g).1→SW A w2 S P L Bs B M N r (finS N r 20 0 s g).2.1 (finS N r 20 0 s g).2.2→Dw.Mv (sK S M B) w w2→K a2 w2:=fun {a2 w2} z1 z2 z3 z4 z6 z7=>by
  refine hK _ _ ?_
  obtain ⟨tmps,dfr⟩:=a2
  have z2:dfr= []:=z2
  have z1:tmps.size=22:=z1
  have z4:tmps.getD 3 undef= .int .i64 (finS N r 20 0 s g).1:=z4
  subst z2
  go_wp2_with fail
 refine zbl (fun (x:Nat×SS×(Nat→Int)) a' w'=>x.1≤20∧a'.tmps.size=22∧a'.defers= []∧a'.tmps.getD 0 undef= .pointer (some ⟨S,0,none⟩)∧a'.tmps.getD 3 undef= .int .i64 x.1∧SW A w' S P L Bs B M N r x.2.1 x.2.2∧Dw.Mv (sK S M B) w w'∧finS N r 20 0 s g=finS N r (20-x.1) x.1 x.2.1 x.2.2)
  (fun x=>20-x.1) (fun x a1 w1 hI=> ?_) (0,s,g) _ _ ⟨Nat.zero_le _,rfl,rfl,rfl,rfl,h,Dw.Mv.refl _ _,rfl⟩
 obtain ⟨k,s1,g1⟩:=x
 obtain ⟨hk,q0,qd,p0,p3,hw1,hmv,hfin⟩:=hI
 simp only at hk p3 hw1 hfin
 have hwk:=zes k (by omega)
 obtain ⟨x,y,z,hacc⟩:=zzk N r s1 g1
 have d26:(lnv 26).den (zrT k (zaT N r s1 g1).2.1 x y z (decide (s1.ph≠0)) S)=k:=zaR (by show (0:Int)≤k;omega) (by show (k:Int)<_;omega)
 have v2:(zrT k (zaT N r s1 g1).2.1 x y z (decide (s1.ph≠0)) S).v 2= .pointer (some ⟨S,0,none⟩):=rfl
 have i21:(zrT k (zaT N r s1 g1).2.1 x y z (decide (s1.ph≠0)) S).i 21=(zaT N r s1 g1).2.1:=rfl
 have i30:(zrT k (zaT N r s1 g1).2.1 x y z (decide (s1.ph≠0)) S).i 30=x:=rfl
 have i31:(zrT k (zaT N r s1 g1).2.1 x y z (decide (s1.ph≠0)) S).i 31=y:=rfl
 have i32:(zrT k (zaT N r s1 g1).2.1 x y z (decide (s1.ph≠0)) S).i 32=z:=rfl
 have b0:(zrT k (zaT N r s1 g1).2.1 x y z (decide (s1.ph≠0)) S).b 0=decide (s1.ph≠0):=rfl
 generalize zrT k (zaT N r s1 g1).2.1 x y z (decide (s1.ph≠0)) S=ρ at d26 v2 i21 i30 i31 i32 b0
 have l1:=hw1.srv.ltS
 have l2:=hw1.srv.ltM
 have l3:=hw1.mem.bl
 have sl: ∀t∈ [(0,AV.cst 2 none),(3,.int .i64 (lnv 26))],Dw.R ρ (jOf []) t.2 (a1.tmps.getD t.1 undef):=fun t ht=>by
  simp only [List.mem_cons,List.not_mem_nil,or_false] at ht
  rcases ht with rfl|rfl
  ·rw [p0];exact za5 v2 rfl
  ·rw [p3];exact zac d26
 by_cases hk20:k<20
 ·have hf20:finS N r (20-k) k s1 g1=if s1.ph=0 then ((k:Int),s1,g1) else if (zaT N r s1 g1).2.1=0 then finS N r (20-(k+1)) (k+1:Nat) (zaT N r s1 g1).2.2.1 (zaT N r s1 g1).2.2.2 else (-1,(zaT N r s1 g1).2.2.1,(zaT N r s1 g1).2.2.2):=by
   rw [show 20-k=(20-(k+1))+1 by omega]
   conv=>lhs;unfold finS
   rfl
  refine wp_mono (zax (ρ:=ρ) (K:=fun b=>b=S∨b=M∨b=B) (g:=lwG (srvX A S P L Bs B M) w1.heap.size S P L Bs B M N r w1.heap.size (fun k=>match k with|1=>s1|_=>(zaT N r s1 g1).2.2.1) (fun k=>match k with|1=>g1|_=>(zaT N r s1 g1).2.2.2) (fun _=> [])) (bl:= []) mixed zJn zK5 (fun b hb=>by rcases hb with rfl|rfl|rfl<;>assumption)
   trivial trivial (zpp hw1 hA rfl rfl rfl (fun x hx=>(by cases hx)))
   ⟨zBl v2 b0,zBe v2 hacc i30 i31 i32 i21 rfl rfl (Nat.le_refl _) ⟨l1,l2,l3⟩ ⟨.inl rfl,.inr (.inl rfl),.inr (.inr rfl)⟩ (fun e he=>he),trivial⟩ trivial trivial q0 qd sl (zaa.2 ⟨by rw [zaX,d26,zaf];exact decide_eq_true (by omega),zad.2 trivial⟩)) fun ex a2 w2 hh=> ?_
  obtain ⟨q,hq,hto,lf,hlf,rfl,hsz2,j2,hdf2,he⟩:=hh
  have hmv2:Dw.Mv (sK S M B) w1 w2:=he.mv
  have hmv3:=hmv.trans hmv2
  obtain ⟨F2,z1,z2,F0,z3,z4,_⟩:=he.gho
  unfold zGL at hq
  simp only [List.mem_cons,List.not_mem_nil,or_false] at hq
  rcases hq with rfl|rfl|rfl
  all_goals
   simp only [zaa,zad,zbs,zaM,zay,zaf,i21,b0,bne_iff_ne,ne_eq,decide_eq_true_eq,decide_eq_false_iff_not,bne_eq_false_iff_eq,Classical.not_not,and_true] at hto
   cases hlf
  ·rw [if_neg hto.1,if_neg (by simpa using hto.2)] at hf20
   rw [hf20] at hfin
   have hs2:=zaE he.ret
   simp only [AV.valL,AV.val,zaf,List.map_cons,List.map_nil,List.cons.injEq,and_true] at hs2
   exact done hdf2 hs2 (by rw [hfin]) (by rw [hfin];exact znK hw1 hmv2.size z2 z3 z4) hmv3
  ·rw [if_neg hto.1,if_pos (by simpa using hto.2)] at hf20
   have hs2:=zaE he.ret
   simp only [AV.valL,AV.val,den_add,zaf,d26,v2,hwk,List.map_cons,List.map_nil,List.cons.injEq,and_true] at hs2
   exact ⟨(k+1,(zaT N r s1 g1).2.2.1,(zaT N r s1 g1).2.2.2),by simp only;omega,by simp only;omega,hsz2,hdf2,hs2.1,hs2.2,znK hw1 hmv2.size z2 z3 z4,hmv3,by rw [hfin,hf20]⟩
  ·rw [if_pos hto] at hf20
   rw [hf20] at hfin
   have hs2:=zaE he.ret
   simp only [AV.valL,AV.val,d26,v2,List.map_cons,List.map_nil,List.cons.injEq,and_true] at hs2
   show K a2 w2
   exact tail hsz2 hdf2 hs2.1 (by rw [hfin];exact hs2.2) (by rw [hfin];exact znK hw1 hmv2.size z2 z3 z4) hmv3
 ·have hkk:k=20:=by omega
  subst hkk
  have hf20:finS N r (20-20) ((20:Nat):Int) s1 g1=(((20:Nat):Int),s1,g1):=rfl
  rw [hf20] at hfin
  refine wp_mono (zax (ρ:=ρ) (K:=fun _=>False) (g:=Gho.none) (bl:= []) mixed zJl zK4 (fun b h=>h.elim) trivial trivial zaB trivial trivial trivial q0 qd sl (zaa.2 ⟨by rw [zaX,d26,zaf];exact decide_eq_false (by omega),zad.2 trivial⟩)) fun ex a2 w2 hh=> ?_
  obtain ⟨q,hq,hto,lf,hlf,rfl,hsz2,j2,hdf2,he⟩:=hh
  have hb3:=zam he (fun _ h=>h)
  unfold zGJ at hq
  simp only [List.mem_cons,List.not_mem_nil,or_false] at hq
  subst hq
  cases hlf
  have hs2:=zaE he.ret
  simp only [AV.valL,AV.val,d26,v2,List.map_cons,List.map_nil,List.cons.injEq,and_true] at hs2
  show K a2 w2
  refine tail hsz2 hdf2 hs2.1 (by rw [hfin];exact hs2.2) ?_ (hmv.trans (Dw.Mv.of_below hb3))
  rw [hfin]
  have hbs:=hb3.size
  exact hw1.kept (hb3.block S l1) (hb3.block M l2) (fun b hb _=>hb3.block b hb) (fun b hb=>hb3.block b (by rcases hb with rfl|rfl|rfl|rfl;exact hw1.mem.pl;exact hw1.mem.ll;exact hw1.mem.sl;exact l3)) hbs
section
variable {X:Nat→Prop} {bX:Nat} {ρ:Val} {w0:World} {K:Nat→Prop} {S P L Bs B M N:Nat} {r:Tryz.Rg} {b2:Nat} {sk:Nat→Tryz.SS} {gk:Nat→Nat→Int} {rows:Nat→List Tryz.LwR} {f:FuncId} {args:List AV} {res:AV} {k k':Nat}
theorem Tryz.zEX (he:Dw.Enters prog f) (hx:AV.exactL args=true) (hbX:bX≤w0.heap.size) (V:List Value) (U:Value) (ha: ∀j,RL ρ j args V) (hr: ∀j,Dw.R ρ j res U) (hlt:S<b2∧M<b2∧B<b2) (hK:K S∧K M∧K B) (hrows: ∀e∈rows k',e∈rows k)
  (h: ∀(A:Nat→Prop) (w:World),¬A P∧ ¬A L∧ ¬A Bs→SW A w S P L Bs B M N r (sk k) (gk k)→Calls prog f V.toArray w fun e w'=>e= .returned U∧SW A w' S P L Bs B M N r (sk k') (gk k')∧Dw.Mv (sK S M B) w w'):
  za3 prog ρ w0 K (lwG X bX S P L Bs B M N r b2 sk gk rows) ⟨f,args,k,0,0,res,k'⟩:=by
 refine ⟨he,fun j w vals F n hv hnone _ hF hsz hf _=> ?_⟩
 have hv:=zcF hx hv (ha j)
 subst hv
 obtain ⟨hXF,F0,hF0,h1,h2⟩:=hf
 have hsd:=h1.sw.sd
 have hmd:=h1.sw.md
 have hpb:=h1.sw.mem.pb
 have hlb:=h1.sw.mem.lb
 have hsb:=h1.sw.mem.sb
 refine Calls.mono (h _ w ⟨fun hh=>by rcases hh.2 with e|e|e|e;exact e h1.fP;exact hsd.1 e.symm;exact hmd.1 e.symm;exact hpb e,fun hh=>by rcases hh.2 with e|e|e|e;exact e h1.fL;exact hsd.2.1 e.symm;exact hmd.2.1 e.symm;exact hlb e,fun hh=>by rcases hh.2 with e|e|e|e;exact e h1.fs;exact hsd.2.2.1 e.symm;exact hmd.2.2.1 e.symm;exact hsb e⟩ h1.sw) fun en w' hh=> ?_
 obtain ⟨rfl,hsw,hmv⟩:=hh
 refine ⟨U,[],fun b=>F b∨(w.heap.size≤b∧b<w'.heap.size),rfl,rfl,hr _,⟨fun b hb=> ?_,fun b=>F0 b∨(w.heap.size≤b∧b<w'.heap.size),fun b hb=>hb.imp_left (hF0 b),h1.next hsw hmv.size (fun b hb=> .inl hb) fun b q1 q2=> .inr ⟨q1,q2⟩,fun e he=> ?_⟩,?_,hmv.mono fun b hb=> ?_⟩
 ·rcases hb with hb|⟨hb,_⟩
  ·exact hXF b hb
  ·exact .inr (by omega)
 ·obtain ⟨u,t,q1,q2,q3⟩:=h2 e (hrows e he)
  refine ⟨u,t,by rw [zfS];exact q1,OwnR.kept q2 fun b hb=>hmv.block b (OwnR.lt q2 b hb).2 fun hh=> ?_,fun b hb=>⟨.inl (q3 b hb).1,fun hn=> ?_⟩⟩
  ·have:=(OwnR.lt q2 b hb).1
   rcases hh with hh|hh|hh<;>omega
  ·have:=(OwnR.lt q2 b hb).2
   rcases hn with hn|hn
   ·exact (q3 b hb).2 hn
   ·omega
 ·rintro b (hb|⟨q1,q2⟩)
  ·exact ⟨Nat.lt_of_lt_of_le (hF b hb) hmv.size,.inl hb⟩
  ·exact ⟨q2,.inr q1⟩
 ·rcases hb with rfl|rfl|rfl
  ·exact ⟨hF0 _ h1.fS,.inr hK.1⟩
  ·exact ⟨hF0 _ h1.fM,.inr hK.2.1⟩
  ·exact ⟨hF0 _ h1.fB,.inr hK.2.2⟩
def Tryz.zBi (k k':Nat) (n:Int):Ent:=⟨14,[.cst 2 none],k,0,0,.int .i64 (.lit n),k'⟩
theorem Tryz.zvR {m:Int} (hv2:ρ.v 2= .pointer (some ⟨S,0,none⟩)) (hf:finS N r 20 0 (sk k) (gk k)=(m,sk k',gk k')) (hbX:bX≤w0.heap.size) (hlt:S<b2∧M<b2∧B<b2) (hK:K S∧K M∧K B) (hrows: ∀e∈rows k',e∈rows k):
  za3 prog ρ w0 K (lwG X bX S P L Bs B M N r b2 sk gk rows) (zBi k k' m):=
 zEX (Dw.enters_of (by kernel_rfl)) (by decide) hbX [.pointer (some ⟨S,0,none⟩)] (.int .i64 m) (fun j=>zab (za5 hv2 rfl) RL.nil) (fun j=>zac rfl) hlt hK hrows fun A w hA hsw=>by
  have:=zCh hsw hA
  rw [hf] at this
  exact this
end
end Go.Proofs
namespace Go.Proofs
open Go.Dw Go.RowKit Go.Maps Go.Sort Go.Deep
theorem Tryz.zIo {fn:Func} {p u:Tmp} {ty:TypeId} (h:fn.results= #[.cell p ty,.tmp u]) (tmps:Array Value) (w:World) (b:Nat) (cs:List Value) (d:TypeDesc)
  (hp:tmps.getD p undef= .pointer (some ⟨b,0,none⟩)) (hg:w.rangeAt b 0 cs) (hu:prog.underlying ty=some d) (hd:d.isRow=true) (hi:(prog.info? ty).map (·.size)=some cs.length):
  (results fn tmps).run prog w= .ok (.tuple #[.agg cs.toArray,tmps.getD u undef]) w:=by
 have hp':tmps[p]?.getD undef= .pointer (some ⟨b,0,none⟩):=by simpa using hp
 simp [results,h,hp',asAddr,run_loadVar_mid w b 0 ty cs d hg hu hd hi]
set_option maxRecDepth 100000 in
theorem Tryz.zwx {A:Nat→Prop} {w:World} {S P M:Nat} {r:Rg} {s:SS} (h:SrvW A w S P M r s) (hph:s.ph=0) (hbr:s.br=false) (hdn:s.dn=true) (hln:s.sg.length≤1000000):
    Calls prog 15 #[.pointer (some ⟨S,0,none⟩)] w fun e w'=> ∃u,e= .returned (.tuple #[.agg #[.int .i64 s.op,.bool s.nn,.int .i64 s.hd,u,.int .u32 s.wr,.bool s.it],.bool true])∧OwnSeg w' w.heap.size u s.sg∧Below w.heap.size w w':=by
  have hm:=fun w1 (hb:Below w.heap.size w w1)=>ziH (h.kept (hb.block S h.ltS) (hb.block M h.ltM) fun k hk _=>hb.block k hk)
  have hbz:=fun w1 (hb:Below w.heap.size w w1)=>zot (h.kept (hb.block S h.ltS) (hb.block M h.ltM) fun k hk _=>hb.block k hk)
  rw [hph] at hbz
  obtain ⟨nv,sv,ho,hn,hsv⟩:=h.obj
  obtain ⟨sa,c,rfl,hok,hr⟩:=hsv
  have hcl:=fun w1 (hb:Below w.heap.size w w1)=>znk (show SegV A w1 _ s.sg from SegV.below ⟨sa,c,rfl,hok,hr⟩ hb) hln
  have c13:=zbm ho (i:=13) rfl
  have c14:=zbm ho (i:=14) rfl
  have c15:=zbm ho (i:=15) rfl
  have c16:=zbm ho (i:=16) rfl
  have c17:=zbm ho (i:=17) rfl
  have c18:=zbm ho (i:=18) rfl
  have c19:=zbm ho (i:=19) rfl
  rw [hdn] at c19
  have hlS:=h.ltS
  have hA:=(Below.refl w.heap.size w).alloc (Nat.le_refl _)
  clear ho
  go_enter func15,ntmps15
  go_wp2_with (first
    | (go_at_call 56;refine (hm _ (hA _)).mono ?_;rintro e w' ⟨rfl,hw⟩;have hw:=hw.symm;subst hw)
    | (go_at_call 27;refine (hbz _ (hA _)).mono ?_;rintro e w' ⟨rfl,hw⟩;have hw:=hw.symm;subst hw)
    | (go_at_call 57;refine (hcl _ ((hA _).alloc (by simp) _)).mono ?_;rintro e w2 ⟨u,rfl,hu,hb2⟩
       have ka:=((Cl.new w _ _).alloc _).below hb2 (by simp<;>omega)
       have kb:=(Cl.new (w.alloc _) _ _).below hb2 (by simp<;>omega)
       rw [zbr] at kb
       obtain ⟨sa2,c2,hue,_⟩:=hu.segV hok (A:=fun _=>False) fun _ _ h=>h
       subst hue
       have x0:=ka.cell 0 _ rfl;have x1:=ka.cell 1 _ rfl;have x2:=ka.cell 2 _ rfl;have x3:=ka.cell 3 _ rfl;have x4:=ka.cell 4 _ rfl;have x5:=ka.cell 5 _ rfl
       have y0:=kb.cell 0 _ rfl;have y1:=kb.cell 1 _ rfl;have y2:=kb.cell 2 _ rfl;have y3:=kb.cell 3 _ rfl;have y4:=kb.cell 4 _ rfl;have y5:=kb.cell 5 _ rfl
       have f0:=ka.free 0;have f1:=ka.free 1;have f2:=ka.free 2;have f3:=ka.free 3;have f4:=ka.free 4;have f5:=ka.free 5
       have g3:=kb.free 3)
    | go_in)
  have hs2:=hb2.size
  simp only [zbr] at hs2
  have hb02:Below w.heap.size w w2:=(((Below.refl w.heap.size w).alloc (Nat.le_refl _) _).alloc (by simp) _).trans (hb2.mono (by simp only [zbr];omega))
  have hlt:=hu.lt
  simp only [zbr] at hlt
  have hq:=(Mv.refl (· =w.heap.size+1) w2).setCell (w.heap.size+1) 3 (.slice sa2 s.sg.length c2) (.inl rfl)
  have ka2:=ka.below (hq.below (base:=w.heap.size+1) (fun k hk=>by omega) (by omega)) (by omega)
  have k0:=(((((ka2.set 0 (.int .i64 s.op) (show 0<6 by decide)).set 1 (.bool s.nn) (show 1<6 by decide)).set 2 (.int .i64 s.hd) (show 2<6 by decide)).set 3 (.slice sa2 s.sg.length c2) (show 3<6 by decide)).set 4 (.int .u32 s.wr) (show 4<6 by decide)).set 5 (.bool s.it) (show 5<6 by decide)
  have hmv:=(((((((Mv.refl (fun b=>b=w.heap.size∨b=w.heap.size+1) w2).setCell (w.heap.size+1) 3 (.slice sa2 s.sg.length c2) (.inl (.inr rfl))).setCell (w.heap.size) 0 (.int .i64 s.op) (.inl (.inl rfl))).setCell (w.heap.size) 1 (.bool s.nn) (.inl (.inl rfl))).setCell (w.heap.size) 2 (.int .i64 s.hd) (.inl (.inl rfl))).setCell (w.heap.size) 3 (.slice sa2 s.sg.length c2) (.inl (.inl rfl))).setCell (w.heap.size) 4 (.int .u32 s.wr) (.inl (.inl rfl))).setCell (w.heap.size) 5 (.bool s.it) (.inl (.inl rfl))
  generalize (((((((w2.setCell ⟨w.heap.size+1,3,none⟩ (.slice sa2 s.sg.length c2)).setCell ⟨w.heap.size,0,none⟩ (.int .i64 s.op)).setCell ⟨w.heap.size,1,none⟩ (.bool s.nn)).setCell ⟨w.heap.size,2,none⟩ (.int .i64 s.hd)).setCell ⟨w.heap.size,3,none⟩ (.slice sa2 s.sg.length c2)).setCell ⟨w.heap.size,4,none⟩ (.int .u32 s.wr)).setCell ⟨w.heap.size,5,none⟩ (.bool s.it))=w3 at k0 hmv ⊢
  refine bodyPost_ret (zIo rfl _ _ w.heap.size [.int .i64 s.op,.bool s.nn,.int .i64 s.hd,.slice sa2 s.sg.length c2,.int .u32 s.wr,.bool s.it] _ rfl (fun j v hv=>by rw [Nat.zero_add];exact k0.cell j v hv) underlying53 rfl (by kernel_rfl)) rfl ?_
  refine ⟨_,rfl,(hu.kept fun b hb=>hmv.block b (hlt b hb).2.1 fun e=>by have:=(hlt b hb).1;omega).mono (by simp only [zbr];omega),hb02.trans (hmv.below (base:=w.heap.size) (fun k hk=>by omega) hb02.size)⟩
end Go.Proofs
end
