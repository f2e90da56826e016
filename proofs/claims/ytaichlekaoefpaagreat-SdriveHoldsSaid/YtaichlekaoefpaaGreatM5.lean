/-
  Proved: laws on the way to 'SdriveHoldsProof' (texts DwWay DwDen SoA SoB SoC SoD SoF SoG SoH SoI SoJ SoK SoL SoM SoN XaA DwLoop WkA); no condition.
-/
import Derived.Test.YtaichlekaoefpaaGreatM4
import Derived.KernelRfl
import Derived.Maps.AppendAt
set_option linter.unusedSimpArgs false
set_option linter.unusedVariables false
set_option maxHeartbeats 4000000
noncomputable section
namespace Go.Dw
open Go.RowKit
def zvA:Loc:=⟨0,0,0,none⟩
def lcOf (j:J) (n:Nat):Loc:=(j n).getD zvA
mutual
def AV.exact:AV→Bool
 | .emp| .slu _| .sla=>false
 | .sl _ _ _ (.upto _)=>true
 | .func _ a b=>match AV.exactL a with|true=>AV.exactL b|false=>false
 | .iface _ v=>AV.exact v
 | .agg l=>AV.exactL l
 | .tup l=>AV.exactL l
 | _=>true
def AV.exactL:List AV→Bool
 | [] => true
 | a::l=>match AV.exact a with|true=>AV.exactL l|false=>false
end
mutual
def AV.val (ρ:Val) (lc:Nat→Loc):AV→Value
 | .bool b=> .bool (b.den ρ)
 | .int k n=> .int k (n.den ρ)
 | .str s=> .string ⟨(s.map UInt8.ofNat).toArray⟩
 | .nilp=> .pointer none
 | .ptr n o=> .pointer (some ⟨(lc n).blk,(lc n).off+o,none⟩)
 | .nils=> .slice none 0 0
 | .sl n o len cap=> .slice (some ⟨(lc n).blk,(lc n).off+o,none⟩) len (zjt (lc n) cap)
 | .emp| .slu _| .sla=>undef
 | .nilm=> .map none
 | .map n=> .map (some (lc n).blk)
 | .func f first cap=> .func (.func f) (AV.valL ρ lc first).toArray (AV.valL ρ lc cap).toArray
 | .nilf=> .nilFunc
 | .nili=> .nilIface
 | .iface t x=> .iface t (AV.val ρ lc x)
 | .agg l=> .agg (AV.valL ρ lc l).toArray
 | .tup l=> .tuple (AV.valL ρ lc l).toArray
 | .cst i _=>ρ.v i
 | .opq n _=>(lc n).q.getD undef
 | .nun _ _=>undef
 | .junk=>undef
 | .sx i _ _ _=>ρ.v i
def AV.valL (ρ:Val) (lc:Nat→Loc):List AV→List Value
 | [] => []
 | a::l=>AV.val ρ lc a::AV.valL ρ lc l
end
theorem zaI {j:J} {n:Nat} {L:Loc} (h:j n=some L):lcOf j n=L:=by unfold lcOf;rw [h];rfl
mutual
theorem R_val {ρ:Val} {j:J}: ∀ {a:AV} {v:Value},a.exact=true→R ρ j a v→v=a.val ρ (lcOf j)
 | .bool _,_,_,r=>r
 | .int _ _,_,_,r=>r
 | .str _,_,_,r=>r.2
 | .nilp,_,_,r=>r
 | .ptr _ _,_,_,r=>by obtain ⟨L,e,rfl⟩:=r;unfold AV.val;rw [zaI e]
 | .nils,_,_,r=>r
 | .sl _ _ _ _,_,_,r=>by obtain ⟨L,e,_,rfl⟩:=r;unfold AV.val;rw [zaI e]
 | .emp,_,h,_=>by cases h
 | .slu _,_,h,_=>by cases h
 | .sla,_,h,_=>by cases h
 | .nilm,_,_,r=>r
 | .map _,_,_,r=>by obtain ⟨L,e,rfl⟩:=r;unfold AV.val;rw [zaI e]
 | .func f a b,_,h,r=>by
  obtain ⟨l,m,rfl,h1,h2⟩:=r;unfold AV.exact at h;split at h
  ·rename_i ha;unfold AV.val;rw [RL_val ha h1,RL_val h h2]
  ·cases h
 | .nilf,_,_,r=>r
 | .nili,_,_,r=>r
 | .iface t x,_,h,r=>by obtain ⟨y,rfl,h1⟩:=r;unfold AV.exact at h;unfold AV.val;rw [R_val h h1]
 | .agg l,_,h,r=>by obtain ⟨m,rfl,h1⟩:=r;unfold AV.exact at h;unfold AV.val;rw [RL_val h h1]
 | .tup l,_,h,r=>by obtain ⟨m,rfl,h1⟩:=r;unfold AV.exact at h;unfold AV.val;rw [RL_val h h1]
 | .cst _ _,_,_,r=>r.1
 | .opq _ _,_,_,r=>by obtain ⟨⟨L,e,h1⟩,_⟩:=r;unfold AV.val;rw [zaI e,h1];rfl
 | .nun _ _,_,_,r=>r.1
 | .junk,_,_,r=>r.elim
 | .sx _ _ _ _,_,_,r=>r.1
theorem RL_val {ρ:Val} {j:J}: ∀ {l:List AV} {m:List Value},AV.exactL l=true→RL ρ j l m→m=AV.valL ρ (lcOf j) l
 | [], _,_,r=>r
 | a::l,_,h,r=>by
  obtain ⟨v,m,rfl,h1,h2⟩:=r;unfold AV.exactL at h;split at h
  ·rename_i ha;unfold AV.valL;rw [R_val ha h1,RL_val h h2]
  ·cases h
end
mutual
def AV.small:AV→Bool
 | .bool b=>b.small
 | .func _ a b=>match AV.smallL a with|true=>AV.smallL b|false=>false
 | .iface _ v=>AV.small v
 | .agg l=>AV.smallL l
 | .tup l=>AV.smallL l
 | .nun c _=>c.small
 | _=>true
def AV.smallL:List AV→Bool
 | [] => true
 | a::l=>match AV.small a with|true=>AV.smallL l|false=>false
end
theorem zn6 {ρ:Val} {j:J} (m:Nat→Bool) {sz:Nat} {b:Option Addr} {len:Nat}: ∀ {l:List (SE×Nat)},(SXs (ρ.mark m) j sz b len l↔SXs ρ j sz b len l)
 | [] => Iff.rfl
 | p::l=>by unfold SXs;rw [zn6 m (l:=l),SE.den_mark]
mutual
theorem R_mark {ρ:Val} {j:J} (m:Nat→Bool): ∀ {a:AV} {v:Value},a.small=true→(R (ρ.mark m) j a v↔R ρ j a v)
 | .bool b,v,h=>by show v=_↔v=_;rw [SB.den_mark ρ m b h]
 | .int k n,v,_=>by show v=_↔v=_;rw [SE.den_mark]
 | .str _,_,_=>Iff.rfl
 | .nilp,_,_=>Iff.rfl
 | .ptr _ _,_,_=>Iff.rfl
 | .nils,_,_=>Iff.rfl
 | .sl _ _ _ _,_,_=>Iff.rfl
 | .emp,_,_=>Iff.rfl
 | .slu n,_,_=>by simp only [R,SE.den_mark]
 | .sla,_,_=>Iff.rfl
 | .nilm,_,_=>Iff.rfl
 | .map _,_,_=>Iff.rfl
 | .func f a b,v,h=>by
  unfold AV.small at h;split at h
  ·rename_i ha;constructor
   ·rintro ⟨l,k,rfl,h1,h2⟩;exact ⟨l,k,rfl,(RL_mark m ha).1 h1,(RL_mark m h).1 h2⟩
   ·rintro ⟨l,k,rfl,h1,h2⟩;exact ⟨l,k,rfl,(RL_mark m ha).2 h1,(RL_mark m h).2 h2⟩
  ·cases h
 | .nilf,_,_=>Iff.rfl
 | .nili,_,_=>Iff.rfl
 | .iface t x,v,h=>by
  unfold AV.small at h;constructor
  ·rintro ⟨y,rfl,h1⟩;exact ⟨y,rfl,(R_mark m h).1 h1⟩
  ·rintro ⟨y,rfl,h1⟩;exact ⟨y,rfl,(R_mark m h).2 h1⟩
 | .agg l,v,h=>by
  unfold AV.small at h;constructor
  ·rintro ⟨y,rfl,h1⟩;exact ⟨y,rfl,(RL_mark m h).1 h1⟩
  ·rintro ⟨y,rfl,h1⟩;exact ⟨y,rfl,(RL_mark m h).2 h1⟩
 | .tup l,v,h=>by
  unfold AV.small at h;constructor
  ·rintro ⟨y,rfl,h1⟩;exact ⟨y,rfl,(RL_mark m h).1 h1⟩
  ·rintro ⟨y,rfl,h1⟩;exact ⟨y,rfl,(RL_mark m h).2 h1⟩
 | .cst i l,v,_=>by
  show (v=ρ.v i∧_∧_)↔(v=ρ.v i∧_∧_);simp only [SE.den_mark]
 | .opq _ _,_,_=>by simp only [R,SE.den_mark]
 | .junk,_,_=>Iff.rfl
 | .sx i n sz l,v,_=>by
  show (v=ρ.v i∧_)↔(v=ρ.v i∧_);simp only [SE.den_mark,zn6]
 | .nun c w,v,h=>by show (v=undef∧_=_)↔(v=undef∧_=_);rw [SB.den_mark ρ m c h]
theorem RL_mark {ρ:Val} {j:J} (m:Nat→Bool): ∀ {l:List AV} {v:List Value},AV.smallL l=true→(RL (ρ.mark m) j l v↔RL ρ j l v)
 | [], _,_=>Iff.rfl
 | a::l,v,h=>by
  unfold AV.smallL at h;split at h
  ·rename_i ha;constructor
   ·rintro ⟨y,k,rfl,h1,h2⟩;exact ⟨y,k,rfl,(R_mark m ha).1 h1,(RL_mark m h).1 h2⟩
   ·rintro ⟨y,k,rfl,h1,h2⟩;exact ⟨y,k,rfl,(R_mark m ha).2 h1,(RL_mark m h).2 h2⟩
  ·cases h
end
def zwQ:Option AV→Bool
 | none=>true
 | some a=>a.small
def ze2:List (AV×Option AV)→Bool
 | [] => true
 | e::l=>match e.1.small,zwQ e.2 with|true,true=>ze2 l|_,_=>false
theorem zjz {ρ:Val} {j:J} (m:Nat→Bool): ∀ {l:List (AV×Option AV)} {v:List (Int×Option Value)},ze2 l=true→(RX (ρ.mark m) j l v↔RX ρ j l v)
 | [], _,_=>Iff.rfl
 | e::l,v,h=>by
  unfold ze2 at h;split at h
  ·rename_i h1 h2;have ho: ∀o,RO (ρ.mark m) j e.2 o↔RO ρ j e.2 o:=fun o=>by
    cases he:e.2 with
    | none=>exact Iff.rfl
    | some a=>
     rw [he] at h2;constructor
     ·rintro ⟨y,rfl,hy⟩;exact ⟨y,rfl,(R_mark m h2).1 hy⟩
     ·rintro ⟨y,rfl,hy⟩;exact ⟨y,rfl,(R_mark m h2).2 hy⟩
   constructor
   ·rintro ⟨x,o,k,rfl,g1,g2,g3⟩;exact ⟨x,o,k,rfl,(R_mark m h1).1 g1,(ho o).1 g2,(zjz m h).1 g3⟩
   ·rintro ⟨x,o,k,rfl,g1,g2,g3⟩;exact ⟨x,o,k,rfl,(R_mark m h1).2 g1,(ho o).2 g2,(zjz m h).2 g3⟩
  ·cases h
def Sh.small:Sh→Bool
 | .own row=>AV.smallL row
 | .ro row=>AV.smallL row
 | .mapx kn=>ze2 kn
def zaB:List Sh→Bool
 | [] => true
 | s::l=>match s.small with|true=>zaB l|false=>false
theorem zfM {ρ:Val} {j:J} {x:Cx} (m:Nat→Bool): ∀ {bl:List (Nat×Nat)} {l:List Sh},zaB l=true→ShsOk ρ j x bl l→ShsOk (ρ.mark m) j x bl l
 | [], [], _,_=>trivial
 | [], _::_,_,h=>h.elim
 | _::_,[],_,h=>h.elim
 | b::bl,s::l,hs,h=>by
  unfold zaB at hs;split at hs
  ·rename_i h0;refine ⟨?_,zfM m hs h.2⟩;have h1:=h.1;cases s with
   | own row=>obtain ⟨a1,a2,vals,arr,e,a3,a4,a5⟩:=h1;exact ⟨a1,a2,vals,arr,e,a3,(RL_mark m h0).2 a4,a5⟩
   | ro row=>obtain ⟨a1,vals,arr,e,fr,a3,a4,a5,a6⟩:=h1;exact ⟨a1,vals,arr,e,fr,a3,(RL_mark m h0).2 a4,a5,a6⟩
   | mapx kn=>obtain ⟨a1,a2,arr,clock,m0,a3,a4,a5,a6⟩:=h1;exact ⟨a1,a2,arr,clock,m0,a3,a4,(zjz m h0).2 a5,a6⟩
  ·cases hs
theorem zlj {ρ:Val} (m:Nat→Bool) {a:AV} {v:Value} {j:J} (hs:a.small=true) (hx:a.exact=true) (h:R (ρ.mark m) j a v):v=a.val ρ (lcOf j):=R_val hx ((R_mark m hs).1 h)
def zmr (P:Program) (ρ:Val) (w0:World) (K:Nat→Prop) (g:Gho) (e:Ent):Prop:=
 Enters P e.f∧ ∀(j:J) (w:World) (vals:List Value) (F:Nat→Prop) (n:Nat),RL ρ j e.args vals→(∀k,n≤k→j k=none)→(e.nopq≠0→n=e.base)→(∀b,F b→b<w.heap.size)→w0.heap.size≤w.heap.size→g.fact e.gs (opqs j) F w→(∀i,i<w0.heap.size→ ¬K i→w.heap[i]? =w0.heap[i]?)→
   Calls P e.f vals.toArray w fun en w'=> ∃u qs F',en= .returned u∧qs.length=e.nopq∧R ρ (jq j n qs) e.res u∧g.fact e.gs' (opqs (jq j n qs)) F' w'∧(∀b,F' b→b<w'.heap.size∧(F b∨w.heap.size≤b))∧Mv (fun b=>F b∧(w0.heap.size≤b∨K b)) w w'
def znG (P:Program) (ρ:Val) (w0:World) (K:Nat→Prop) (g:Gho):List Ent→Prop
 | [] => True
 | e::l=>zmr P ρ w0 K g e∧znG P ρ w0 K g l
def zap:List Ent→Bool
 | [] => true
 | e::l=>match AV.smallL e.args,e.res.small with|true,true=>zap l|_,_=>false
theorem zeA {P:Program} {ρ:Val} {w0:World} {K:Nat→Prop} {g:Gho} (m:Nat→Bool): ∀ {l:List Ent},zap l=true→znG P ρ w0 K g l→ ∀e∈l,zwb P (ρ.mark m) (cxOf w0 K g) e
 | [], _,_,e,h=>by cases h
 | e0::l,hs,ho,e,h=>by
  unfold zap at hs;split at hs
  case h_2=>cases hs
  rename_i h1 h2;rcases List.mem_cons.1 h with rfl|h
  ·refine ztq ho.1.1 fun j w vals F n hv hn hb hF hsz hf hold=> ?_;refine Calls.mono (ho.1.2 j w vals F n ((RL_mark m h1).1 hv) hn hb hF hsz hf hold) fun en w' he=> ?_;obtain ⟨u,qs,F',e1,e2,e3,e4⟩:=he;exact ⟨u,qs,F',e1,e2,(R_mark m h2).2 e3,e4⟩
  ·exact zeA m hs ho.2 e h
theorem zjn {P:Program} {ρ:Val} {w0:World} {K:Nat→Prop} {g:Gho} {f:FuncId} {args:List AV} {gs base:Nat} {res:AV} (he:Enters P f)
  (h: ∀(j:J) (w:World) (vals:List Value) (F:Nat→Prop),RL ρ j args vals→g.fact gs (opqs j) F w→Calls P f vals.toArray w fun en w'=> ∃u,en= .returned u∧R ρ j res u∧Below w.heap.size w w'):
  zmr P ρ w0 K g ⟨f,args,gs,base,0,res,gs⟩:=by
 refine ⟨he,fun j w vals F n hv hn _ hF hsz hfact _=> ?_⟩;refine Calls.mono (h j w vals F hv hfact) fun en w' he'=> ?_;obtain ⟨u,rfl,h1,h2⟩:=he';refine ⟨u,[],F,rfl,rfl,by rw [zt4];exact h1,?_,fun b hb=>⟨Nat.lt_of_lt_of_le (hF b hb) h2.size,.inl hb⟩,Mv.of_below h2⟩;rw [zt4];exact g.loc _ _ _ _ _ _ hfact (fun _ _ h=>h) (fun b hb=>h2.block b (hF b hb)) h2.size
def Row (w:World) (L:Loc) (vals:List Value):Prop:= ∃arr e fr,w.heap[L.blk]? =some (.cells arr e fr)∧ ∀(i:Nat) (y:Value),vals[i]? =some y→arr[L.off+i]? =some y
def Own (w:World) (b:Nat) (vals:List Value):Prop:= ∃(arr:Array Value) (e:TypeId),w.heap[b]? =some (.cells arr e (0,0))∧ ∀(i:Nat) (y:Value),vals[i]? =some y→arr[i]? =some y
def zcX:List (Nat×List AV)→Bool
 | [] => true
 | r::l=>match AV.exactL r.2,AV.smallL r.2 with|true,true=>zcX l|_,_=>false
def zgp:List (AV×Option AV)→Bool
 | [] => true
 | e::l=>match e.1.exact,(match e.2 with|none=>true|some a=>a.exact) with|true,true=>zgp l|_,_=>false
def zc1:List (Nat×List (AV×Option AV))→Bool
 | [] => true
 | r::l=>match zgp r.2,ze2 r.2 with|true,true=>zc1 l|_,_=>false
def zan:List Leaf→Bool
 | [] => true
 | l::r=>match l.v.exact,l.v.small,zcX l.rows,zc1 l.maps with|true,true,true,true=>zan r|_,_,_,_=>false
def intOf:Value→Int
 | .int _ n=>n
 | _=>0
def zns (ρ:Val) (lc:Nat→Loc):List (AV×Option AV)→List (Int×Option Value)
 | [] => []
 | e::l=>(intOf (e.1.val ρ lc),e.2.map (AV.val ρ lc))::zns ρ lc l
theorem zui {ρ:Val} {j:J}: ∀ {l:List (AV×Option AV)} {m:List (Int×Option Value)},zgp l=true→RX ρ j l m→m=zns ρ (lcOf j) l
 | [], _,_,r=>r
 | e::l,_,h,r=>by
  obtain ⟨x,o,k,rfl,g1,g2,g3⟩:=r;unfold zgp at h;split at h
  case h_2=>cases h
  rename_i h1 h2;unfold zns;rw [zui h g3,←R_val h1 g1];cases he:e.2 with
  | none=>rw [he] at g2;have g2:o=none:=g2;rw [g2];rfl
  | some a=>
   rw [he] at g2 h2;obtain ⟨v,rfl,g4⟩:=g2;rw [R_val h2 g4];rfl
def zrW (ρ:Val) (j:J) (K:Nat→Prop) (w0 w:World):List (Nat×List AV)→Prop
 | [] => True
 | r::l=>(∀L,j r.1=some L→Row w L (AV.valL ρ (lcOf j) r.2)∧((w0.heap.size≤L.blk∨K L.blk)→L.off=0→Own w L.blk (AV.valL ρ (lcOf j) r.2)))∧zrW ρ j K w0 w l
def zrZ (ρ:Val) (j:J) (w0 w:World):List (Nat×List (AV×Option AV))→Prop
 | [] => True
 | r::l=>(∀L,j r.1=some L→ ∃arr clock arr0 clock0,w.heap[L.blk]? =some (.map arr clock)∧w0.heap[L.blk]? =some (.map arr0 clock0)∧(zb6 arr∧Born arr clock)∧ ∀k,zaU arr k=mlog (zaU arr0) (zns ρ (lcOf j) r.2) k)∧zrZ ρ j w0 w l
theorem zcM: ∀ {ls:List Leaf} {i:Nat} {l:Leaf},zan ls=true→ls[i]? =some l→l.v.exact=true∧l.v.small=true∧zcX l.rows=true∧zc1 l.maps=true
 | [], _,_,_,h=>by cases h
 | x::r,i,l,hx,h=>by
  unfold zan at hx;split at hx
  case h_2=>cases hx
  rename_i h1 h2 h3 h4;cases i with
  | zero=>cases h;exact ⟨h1,h2,h3,h4⟩
  | succ i=>exact zcM hx (by simpa using h)
theorem zjZ {ρ:Val} {m:Nat→Bool} {j:J} {x:Cx} {K:Nat→Prop} {H:Heap} {w:World} (hxw: ∀b,x.own b↔(x.w.heap.size≤b∨K b)) (hi:Inv (ρ.mark m) x j H w): ∀ {rows:List (Nat×List AV)},zcX rows=true→zb7 H rows=true→zrW ρ j K x.w w rows
 | [], _,_=>trivial
 | r::l,hx,ha=>by
  unfold zcX at hx;split at hx
  case h_2=>cases hx
  rename_i h1 h2;unfold zb7 at ha;split at ha
  case h_2=>cases ha
  rename_i h3 _;refine ⟨fun L hL=> ?_,zjZ hxw hi hx ha⟩;obtain ⟨vals,arr,e,fr,g1,g2,g3,_,g5⟩:=hi.rowOut hL h3;have hv:=RL_val h1 ((RL_mark m h2).1 g2);rw [hv] at g3;refine ⟨⟨arr,e,fr,g1,g3⟩,fun ho h0=> ?_⟩;have:=g5 ((hxw _).2 ho);subst this;exact ⟨arr,e,g1,fun i y hy=>by have:=g3 i y hy;rwa [h0,Nat.zero_add] at this⟩
theorem zkq {ρ:Val} {m:Nat→Bool} {j:J} {x:Cx} {H:Heap} {w:World} (hi:Inv (ρ.mark m) x j H w): ∀ {maps:List (Nat×List (AV×Option AV))},zc1 maps=true→zev H maps=true→zrZ ρ j x.w w maps
 | [], _,_=>trivial
 | r::l,hx,ha=>by
  unfold zc1 at hx;split at hx
  case h_2=>cases hx
  rename_i h1 h2;unfold zev at ha;split at ha
  case h_2=>cases ha
  rename_i h3;refine ⟨fun L hL=> ?_,zkq hi hx ha⟩;obtain ⟨arr,clock,arr0,clock0,m1,g1,g2,g3,g4,g5⟩:=hi.mapOut hL h3;have hv:=zui h1 ((zjz m h2).1 g4);rw [hv] at g5;exact ⟨arr,clock,arr0,clock0,g1,g2,g3,g5⟩
mutual
def AV.names:AV→List Nat
 | .ptr n _=> [n]
 | .sl n _ _ _=> [n]
 | .map n=> [n]
 | .opq n _=> [n]
 | .func _ a b=>AV.namesL a++AV.namesL b
 | .iface _ v=>AV.names v
 | .agg l=>AV.namesL l
 | .tup l=>AV.namesL l
 | _=> []
def AV.namesL:List AV→List Nat
 | [] => []
 | a::l=>AV.names a++AV.namesL l
end
mutual
theorem names_some {ρ:Val} {j:J}: ∀ {a:AV} {v:Value},R ρ j a v→ ∀n∈a.names,j n=some (lcOf j n)
 | .bool _,_,_,n,h=>by cases h
 | .int _ _,_,_,n,h=>by cases h
 | .str _,_,_,n,h=>by cases h
 | .nilp,_,_,n,h=>by cases h
 | .ptr m o,_,r,n,h=>by
  obtain ⟨L,e,_⟩:=r;have h:n∈ [m]:=h;rw [List.mem_singleton] at h;subst h;rw [zaI e];exact e
 | .nils,_,_,n,h=>by cases h
 | .sl m _ _ _,_,r,n,h=>by
  obtain ⟨L,e,_⟩:=r;have h:n∈ [m]:=h;rw [List.mem_singleton] at h;subst h;rw [zaI e];exact e
 | .emp,_,_,n,h=>by cases h
 | .slu _,_,_,n,h=>by cases h
 | .sla,_,_,n,h=>by cases h
 | .nilm,_,_,n,h=>by cases h
 | .map m,_,r,n,h=>by
  obtain ⟨L,e,_⟩:=r;have h:n∈ [m]:=h;rw [List.mem_singleton] at h;subst h;rw [zaI e];exact e
 | .func f a b,_,r,n,h=>by
  obtain ⟨l,m,_,h1,h2⟩:=r;have h:n∈AV.namesL a++AV.namesL b:=h;rcases List.mem_append.1 h with h|h
  ·exact namesL_some h1 n h
  ·exact namesL_some h2 n h
 | .nilf,_,_,n,h=>by cases h
 | .nili,_,_,n,h=>by cases h
 | .iface t x,_,r,n,h=>by obtain ⟨y,_,h1⟩:=r;exact names_some h1 n h
 | .agg l,_,r,n,h=>by obtain ⟨y,_,h1⟩:=r;exact namesL_some h1 n h
 | .tup l,_,r,n,h=>by obtain ⟨y,_,h1⟩:=r;exact namesL_some h1 n h
 | .cst _ _,_,_,n,h=>by cases h
 | .opq m _,_,r,n,h=>by
  obtain ⟨⟨L,e,_⟩,_⟩:=r;have h:n∈ [m]:=h;rw [List.mem_singleton] at h;subst h;rw [zaI e];exact e
 | .nun _ _,_,_,n,h=>by cases h
 | .junk,_,_,n,h=>by cases h
 | .sx _ _ _ _,_,_,n,h=>by cases h
theorem namesL_some {ρ:Val} {j:J}: ∀ {l:List AV} {m:List Value},RL ρ j l m→ ∀n∈AV.namesL l,j n=some (lcOf j n)
 | [], _,_,n,h=>by cases h
 | a::l,_,r,n,h=>by
  obtain ⟨v,m,_,h1,h2⟩:=r;have h:n∈AV.names a++AV.namesL l:=h;rcases List.mem_append.1 h with h|h
  ·exact names_some h1 n h
  ·exact namesL_some h2 n h
end
def zjx (j:J):List (Nat×List AV)→Prop
 | [] => True
 | r::l=>(∀L,j r.1=some L→ ∀n∈AV.namesL r.2,j n=some (lcOf j n))∧zjx j l
theorem zgN {ρ:Val} {j:J} {x:Cx} {H:Heap} {w:World} (hi:Inv ρ x j H w): ∀ {rows:List (Nat×List AV)},zb7 H rows=true→zjx j rows
 | [], _=>trivial
 | r::l,ha=>by
  unfold zb7 at ha;split at ha
  case h_2=>cases ha
  rename_i h3 _;refine ⟨fun L hL=> ?_,zgN hi ha⟩;obtain ⟨vals,arr,e,fr,g1,g2,_⟩:=hi.rowOut hL h3;exact namesL_some g2
theorem zbR {H:Heap}: ∀ {l:List (Nat×List AV)},zb7 H l=true→ ∀ {r:Nat×List AV},r∈l→zj1 H r.1 r.2=true
 | [], _,_,h=>by cases h
 | x::l,ha,r,h=>by
  unfold zb7 at ha;split at ha
  case h_2=>cases ha
  rename_i h1 _;rcases List.mem_cons.1 h with rfl|h
  ·exact h1
  ·exact zbR ha h
theorem zg5 {H:Heap}: ∀ {l:List (Nat×List (AV×Option AV))},zev H l=true→ ∀ {r:Nat×List (AV×Option AV)},r∈l→zoM H r.1 r.2=true
 | [], _,_,h=>by cases h
 | x::l,ha,r,h=>by
  unfold zev at ha;split at ha
  case h_2=>cases ha
  rename_i h1;rcases List.mem_cons.1 h with rfl|h
  ·exact h1
  ·exact zg5 ha h
structure zpc (ρ:Val) (w0:World) (K:Nat→Prop) (g:Gho) (bl:List (Nat×Nat)) (l:Leaf) (e:Ending) (w':World) (j:J):Prop where
 ret:e= .returned (l.v.val ρ (lcOf j))
 sub:Sub (jOf bl) j
 rows:zrW ρ j K w0 w' l.rows
 maps:zrZ ρ j w0 w' l.maps
 names: ∀n∈l.v.names,j n=some (lcOf j n)
 rnames:zjx j l.rows
 apart: ∀r∈l.rows,∀r'∈l.rows,r.1≠r'.1→ ∀L L',j r.1=some L→j r'.1=some L'→L.blk=L'.blk→ ¬(w0.heap.size≤L.blk∨K L.blk)
 mapart: ∀r∈l.rows,∀r'∈l.maps,∀L L',j r.1=some L→j r'.1=some L'→L.blk≠L'.blk
 mine: ∀r∈l.rows,∀L,j r.1=some L→Mine j L.blk
 fresh: ∀n∈l.own,∀L,j n=some L→(w0.heap.size≤L.blk∨K L.blk)∧L.off=0
 gho:g.G l.gs j w'
 mv:Mv K w0 w'
def zjo (n:Nat):List (List (SB×Bool)×Nat)→List (List (SB×Bool)×Nat)
 | [] => []
 | p::l=>(p.1.drop n,p.2)::zjo n l
def Ob.ways (asm:List (SB×Bool)) (o:Ob):Option (List (List (SB×Bool)×Nat)):=
 match o.paths asm with
 | some l=>some (zjo asm.length l)
 | none=>none
theorem zeB {n:Nat}: ∀ {l:List (List (SB×Bool)×Nat)} {p:List (SB×Bool)×Nat},p∈l→(p.1.drop n,p.2)∈zjo n l
 | [], _,h=>by cases h
 | q::l,p,h=>by
  unfold zjo;rcases List.mem_cons.1 h with rfl|h
  ·exact List.mem_cons_self ..
  ·exact List.mem_cons_of_mem _ (zeB h)
theorem znL {ρ:Val} {w:World} {K:Nat→Prop} {g:Gho} {bl:List (Nat×Nat)} {l:Leaf} {m:Nat→Bool} {H H':Heap} {j':J} {u:Value} {v:AV} {w':World}
  (x1:l.v.exact=true) (x2:l.v.small=true) (x3:zcX l.rows=true) (x4:zc1 l.maps=true)
  (h1:R (ρ.mark m) j' v u) (h2:Inv (ρ.mark m) (cxOf w K g) j' H' w') (h3:St (jOf bl) H j' H') (h4:l.fits v H'=true):zpc ρ w K g bl l (.returned u) w' j':=by
 obtain ⟨k1,k2,k3,k4,k5⟩:=zw2 h4;subst k1;refine ⟨by rw [zlj m x2 x1 h1],h3.sub,zjZ (x:=cxOf w K g) (fun b=>Iff.rfl) h2 x3 k2,zkq h2 x4 k3,names_some h1,zgN h2 k2,fun r hr r' hr' hne L L' hL hL' hb=>h2.rowsApart hne (zeU k2 hr hr' hne) hL hL' (zbR k2 hr) (zbR k2 hr') hb,
  fun r hr r' hr' L L' hL hL'=>h2.rowMapApart hL hL' (zbR k2 hr) (zg5 k3 hr'),fun r hr L hL=> ?_,fun n hn L hL=> ?_,?_,h2.fr.os,h2.fr.tape,h2.fr.out,h2.fr.size,h2.fr.old⟩
 ·obtain ⟨_,_,_,_,_,_,h5,_⟩:=zd1 (zbR k2 hr);exact ⟨r.1,L,hL,h2.qrow hL h5,rfl⟩
 ·obtain ⟨v,e,c,sh,h5⟩:=zgX k5 hn;refine ⟨?_,h2.off0 n L v e c sh hL h5⟩;obtain ⟨o,h6,h7⟩:=h2.obj n L hL;rw [h5] at h6;cases h6;have h8:=h7.2.1;rw [if_pos rfl] at h8;exact h8
 ·rw [←k4];exact h2.gho
theorem zaT {P:Program} {ρ:Val} {w:World} {K:Nat→Prop} {g:Gho} {bl:List (Nat×Nat)} {shs:List Sh} {gs:Nat} {ents:List Ent} {n:Nat} {f:FuncId} {args:List AV} {vals:List Value} {ls:List Leaf} {asm:List (SB×Bool)} {ps:List (List (SB×Bool)×Nat)}
  (hmo:P.follows .mixedOrders=true)
  (h:(ev P (zaY ents) n (.call f args (zaV gs shs) (zbh ls 0))).ways asm=some ps)
  (hs:(zaB shs&&zap ents&&AV.smallL args&&zan ls)=true)
  (hK: ∀b,K b→b<w.heap.size) (ho:ShsOk ρ (jOf bl) (cxOf w K g) bl shs) (hap:apart bl shs) (hG:g.G gs (jOf bl) w) (he:znG P ρ w K g ents) (ha:RL ρ (jOf bl) args vals) (ht:Told ρ asm):
  Calls P f vals.toArray w fun e w'=> ∃p∈ps,Told ρ p.1∧ ∃l,ls[p.2]? =some l∧ ∃j,zpc ρ w K g bl l e w' j:=by
 simp only [Bool.and_eq_true] at hs;obtain ⟨⟨⟨s1,s2⟩,s3⟩,s4⟩:=hs;unfold Ob.ways at h;cases hps:(ev P (zaY ents) n (.call f args (zaV gs shs) (zbh ls 0))).paths asm with
 | none=>rw [hps] at h;cases h
 | some ps0=>
 rw [hps] at h;cases h;have h:=hps;refine Calls.mono (zs4 (x:=cxOf w K g) hmo (fun m=>zkT (zeA m s2 he)) (fun m=>zkG hK (zfM m s1 ho) hap hG) (fun m=>(RL_mark m s3).2 ha) ht h) fun e w' hh=> ?_;obtain ⟨p,hp,hto,l,hl,m,u,v,j',H',rfl,h1,h2,h3,h4⟩:=hh;obtain ⟨x1,x2,x3,x4⟩:=zcM s4 hl;exact ⟨(p.1.drop asm.length,p.2),zeB hp,fun c hc=>hto c (List.mem_of_mem_drop hc),l,hl,j',znL x1 x2 x3 x4 h1 h2 h3 h4⟩
end Go.Dw
namespace Go.Dw
open Go.RowKit
def u32v (i:Nat):SE:= .flds [⟨i,0,4294967295,0,32,0⟩] 0
def u64v (i:Nat):SE:= .flds [⟨i,0,18446744073709551615,0,64,0⟩] 0
def szv (i:Nat):SE:= .flds [⟨i,1,32768,0,16,0⟩] 0
def lnv (i:Nat):SE:= .flds [⟨i,0,4611686018427387903,0,62,0⟩] 0
theorem zhs {ρ:Val} {i lo hi n:Nat} (h0:(lo:Int)≤ρ.i i) (h1:ρ.i i≤(hi:Int)) (h2:hi<2^n):SE.den ρ (.flds [⟨i,lo,hi,0,n,0⟩] 0)=ρ.i i:=by
 obtain ⟨x,hx⟩:=Int.eq_ofNat_of_zero_le (Int.le_trans (Int.natCast_nonneg lo) h0);simp only [SE.den,zab,Fld.den,hx,Int.toNat_natCast,Nat.shiftRight_zero,Nat.shiftLeft_zero,Nat.or_zero];rw [hx] at h0 h1;have e:max lo (min x hi)=x:=by omega
 rw [e,Nat.mod_eq_of_lt (by omega)];rfl
theorem zjp {ρ:Val} {i:Nat} (h0:0≤ρ.i i) (h1:ρ.i i<4294967296):(u32v i).den ρ=ρ.i i:=zhs (by omega) (by omega) (by decide)
theorem zcb {ρ:Val} {i:Nat} (h0:0≤ρ.i i) (h1:ρ.i i<18446744073709551616):(u64v i).den ρ=ρ.i i:=zhs (by omega) (by omega) (by decide)
theorem zvS {ρ:Val} {i:Nat} (h0:1≤ρ.i i) (h1:ρ.i i≤32768):(szv i).den ρ=ρ.i i:=zhs (by omega) (by omega) (by decide)
theorem zfA {ρ:Val} {i:Nat} (h0:0≤ρ.i i) (h1:ρ.i i<4611686018427387904):(lnv i).den ρ=ρ.i i:=zhs (by omega) (by omega) (by decide)
theorem zat {ρ:Val} {n:Int}:SE.den ρ (.lit n)=n:=rfl
theorem den_add {ρ:Val} {k:IntKind} {a b:SE}:SE.den ρ (.bin .add k a b)=k.wrap (a.den ρ+b.den ρ):=rfl
theorem zcO {ρ:Val} {k:IntKind} {a b:SE}:SE.den ρ (.bin .sub k a b)=k.wrap (a.den ρ-b.den ρ):=rfl
theorem den_mul {ρ:Val} {k:IntKind} {a b:SE}:SE.den ρ (.bin .mul k a b)=k.wrap (a.den ρ*b.den ρ):=rfl
theorem znO {ρ:Val} {i:Nat}:SB.den ρ (.var i)=ρ.b i:=rfl
theorem znP {ρ:Val} {a b:SE}:SB.den ρ (.cmp .eql a b)=(a.den ρ==b.den ρ):=rfl
theorem zt9 {ρ:Val} {a b:SE}:SB.den ρ (.cmp .neq a b)=(a.den ρ !=b.den ρ):=rfl
theorem zdB {ρ:Val} {a b:SE}:SB.den ρ (.cmp .lss a b)=decide (a.den ρ<b.den ρ):=rfl
theorem zua {ρ:Val} {a b:SE}:SB.den ρ (.cmp .leq a b)=decide (a.den ρ≤b.den ρ):=rfl
theorem zhu {ρ:Val} {a b:SE}:SB.den ρ (.cmp .gtr a b)=decide (a.den ρ>b.den ρ):=rfl
theorem zf0 {ρ:Val} {a b:SE}:SB.den ρ (.cmp .geq a b)=decide (a.den ρ≥b.den ρ):=rfl
theorem zai {k:Int} (h:0≤k) (h':k<18446744073709551616):IntKind.wrap .u64 k=k:=by unfold IntKind.wrap;simp [IntKind.signed,IntKind.bits];omega
theorem ztJ {k:Int} (h:0≤k) (h':k<4294967296):IntKind.wrap .u32 k=k:=by unfold IntKind.wrap;simp [IntKind.signed,IntKind.bits];omega
theorem zjB {k:Int} (h:0≤k) (h':k<65536):IntKind.wrap .u16 k=k:=by unfold IntKind.wrap;simp [IntKind.signed,IntKind.bits];omega
theorem zpe (k:Int):IntKind.wrap .u16 k=k%65536:=by unfold IntKind.wrap;simp [IntKind.signed,IntKind.bits]
theorem zdF (k:Int):IntKind.wrap .u64 k=k%18446744073709551616:=by unfold IntKind.wrap;simp [IntKind.signed,IntKind.bits]
theorem zaS {k:Int} (h: -9223372036854775808≤k) (h':k<9223372036854775808):IntKind.wrap .i64 k=k:=by
 simp only [IntKind.wrap,IntKind.bits,IntKind.signed];simp;omega
theorem zao {ρ:Val} {j:J} {a:AV} {l:List AV} {v:Value} {m:List Value} (h:R ρ j a v) (h':RL ρ j l m):RL ρ j (a::l) (v::m):=⟨v,m,rfl,h,h'⟩
theorem zax {ρ:Val} {j:J} {k:IntKind} {n:SE} {x:Int} (h:n.den ρ=x):R ρ j (.int k n) (.int k x):=by show Value.int k x= .int k (n.den ρ);rw [h]
theorem zf4 {ρ:Val} {j:J} {b:SB} {x:Bool} (h:b.den ρ=x):R ρ j (.bool b) (.bool x):=by show Value.bool x= .bool (b.den ρ);rw [h]
theorem zjy {ρ:Val} {j:J} {n o:Nat} {L:Loc} (h:j n=some L):R ρ j (.ptr n o) (.pointer (some ⟨L.blk,L.off+o,none⟩)):=⟨L,h,rfl⟩
theorem zxu {ρ:Val} {j:J} {a:List AV} {l:List Value} (h:RL ρ j a l):R ρ j (.agg a) (.agg l.toArray):=⟨l,rfl,h⟩
theorem zxt {ρ:Val} {j:J} {a:List AV} {l:List Value} (h:RL ρ j a l):R ρ j (.tup a) (.tuple l.toArray):=⟨l,rfl,h⟩
theorem zar {ρ:Val} {w0:World} {K:Nat→Prop} {g:Gho} {bl:List (Nat×Nat)} {l:Leaf} {e:Ending} {w':World} {j:J} (h:zpc ρ w0 K g bl l e w' j) (hK: ∀b,¬K b):Below w0.heap.size w0 w':=
 ⟨h.mv.os,h.mv.tape,h.mv.output,h.mv.size,fun k hk=>h.mv.block k hk (hK k)⟩
theorem zbU {w:World} {b:Nat} {vals:List Value} (h:Own w b vals) {i:Nat} {v:Value} (hv:vals[i]? =some v):w.cell? ⟨b,i,none⟩=some v:=by
 obtain ⟨arr,e,h1,h2⟩:=h;simp [World.cell?,h1,h2 i v hv]
theorem zkj {w:World} {b:Nat} {vals:List Value} (h:Own w b vals):b<w.heap.size:=by
 obtain ⟨arr,e,h1,_⟩:=h;exact (Array.getElem?_eq_some_iff.1 h1).1
theorem Own.kept {w w':World} {b:Nat} {vals:List Value} (h:Own w b vals) (e:w'.heap[b]? =w.heap[b]?):Own w' b vals:=by
 obtain ⟨arr,t,h1,h2⟩:=h;exact ⟨arr,t,e.trans h1,h2⟩
theorem zaJ {k:Nat} {j:J} {w:World}:Gho.none.G k j w:=⟨fun _=>False,fun _ h=>h.elim,trivial⟩
end Go.Dw
namespace Go.Dw
theorem zau {ρ:Val}:Told ρ []↔True:=⟨fun _=>trivial,fun _ c h=>by cases h⟩
theorem zah {ρ:Val} {c:SB} {b:Bool} {l:List (SB×Bool)}:Told ρ ((c,b)::l)↔c.den ρ=b∧Told ρ l:=
 ⟨fun h=>⟨h (c,b) (by simp),fun x hx=>h x (by simp [hx])⟩,fun h x hx=>by
  rcases List.mem_cons.1 hx with rfl|hx
  ·exact h.1
  ·exact h.2 x hx⟩
def vof (is:List Int) (bs:List Bool) (vs:List Value):Val:=⟨fun i=>is.getD i 0,fun i=>bs.getD i false,fun i=>vs.getD i (.bool false)⟩
end Go.Dw
namespace Go.Dw
def ixv (i:Nat):SE:= .flds [⟨i,0,32767,0,15,0⟩] 0
theorem zht {ρ:Val} {i:Nat} (h0:0≤ρ.i i) (h1:ρ.i i<32768):(ixv i).den ρ=ρ.i i:=zhs (by omega) (by omega) (by decide)
end Go.Dw
namespace Go.Dw
open Go.RowKit
theorem zv7 {ρ:Val} {j:J} {a:List AV} {u v:List Value} (hx:AV.exactL a=true) (h:RL ρ j a u) (k:RL ρ j a v):u=v:=(RL_val hx h).trans (RL_val hx k).symm
def zrl (P:Program) (f:FuncId):Bool:=
  match P.funcs[f]? with
  | some fn => (match fn.body with | some _ => decide (fn.name ≠ "runtime.NumGoroutine") | none => false)
  | none=>false
theorem enters_of {P:Program} {f:FuncId} (h:zrl P f=true):Enters P f:=by
 unfold zrl at h;split at h
 case h_2=>cases h
 rename_i fn hf;split at h
 case h_2=>cases h
 rename_i c hc;exact ⟨fn,c,hf,hc,of_decide_eq_true h⟩
theorem zaP {P:Program} {ρ:Val} {w0:World} {K:Nat→Prop} {g:Gho} {f:FuncId} {args:List AV} {gs base:Nat} {res:AV} (he:Enters P f) (hx:AV.exactL args=true) (V:List Value) (U:Value)
  (ha: ∀j,RL ρ j args V) (hr: ∀j,R ρ j res U) (h: ∀w F q,g.fact gs q F w→Calls P f V.toArray w fun en w'=>en= .returned U∧Below w.heap.size w w'):zmr P ρ w0 K g ⟨f,args,gs,base,0,res,gs⟩:=
 zjn he fun j w vals F hv hf=>by
  rw [zv7 hx hv (ha j)];exact Calls.mono (h w F _ hf) fun en w' hh=>⟨U,hh.1,hr j,hh.2⟩
theorem zbL {ρ:Val} {w0:World} {K:Nat→Prop} {g:Gho} {bl:List (Nat×Nat)} {l0:Leaf} {e:Ending} {w':World} {pre:List (SB×Bool)}
  (h: ∃p∈ [(pre,0)],Told ρ p.1∧ ∃l,[l0][p.2]? =some l∧ ∃j,zpc ρ w0 K g bl l e w' j):Told ρ pre∧ ∃j,zpc ρ w0 K g bl l0 e w' j:=by
 obtain ⟨p,hp,ht,l,hl,j,he⟩:=h;rw [List.mem_singleton] at hp;subst hp;cases hl;exact ⟨ht,j,he⟩
end Go.Dw
namespace Go.Proofs
open Go.Dw Go.RowKit
structure Tryz.Rg where
 n:Int
 d:Int
 v:Int
 c:Int
def Tryz.Rg.val (r:Rg):Value:= .agg #[.bool false,.int .i64 r.n,.int .u64 r.d,.int .u64 r.v,.int .u64 r.c]
structure Tryz.RgOk (r:Rg):Prop where
 pow: ∃k,k≤15∧r.n=2^k
 d0:0≤r.d
 v0:0≤r.v
 c0:0≤r.c
 d16:r.d%16=0
 v2:r.v%2=0
 c4:r.c%4=0
 dE:r.d+16*r.n≤18446744073709551616
 vE:r.v+6+2*r.n≤18446744073709551616
 cE:r.c+6+8*r.n≤18446744073709551616
 dv:r.d+16*r.n≤r.v∨r.v+6+2*r.n≤r.d
 dc:r.d+16*r.n≤r.c∨r.c+6+8*r.n≤r.d
 vc:r.v+6+2*r.n≤r.c∨r.c+6+8*r.n≤r.v
theorem Tryz.RgOk.bnd {r:Rg} (h:RgOk r):1≤r.n∧r.n≤32768:=by
 obtain ⟨k,hk,e⟩:=h.pow;rw [e];have h1:(2:Int)^k=((2^k:Nat):Int):=by push_cast;rfl
 have h2:2^k≤2^15:=Nat.pow_le_pow_right (by decide) hk;have h3:1≤2^k:=Nat.pow_pos (by decide);rw [h1];omega
def Tryz.rg:AV:= .agg [.bool (.lit false),.int .i64 (szv 0),.int .u64 (u64v 1),.int .u64 (u64v 2),.int .u64 (u64v 3)]
end Go.Proofs
namespace Go.Proofs
open Go.Dw
def Tryz.zn1:List Ent:= []
def Tryz.zry:List Sh:= []
def Tryz.zn2:List AV:= [rg]
def Tryz.zme:List (SB×Bool):= [(.cmp .neq (.flds [⟨1,0,18446744073709551615,0,4,0⟩] 0) (.lit 0),false),(.cmp .neq (.flds [⟨2,0,18446744073709551615,0,1,0⟩] 0) (.lit 0),false),(.cmp .neq (.flds [⟨3,0,18446744073709551615,0,2,0⟩] 0) (.lit 0),false),(.cmp .eql (.bin .and .i64 (szv 0) (.bin .sub .i64 (szv 0) (.lit 1))) (.lit 0),true),(.cmp .gtr (.bin .sub .u64 (.bin .mul .u64 (.lit 16) (szv 0)) (.lit 1)) (.bin .sub .u64 (.lit 18446744073709551615) (u64v 1)),false),(.cmp .gtr (.bin .sub .u64 (.bin .add .u64 (.lit 6) (.bin .mul .u64 (.lit 2) (szv 0))) (.lit 1)) (.bin .sub .u64 (.lit 18446744073709551615) (u64v 2)),false),(.cmp .gtr (.bin .sub .u64 (.bin .add .u64 (.lit 6) (.bin .mul .u64 (.lit 8) (szv 0))) (.lit 1)) (.bin .sub .u64 (.lit 18446744073709551615) (u64v 3)),false)]
def Tryz.zue:List Leaf:= [
 ⟨.int .i64 (.lit 2),[],[],0,[]⟩,
 ⟨.int .i64 (.lit 0),[],[],0,[]⟩]
def Tryz.zud:List (List (SB×Bool)×Nat):= [
 ([((.cmp .leq (u64v 2) (u64v 1)),true),((.cmp .lss (.bin .sub .u64 (u64v 1) (u64v 2)) (.bin .add .u64 (.lit 6) (.bin .mul .u64 (.lit 2) (szv 0)))),true)],0),
 ([((.cmp .leq (u64v 2) (u64v 1)),true),((.cmp .lss (.bin .sub .u64 (u64v 1) (u64v 2)) (.bin .add .u64 (.lit 6) (.bin .mul .u64 (.lit 2) (szv 0)))),false),((.cmp .leq (u64v 3) (u64v 1)),true),((.cmp .lss (.bin .sub .u64 (u64v 1) (u64v 3)) (.bin .add .u64 (.lit 6) (.bin .mul .u64 (.lit 8) (szv 0)))),true)],0),
 ([((.cmp .leq (u64v 2) (u64v 1)),true),((.cmp .lss (.bin .sub .u64 (u64v 1) (u64v 2)) (.bin .add .u64 (.lit 6) (.bin .mul .u64 (.lit 2) (szv 0)))),false),((.cmp .leq (u64v 3) (u64v 1)),true),((.cmp .lss (.bin .sub .u64 (u64v 1) (u64v 3)) (.bin .add .u64 (.lit 6) (.bin .mul .u64 (.lit 8) (szv 0)))),false),((.cmp .leq (u64v 3) (u64v 2)),true),((.cmp .lss (.bin .sub .u64 (u64v 2) (u64v 3)) (.bin .add .u64 (.lit 6) (.bin .mul .u64 (.lit 8) (szv 0)))),true)],0),
 ([((.cmp .leq (u64v 2) (u64v 1)),true),((.cmp .lss (.bin .sub .u64 (u64v 1) (u64v 2)) (.bin .add .u64 (.lit 6) (.bin .mul .u64 (.lit 2) (szv 0)))),false),((.cmp .leq (u64v 3) (u64v 1)),true),((.cmp .lss (.bin .sub .u64 (u64v 1) (u64v 3)) (.bin .add .u64 (.lit 6) (.bin .mul .u64 (.lit 8) (szv 0)))),false),((.cmp .leq (u64v 3) (u64v 2)),true),((.cmp .lss (.bin .sub .u64 (u64v 2) (u64v 3)) (.bin .add .u64 (.lit 6) (.bin .mul .u64 (.lit 8) (szv 0)))),false)],1),
 ([((.cmp .leq (u64v 2) (u64v 1)),true),((.cmp .lss (.bin .sub .u64 (u64v 1) (u64v 2)) (.bin .add .u64 (.lit 6) (.bin .mul .u64 (.lit 2) (szv 0)))),false),((.cmp .leq (u64v 3) (u64v 1)),true),((.cmp .lss (.bin .sub .u64 (u64v 1) (u64v 3)) (.bin .add .u64 (.lit 6) (.bin .mul .u64 (.lit 8) (szv 0)))),false),((.cmp .leq (u64v 3) (u64v 2)),false),((.cmp .lss (.bin .sub .u64 (u64v 3) (u64v 2)) (.bin .add .u64 (.lit 6) (.bin .mul .u64 (.lit 2) (szv 0)))),true)],0),
 ([((.cmp .leq (u64v 2) (u64v 1)),true),((.cmp .lss (.bin .sub .u64 (u64v 1) (u64v 2)) (.bin .add .u64 (.lit 6) (.bin .mul .u64 (.lit 2) (szv 0)))),false),((.cmp .leq (u64v 3) (u64v 1)),true),((.cmp .lss (.bin .sub .u64 (u64v 1) (u64v 3)) (.bin .add .u64 (.lit 6) (.bin .mul .u64 (.lit 8) (szv 0)))),false),((.cmp .leq (u64v 3) (u64v 2)),false),((.cmp .lss (.bin .sub .u64 (u64v 3) (u64v 2)) (.bin .add .u64 (.lit 6) (.bin .mul .u64 (.lit 2) (szv 0)))),false)],1),
 ([((.cmp .leq (u64v 2) (u64v 1)),true),((.cmp .lss (.bin .sub .u64 (u64v 1) (u64v 2)) (.bin .add .u64 (.lit 6) (.bin .mul .u64 (.lit 2) (szv 0)))),false),((.cmp .leq (u64v 3) (u64v 1)),false),((.cmp .lss (.bin .sub .u64 (u64v 3) (u64v 1)) (.bin .mul .u64 (.lit 16) (szv 0))),true)],0),
 ([((.cmp .leq (u64v 2) (u64v 1)),true),((.cmp .lss (.bin .sub .u64 (u64v 1) (u64v 2)) (.bin .add .u64 (.lit 6) (.bin .mul .u64 (.lit 2) (szv 0)))),false),((.cmp .leq (u64v 3) (u64v 1)),false),((.cmp .lss (.bin .sub .u64 (u64v 3) (u64v 1)) (.bin .mul .u64 (.lit 16) (szv 0))),false),((.cmp .leq (u64v 3) (u64v 2)),true),((.cmp .lss (.bin .sub .u64 (u64v 2) (u64v 3)) (.bin .add .u64 (.lit 6) (.bin .mul .u64 (.lit 8) (szv 0)))),true)],0),
 ([((.cmp .leq (u64v 2) (u64v 1)),true),((.cmp .lss (.bin .sub .u64 (u64v 1) (u64v 2)) (.bin .add .u64 (.lit 6) (.bin .mul .u64 (.lit 2) (szv 0)))),false),((.cmp .leq (u64v 3) (u64v 1)),false),((.cmp .lss (.bin .sub .u64 (u64v 3) (u64v 1)) (.bin .mul .u64 (.lit 16) (szv 0))),false),((.cmp .leq (u64v 3) (u64v 2)),true),((.cmp .lss (.bin .sub .u64 (u64v 2) (u64v 3)) (.bin .add .u64 (.lit 6) (.bin .mul .u64 (.lit 8) (szv 0)))),false)],1),
 ([((.cmp .leq (u64v 2) (u64v 1)),true),((.cmp .lss (.bin .sub .u64 (u64v 1) (u64v 2)) (.bin .add .u64 (.lit 6) (.bin .mul .u64 (.lit 2) (szv 0)))),false),((.cmp .leq (u64v 3) (u64v 1)),false),((.cmp .lss (.bin .sub .u64 (u64v 3) (u64v 1)) (.bin .mul .u64 (.lit 16) (szv 0))),false),((.cmp .leq (u64v 3) (u64v 2)),false),((.cmp .lss (.bin .sub .u64 (u64v 3) (u64v 2)) (.bin .add .u64 (.lit 6) (.bin .mul .u64 (.lit 2) (szv 0)))),true)],0),
 ([((.cmp .leq (u64v 2) (u64v 1)),true),((.cmp .lss (.bin .sub .u64 (u64v 1) (u64v 2)) (.bin .add .u64 (.lit 6) (.bin .mul .u64 (.lit 2) (szv 0)))),false),((.cmp .leq (u64v 3) (u64v 1)),false),((.cmp .lss (.bin .sub .u64 (u64v 3) (u64v 1)) (.bin .mul .u64 (.lit 16) (szv 0))),false),((.cmp .leq (u64v 3) (u64v 2)),false),((.cmp .lss (.bin .sub .u64 (u64v 3) (u64v 2)) (.bin .add .u64 (.lit 6) (.bin .mul .u64 (.lit 2) (szv 0)))),false)],1),
 ([((.cmp .leq (u64v 2) (u64v 1)),false),((.cmp .lss (.bin .sub .u64 (u64v 2) (u64v 1)) (.bin .mul .u64 (.lit 16) (szv 0))),true)],0),
 ([((.cmp .leq (u64v 2) (u64v 1)),false),((.cmp .lss (.bin .sub .u64 (u64v 2) (u64v 1)) (.bin .mul .u64 (.lit 16) (szv 0))),false),((.cmp .leq (u64v 3) (u64v 1)),true),((.cmp .lss (.bin .sub .u64 (u64v 1) (u64v 3)) (.bin .add .u64 (.lit 6) (.bin .mul .u64 (.lit 8) (szv 0)))),true)],0),
 ([((.cmp .leq (u64v 2) (u64v 1)),false),((.cmp .lss (.bin .sub .u64 (u64v 2) (u64v 1)) (.bin .mul .u64 (.lit 16) (szv 0))),false),((.cmp .leq (u64v 3) (u64v 1)),true),((.cmp .lss (.bin .sub .u64 (u64v 1) (u64v 3)) (.bin .add .u64 (.lit 6) (.bin .mul .u64 (.lit 8) (szv 0)))),false),((.cmp .leq (u64v 3) (u64v 2)),true),((.cmp .lss (.bin .sub .u64 (u64v 2) (u64v 3)) (.bin .add .u64 (.lit 6) (.bin .mul .u64 (.lit 8) (szv 0)))),true)],0),
 ([((.cmp .leq (u64v 2) (u64v 1)),false),((.cmp .lss (.bin .sub .u64 (u64v 2) (u64v 1)) (.bin .mul .u64 (.lit 16) (szv 0))),false),((.cmp .leq (u64v 3) (u64v 1)),true),((.cmp .lss (.bin .sub .u64 (u64v 1) (u64v 3)) (.bin .add .u64 (.lit 6) (.bin .mul .u64 (.lit 8) (szv 0)))),false),((.cmp .leq (u64v 3) (u64v 2)),true),((.cmp .lss (.bin .sub .u64 (u64v 2) (u64v 3)) (.bin .add .u64 (.lit 6) (.bin .mul .u64 (.lit 8) (szv 0)))),false)],1),
 ([((.cmp .leq (u64v 2) (u64v 1)),false),((.cmp .lss (.bin .sub .u64 (u64v 2) (u64v 1)) (.bin .mul .u64 (.lit 16) (szv 0))),false),((.cmp .leq (u64v 3) (u64v 1)),true),((.cmp .lss (.bin .sub .u64 (u64v 1) (u64v 3)) (.bin .add .u64 (.lit 6) (.bin .mul .u64 (.lit 8) (szv 0)))),false),((.cmp .leq (u64v 3) (u64v 2)),false),((.cmp .lss (.bin .sub .u64 (u64v 3) (u64v 2)) (.bin .add .u64 (.lit 6) (.bin .mul .u64 (.lit 2) (szv 0)))),true)],0),
 ([((.cmp .leq (u64v 2) (u64v 1)),false),((.cmp .lss (.bin .sub .u64 (u64v 2) (u64v 1)) (.bin .mul .u64 (.lit 16) (szv 0))),false),((.cmp .leq (u64v 3) (u64v 1)),true),((.cmp .lss (.bin .sub .u64 (u64v 1) (u64v 3)) (.bin .add .u64 (.lit 6) (.bin .mul .u64 (.lit 8) (szv 0)))),false),((.cmp .leq (u64v 3) (u64v 2)),false),((.cmp .lss (.bin .sub .u64 (u64v 3) (u64v 2)) (.bin .add .u64 (.lit 6) (.bin .mul .u64 (.lit 2) (szv 0)))),false)],1),
 ([((.cmp .leq (u64v 2) (u64v 1)),false),((.cmp .lss (.bin .sub .u64 (u64v 2) (u64v 1)) (.bin .mul .u64 (.lit 16) (szv 0))),false),((.cmp .leq (u64v 3) (u64v 1)),false),((.cmp .lss (.bin .sub .u64 (u64v 3) (u64v 1)) (.bin .mul .u64 (.lit 16) (szv 0))),true)],0),
 ([((.cmp .leq (u64v 2) (u64v 1)),false),((.cmp .lss (.bin .sub .u64 (u64v 2) (u64v 1)) (.bin .mul .u64 (.lit 16) (szv 0))),false),((.cmp .leq (u64v 3) (u64v 1)),false),((.cmp .lss (.bin .sub .u64 (u64v 3) (u64v 1)) (.bin .mul .u64 (.lit 16) (szv 0))),false),((.cmp .leq (u64v 3) (u64v 2)),true),((.cmp .lss (.bin .sub .u64 (u64v 2) (u64v 3)) (.bin .add .u64 (.lit 6) (.bin .mul .u64 (.lit 8) (szv 0)))),true)],0),
 ([((.cmp .leq (u64v 2) (u64v 1)),false),((.cmp .lss (.bin .sub .u64 (u64v 2) (u64v 1)) (.bin .mul .u64 (.lit 16) (szv 0))),false),((.cmp .leq (u64v 3) (u64v 1)),false),((.cmp .lss (.bin .sub .u64 (u64v 3) (u64v 1)) (.bin .mul .u64 (.lit 16) (szv 0))),false),((.cmp .leq (u64v 3) (u64v 2)),true),((.cmp .lss (.bin .sub .u64 (u64v 2) (u64v 3)) (.bin .add .u64 (.lit 6) (.bin .mul .u64 (.lit 8) (szv 0)))),false)],1),
 ([((.cmp .leq (u64v 2) (u64v 1)),false),((.cmp .lss (.bin .sub .u64 (u64v 2) (u64v 1)) (.bin .mul .u64 (.lit 16) (szv 0))),false),((.cmp .leq (u64v 3) (u64v 1)),false),((.cmp .lss (.bin .sub .u64 (u64v 3) (u64v 1)) (.bin .mul .u64 (.lit 16) (szv 0))),false),((.cmp .leq (u64v 3) (u64v 2)),false),((.cmp .lss (.bin .sub .u64 (u64v 3) (u64v 2)) (.bin .add .u64 (.lit 6) (.bin .mul .u64 (.lit 2) (szv 0)))),true)],0),
 ([((.cmp .leq (u64v 2) (u64v 1)),false),((.cmp .lss (.bin .sub .u64 (u64v 2) (u64v 1)) (.bin .mul .u64 (.lit 16) (szv 0))),false),((.cmp .leq (u64v 3) (u64v 1)),false),((.cmp .lss (.bin .sub .u64 (u64v 3) (u64v 1)) (.bin .mul .u64 (.lit 16) (szv 0))),false),((.cmp .leq (u64v 3) (u64v 2)),false),((.cmp .lss (.bin .sub .u64 (u64v 3) (u64v 2)) (.bin .add .u64 (.lit 6) (.bin .mul .u64 (.lit 2) (szv 0)))),false)],1)]
theorem Tryz.zv3:(ev prog (zaY zn1) 100000 (.call 91 zn2 (zaV 0 zry) (zbh zue 0))).ways zme=some zud:=by kernel_rfl
theorem Tryz.zw8:(zaB zry&&zap zn1&&AV.smallL zn2&&zan zue)=true:=by kernel_rfl
open Go.RowKit
theorem Tryz.mixed:prog.follows .mixedOrders=true:=by kernel_rfl
theorem Tryz.zvk {n:Int} (h: ∃k,k≤15∧n=2^k):zct .and .i64 n (IntKind.wrap .i64 (n-1))=0:=by
 obtain ⟨k,hk,rfl⟩:=h;have:k=0∨k=1∨k=2∨k=3∨k=4∨k=5∨k=6∨k=7∨k=8∨k=9∨k=10∨k=11∨k=12∨k=13∨k=14∨k=15:=by omega
 rcases this with rfl|rfl|rfl|rfl|rfl|rfl|rfl|rfl|rfl|rfl|rfl|rfl|rfl|rfl|rfl|rfl<;>decide
def Tryz.rho (r:Rg) (is:List Int) (bs:List Bool) (vs:List Value):Val:=vof (r.n::r.d::r.v::r.c::is) bs vs
section
variable {r:Tryz.Rg} {is:List Int} {bs:List Bool} {vs:List Value}
theorem Tryz.zdX (h:RgOk r):(szv 0).den (rho r is bs vs)=r.n:=zvS h.bnd.1 h.bnd.2
theorem Tryz.zek (h:RgOk r):(u64v 1).den (rho r is bs vs)=r.d:=zcb h.d0 (by have:=h.dE;have:=h.bnd;show r.d<_;omega)
theorem Tryz.zej (h:RgOk r):(u64v 2).den (rho r is bs vs)=r.v:=zcb h.v0 (by have:=h.vE;have:=h.bnd;show r.v<_;omega)
theorem Tryz.zel (h:RgOk r):(u64v 3).den (rho r is bs vs)=r.c:=zcb h.c0 (by have:=h.cE;have:=h.bnd;show r.c<_;omega)
end
theorem Tryz.zea {ρ:Val} {i n:Nat} (h0:0≤ρ.i i) (h1:ρ.i i<18446744073709551616):SE.den ρ (.flds [⟨i,0,18446744073709551615,0,n,0⟩] 0)=ρ.i i%2^n:=by
 obtain ⟨x,hx⟩:=Int.eq_ofNat_of_zero_le h0;simp only [SE.den,zab,Fld.den,hx,Int.toNat_natCast,Nat.shiftRight_zero,Nat.shiftLeft_zero,Nat.or_zero];rw [hx] at h1;have e:max 0 (min x 18446744073709551615)=x:=by omega
 rw [e];rfl
theorem Tryz.R_rg {r:Rg} {is:List Int} {bs:List Bool} {vs:List Value} {j:J} (h:RgOk r):R (rho r is bs vs) j rg r.val:=
 zxu (zao (zf4 rfl) (zao (zax (zdX h)) (zao (zax (zek h)) (zao (zax (zej h)) (zao (zax (zel h)) RL.nil)))))
theorem Tryz.zbt (r:Rg) (h:RgOk r) (w:World):Calls prog 91 #[r.val] w fun e w'=>e= .returned (.int .i64 0)∧Below w.heap.size w w':=by
  have hb:=h.bnd;obtain ⟨hpow,d0,v0,c0,d16,v2,c4,dE,vE,cE,dv,dc,vc⟩:=h;have hr:RgOk r:=⟨hpow,d0,v0,c0,d16,v2,c4,dE,vE,cE,dv,dc,vc⟩;have en:=zdX (is:= []) (bs:= []) (vs:= []) hr;have ed:=zek (is:= []) (bs:= []) (vs:= []) hr;have ev:=zej (is:= []) (bs:= []) (vs:= []) hr;have ec:=zel (is:= []) (bs:= []) (vs:= []) hr;have l1:=zea (ρ:=rho r [] [] []) (i:=1) (n:=4) d0 (by show r.d<_;omega);have l2:=zea (ρ:=rho r [] [] []) (i:=2) (n:=1) v0 (by show r.v<_;omega);have l3:=zea (ρ:=rho r [] [] []) (i:=3) (n:=2) c0 (by show r.c<_;omega);have w1:IntKind.wrap .u64 (16*r.n)=16*r.n:=zai (by omega) (by omega);have w2:IntKind.wrap .u64 (2*r.n)=2*r.n:=zai (by omega) (by omega);have w3:IntKind.wrap .u64 (8*r.n)=8*r.n:=zai (by omega) (by omega);have w4:IntKind.wrap .u64 (6+2*r.n)=6+2*r.n:=zai (by omega) (by omega);have w5:IntKind.wrap .u64 (6+8*r.n)=6+8*r.n:=zai (by omega) (by omega);have w6:IntKind.wrap .u64 (16*r.n-1)=16*r.n-1:=zai (by omega) (by omega);have w7:IntKind.wrap .u64 (6+2*r.n-1)=6+2*r.n-1:=zai (by omega) (by omega);have w8:IntKind.wrap .u64 (6+8*r.n-1)=6+8*r.n-1:=zai (by omega) (by omega);have x1:IntKind.wrap .u64 (18446744073709551615-r.d)=18446744073709551615-r.d:=zai (by omega) (by omega);have x2:IntKind.wrap .u64 (18446744073709551615-r.v)=18446744073709551615-r.v:=zai (by omega) (by omega);have x3:IntKind.wrap .u64 (18446744073709551615-r.c)=18446744073709551615-r.c:=zai (by omega) (by omega);have hpa:SE.den (rho r [] [] []) (.bin .and .i64 (szv 0) (.bin .sub .i64 (szv 0) (.lit 1)))=0:=by
    show zct .and .i64 (SE.den _ (szv 0)) (IntKind.wrap .i64 (SE.den _ (szv 0)-1))=0;rw [en];exact zvk hpow
  have ht:Dw.Told (rho r [] [] []) zme:=by
    unfold zme;simp only [zah,zau,zt9,znP,zhu,zcO,den_add,den_mul,zat,l1,l2,l3,en,ed,ev,ec,hpa,w1,w2,w3,w4,w5,w6,w7,w8,x1,x2,x3];refine ⟨?_,?_,?_,by decide,?_,?_,?_,trivial⟩
    · show ((r.d%2^4) !=0)=false;have:r.d%2^4=0:=d16;rw [this];rfl
    · show ((r.v%2^1) !=0)=false;have:r.v%2^1=0:=v2;rw [this];rfl
    · show ((r.c%2^2) !=0)=false;have:r.c%2^2=0:=c4;rw [this];rfl
    all_goals (simp;omega)
  refine Calls.mono (zaT (K:=fun _=>False) (g:=Gho.none) (bl:= []) (vals:= [r.val]) mixed zv3 zw8 (fun _ h=>h.elim) trivial trivial zaJ trivial (zao (R_rg hr) RL.nil) ht) fun e w' hh=> ?_;obtain ⟨p,hp,hto,l,hl,j,he⟩:=hh;have hbel:=zar he (fun _ h=>h);unfold zud at hp;simp only [List.mem_cons,List.not_mem_nil,or_false] at hp;have hleaf:p.2=1:=by
    rcases hp with rfl|rfl|rfl|rfl|rfl|rfl|rfl|rfl|rfl|rfl|rfl|rfl|rfl|rfl|rfl|rfl|rfl|rfl|rfl|rfl|rfl|rfl
    all_goals first
      | rfl
      | (exfalso;simp only [zah,zau,zua,zdB,zhu,zf0,zcO,den_add,den_mul,zat,en,ed,ev,ec,w1,w2,w3,w4,w5,zdF,decide_eq_true_eq,decide_eq_false_iff_not] at hto;omega)
  rw [hleaf] at hl;cases hl;exact ⟨he.ret,hbel⟩
end Go.Proofs
namespace Go.Proofs
open Go.Dw
def Tryz.zmM:List Ent:= [⟨91,[rg],0,0,0,.int .i64 (.lit 0),0⟩]
def Tryz.zpq:List Sh:= []
def Tryz.zmN:List AV:= [rg,.int .i64 (.lit 1),.int .i64 (ixv 4)]
def Tryz.zuH:List (SB×Bool):= [(.cmp .geq (ixv 4) (szv 0),false)]
def Tryz.ztS:List Leaf:= [
 ⟨.tup [.int .u64 (.bin .add .u64 (u64v 1) (.bin .mul .u64 (.lit 16) (ixv 4))),.int .i64 (.lit 16),.int .i64 (.lit 0)],[],[],0,[]⟩]
def Tryz.zwy:List (List (SB×Bool)×Nat):= [
 ([], 0)]
theorem Tryz.zuG:(ev prog (zaY zmM) 100000 (.call 136 zmN (zaV 0 zpq) (zbh ztS 0))).ways zuH=some zwy:=by kernel_rfl
theorem Tryz.zwz:(zaB zpq&&zap zmM&&AV.smallL zmN&&zan ztS)=true:=by kernel_rfl
def Tryz.zmK:List Ent:= [⟨91,[rg],0,0,0,.int .i64 (.lit 0),0⟩]
def Tryz.zpp:List Sh:= []
def Tryz.zmL:List AV:= [rg,.int .i64 (.lit 2),.int .i64 (.lit 0)]
def Tryz.zuE:List (SB×Bool):= []
def Tryz.ztR:List Leaf:= [
 ⟨.tup [.int .u64 (u64v 2),.int .i64 (.lit 2),.int .i64 (.lit 0)],[],[],0,[]⟩]
def Tryz.zww:List (List (SB×Bool)×Nat):= [
 ([], 0)]
theorem Tryz.zuD:(ev prog (zaY zmK) 100000 (.call 136 zmL (zaV 0 zpp) (zbh ztR 0))).ways zuE=some zww:=by kernel_rfl
theorem Tryz.zwx:(zaB zpp&&zap zmK&&AV.smallL zmL&&zan ztR)=true:=by kernel_rfl
def Tryz.zmI:List Ent:= [⟨91,[rg],0,0,0,.int .i64 (.lit 0),0⟩]
def Tryz.zpn:List Sh:= []
def Tryz.zmJ:List AV:= [rg,.int .i64 (.lit 3),.int .i64 (.lit 0)]
def Tryz.zuC:List (SB×Bool):= []
def Tryz.ztQ:List Leaf:= [
 ⟨.tup [.int .u64 (.bin .add .u64 (u64v 2) (.lit 2)),.int .i64 (.lit 2),.int .i64 (.lit 0)],[],[],0,[]⟩]
def Tryz.zwu:List (List (SB×Bool)×Nat):= [
 ([], 0)]
theorem Tryz.zuB:(ev prog (zaY zmI) 100000 (.call 136 zmJ (zaV 0 zpn) (zbh ztQ 0))).ways zuC=some zwu:=by kernel_rfl
theorem Tryz.zwv:(zaB zpn&&zap zmI&&AV.smallL zmJ&&zan ztQ)=true:=by kernel_rfl
def Tryz.zmG:List Ent:= [⟨91,[rg],0,0,0,.int .i64 (.lit 0),0⟩]
def Tryz.zpm:List Sh:= []
def Tryz.zmH:List AV:= [rg,.int .i64 (.lit 4),.int .i64 (ixv 4)]
def Tryz.zuz:List (SB×Bool):= [(.cmp .geq (ixv 4) (szv 0),false)]
def Tryz.ztP:List Leaf:= [
 ⟨.tup [.int .u64 (.bin .add .u64 (.bin .add .u64 (u64v 2) (.lit 4)) (.bin .mul .u64 (.lit 2) (ixv 4))),.int .i64 (.lit 2),.int .i64 (.lit 0)],[],[],0,[]⟩]
def Tryz.zws:List (List (SB×Bool)×Nat):= [
 ([], 0)]
theorem Tryz.zuy:(ev prog (zaY zmG) 100000 (.call 136 zmH (zaV 0 zpm) (zbh ztP 0))).ways zuz=some zws:=by kernel_rfl
theorem Tryz.zwt:(zaB zpm&&zap zmG&&AV.smallL zmH&&zan ztP)=true:=by kernel_rfl
def Tryz.zmE:List Ent:= [⟨91,[rg],0,0,0,.int .i64 (.lit 0),0⟩]
def Tryz.zpk:List Sh:= []
def Tryz.zmF:List AV:= [rg,.int .i64 (.lit 5),.int .i64 (.lit 0)]
def Tryz.zux:List (SB×Bool):= []
def Tryz.ztO:List Leaf:= [
 ⟨.tup [.int .u64 (.bin .add .u64 (.bin .add .u64 (u64v 2) (.lit 4)) (.bin .mul .u64 (.lit 2) (szv 0))),.int .i64 (.lit 2),.int .i64 (.lit 0)],[],[],0,[]⟩]
def Tryz.zwq:List (List (SB×Bool)×Nat):= [
 ([], 0)]
theorem Tryz.zuw:(ev prog (zaY zmE) 100000 (.call 136 zmF (zaV 0 zpk) (zbh ztO 0))).ways zux=some zwq:=by kernel_rfl
theorem Tryz.zwr:(zaB zpk&&zap zmE&&AV.smallL zmF&&zan ztO)=true:=by kernel_rfl
def Tryz.zmC:List Ent:= [⟨91,[rg],0,0,0,.int .i64 (.lit 0),0⟩]
def Tryz.zpj:List Sh:= []
def Tryz.zmD:List AV:= [rg,.int .i64 (.lit 6),.int .i64 (.lit 0)]
def Tryz.zuu:List (SB×Bool):= []
def Tryz.ztN:List Leaf:= [
 ⟨.tup [.int .u64 (u64v 3),.int .i64 (.lit 2),.int .i64 (.lit 0)],[],[],0,[]⟩]
def Tryz.zwo:List (List (SB×Bool)×Nat):= [
 ([], 0)]
theorem Tryz.zut:(ev prog (zaY zmC) 100000 (.call 136 zmD (zaV 0 zpj) (zbh ztN 0))).ways zuu=some zwo:=by kernel_rfl
theorem Tryz.zwp:(zaB zpj&&zap zmC&&AV.smallL zmD&&zan ztN)=true:=by kernel_rfl
def Tryz.zmA:List Ent:= [⟨91,[rg],0,0,0,.int .i64 (.lit 0),0⟩]
def Tryz.zpi:List Sh:= []
def Tryz.zmB:List AV:= [rg,.int .i64 (.lit 7),.int .i64 (.lit 0)]
def Tryz.zur:List (SB×Bool):= []
def Tryz.ztM:List Leaf:= [
 ⟨.tup [.int .u64 (.bin .add .u64 (u64v 3) (.lit 2)),.int .i64 (.lit 2),.int .i64 (.lit 0)],[],[],0,[]⟩]
def Tryz.zwm:List (List (SB×Bool)×Nat):= [
 ([], 0)]
theorem Tryz.zuq:(ev prog (zaY zmA) 100000 (.call 136 zmB (zaV 0 zpi) (zbh ztM 0))).ways zur=some zwm:=by kernel_rfl
theorem Tryz.zwn:(zaB zpi&&zap zmA&&AV.smallL zmB&&zan ztM)=true:=by kernel_rfl
def Tryz.zmy:List Ent:= [⟨91,[rg],0,0,0,.int .i64 (.lit 0),0⟩]
def Tryz.zpg:List Sh:= []
def Tryz.zmz:List AV:= [rg,.int .i64 (.lit 8),.int .i64 (ixv 4)]
def Tryz.zup:List (SB×Bool):= [(.cmp .geq (ixv 4) (szv 0),false)]
def Tryz.ztL:List Leaf:= [
 ⟨.tup [.int .u64 (.bin .add .u64 (.bin .add .u64 (u64v 3) (.lit 4)) (.bin .mul .u64 (.lit 8) (ixv 4))),.int .i64 (.lit 8),.int .i64 (.lit 0)],[],[],0,[]⟩]
def Tryz.zwk:List (List (SB×Bool)×Nat):= [
 ([], 0)]
theorem Tryz.zuo:(ev prog (zaY zmy) 100000 (.call 136 zmz (zaV 0 zpg) (zbh ztL 0))).ways zup=some zwk:=by kernel_rfl
theorem Tryz.zwl:(zaB zpg&&zap zmy&&AV.smallL zmz&&zan ztL)=true:=by kernel_rfl
def Tryz.zmw:List Ent:= [⟨91,[rg],0,0,0,.int .i64 (.lit 0),0⟩]
def Tryz.zpf:List Sh:= []
def Tryz.zmx:List AV:= [rg,.int .i64 (.lit 9),.int .i64 (.lit 0)]
def Tryz.zum:List (SB×Bool):= []
def Tryz.ztK:List Leaf:= [
 ⟨.tup [.int .u64 (.bin .add .u64 (.bin .add .u64 (u64v 3) (.lit 4)) (.bin .mul .u64 (.lit 8) (szv 0))),.int .i64 (.lit 2),.int .i64 (.lit 0)],[],[],0,[]⟩]
def Tryz.zwi:List (List (SB×Bool)×Nat):= [
 ([], 0)]
theorem Tryz.zul:(ev prog (zaY zmw) 100000 (.call 136 zmx (zaV 0 zpf) (zbh ztK 0))).ways zum=some zwi:=by kernel_rfl
theorem Tryz.zwj:(zaB zpf&&zap zmw&&AV.smallL zmx&&zan ztK)=true:=by kernel_rfl
def Tryz.zjX:List Ent:= []
def Tryz.zm5:List Sh:= []
def Tryz.zjY:List AV:= [.int .i64 (szv 0)]
def Tryz.zsF:List (SB×Bool):= []
def Tryz.zp6:List Leaf:= [
 ⟨.bool (.lit true),[],[],0,[]⟩,
 ⟨.bool (.lit false),[],[],0,[]⟩]
def Tryz.zp5:List (List (SB×Bool)×Nat):= [
 ([((.cmp .eql (.lit 1) (szv 0)),true)],0),
 ([((.cmp .eql (.lit 1) (szv 0)),false),((.cmp .eql (.lit 2) (szv 0)),true)],0),
 ([((.cmp .eql (.lit 1) (szv 0)),false),((.cmp .eql (.lit 2) (szv 0)),false),((.cmp .eql (.lit 4) (szv 0)),true)],0),
 ([((.cmp .eql (.lit 1) (szv 0)),false),((.cmp .eql (.lit 2) (szv 0)),false),((.cmp .eql (.lit 4) (szv 0)),false),((.cmp .eql (.lit 8) (szv 0)),true)],0),
 ([((.cmp .eql (.lit 1) (szv 0)),false),((.cmp .eql (.lit 2) (szv 0)),false),((.cmp .eql (.lit 4) (szv 0)),false),((.cmp .eql (.lit 8) (szv 0)),false),((.cmp .eql (.lit 16) (szv 0)),true)],0),
 ([((.cmp .eql (.lit 1) (szv 0)),false),((.cmp .eql (.lit 2) (szv 0)),false),((.cmp .eql (.lit 4) (szv 0)),false),((.cmp .eql (.lit 8) (szv 0)),false),((.cmp .eql (.lit 16) (szv 0)),false),((.cmp .eql (.lit 32) (szv 0)),true)],0),
 ([((.cmp .eql (.lit 1) (szv 0)),false),((.cmp .eql (.lit 2) (szv 0)),false),((.cmp .eql (.lit 4) (szv 0)),false),((.cmp .eql (.lit 8) (szv 0)),false),((.cmp .eql (.lit 16) (szv 0)),false),((.cmp .eql (.lit 32) (szv 0)),false),((.cmp .eql (.lit 64) (szv 0)),true)],0),
 ([((.cmp .eql (.lit 1) (szv 0)),false),((.cmp .eql (.lit 2) (szv 0)),false),((.cmp .eql (.lit 4) (szv 0)),false),((.cmp .eql (.lit 8) (szv 0)),false),((.cmp .eql (.lit 16) (szv 0)),false),((.cmp .eql (.lit 32) (szv 0)),false),((.cmp .eql (.lit 64) (szv 0)),false),((.cmp .eql (.lit 128) (szv 0)),true)],0),
 ([((.cmp .eql (.lit 1) (szv 0)),false),((.cmp .eql (.lit 2) (szv 0)),false),((.cmp .eql (.lit 4) (szv 0)),false),((.cmp .eql (.lit 8) (szv 0)),false),((.cmp .eql (.lit 16) (szv 0)),false),((.cmp .eql (.lit 32) (szv 0)),false),((.cmp .eql (.lit 64) (szv 0)),false),((.cmp .eql (.lit 128) (szv 0)),false),((.cmp .eql (.lit 256) (szv 0)),true)],0),
 ([((.cmp .eql (.lit 1) (szv 0)),false),((.cmp .eql (.lit 2) (szv 0)),false),((.cmp .eql (.lit 4) (szv 0)),false),((.cmp .eql (.lit 8) (szv 0)),false),((.cmp .eql (.lit 16) (szv 0)),false),((.cmp .eql (.lit 32) (szv 0)),false),((.cmp .eql (.lit 64) (szv 0)),false),((.cmp .eql (.lit 128) (szv 0)),false),((.cmp .eql (.lit 256) (szv 0)),false),((.cmp .eql (.lit 512) (szv 0)),true)],0),
 ([((.cmp .eql (.lit 1) (szv 0)),false),((.cmp .eql (.lit 2) (szv 0)),false),((.cmp .eql (.lit 4) (szv 0)),false),((.cmp .eql (.lit 8) (szv 0)),false),((.cmp .eql (.lit 16) (szv 0)),false),((.cmp .eql (.lit 32) (szv 0)),false),((.cmp .eql (.lit 64) (szv 0)),false),((.cmp .eql (.lit 128) (szv 0)),false),((.cmp .eql (.lit 256) (szv 0)),false),((.cmp .eql (.lit 512) (szv 0)),false),((.cmp .eql (.lit 1024) (szv 0)),true)],0),
 ([((.cmp .eql (.lit 1) (szv 0)),false),((.cmp .eql (.lit 2) (szv 0)),false),((.cmp .eql (.lit 4) (szv 0)),false),((.cmp .eql (.lit 8) (szv 0)),false),((.cmp .eql (.lit 16) (szv 0)),false),((.cmp .eql (.lit 32) (szv 0)),false),((.cmp .eql (.lit 64) (szv 0)),false),((.cmp .eql (.lit 128) (szv 0)),false),((.cmp .eql (.lit 256) (szv 0)),false),((.cmp .eql (.lit 512) (szv 0)),false),((.cmp .eql (.lit 1024) (szv 0)),false),((.cmp .eql (.lit 2048) (szv 0)),true)],0),
 ([((.cmp .eql (.lit 1) (szv 0)),false),((.cmp .eql (.lit 2) (szv 0)),false),((.cmp .eql (.lit 4) (szv 0)),false),((.cmp .eql (.lit 8) (szv 0)),false),((.cmp .eql (.lit 16) (szv 0)),false),((.cmp .eql (.lit 32) (szv 0)),false),((.cmp .eql (.lit 64) (szv 0)),false),((.cmp .eql (.lit 128) (szv 0)),false),((.cmp .eql (.lit 256) (szv 0)),false),((.cmp .eql (.lit 512) (szv 0)),false),((.cmp .eql (.lit 1024) (szv 0)),false),((.cmp .eql (.lit 2048) (szv 0)),false),((.cmp .eql (.lit 4096) (szv 0)),true)],0),
 ([((.cmp .eql (.lit 1) (szv 0)),false),((.cmp .eql (.lit 2) (szv 0)),false),((.cmp .eql (.lit 4) (szv 0)),false),((.cmp .eql (.lit 8) (szv 0)),false),((.cmp .eql (.lit 16) (szv 0)),false),((.cmp .eql (.lit 32) (szv 0)),false),((.cmp .eql (.lit 64) (szv 0)),false),((.cmp .eql (.lit 128) (szv 0)),false),((.cmp .eql (.lit 256) (szv 0)),false),((.cmp .eql (.lit 512) (szv 0)),false),((.cmp .eql (.lit 1024) (szv 0)),false),((.cmp .eql (.lit 2048) (szv 0)),false),((.cmp .eql (.lit 4096) (szv 0)),false),((.cmp .eql (.lit 8192) (szv 0)),true)],0),
 ([((.cmp .eql (.lit 1) (szv 0)),false),((.cmp .eql (.lit 2) (szv 0)),false),((.cmp .eql (.lit 4) (szv 0)),false),((.cmp .eql (.lit 8) (szv 0)),false),((.cmp .eql (.lit 16) (szv 0)),false),((.cmp .eql (.lit 32) (szv 0)),false),((.cmp .eql (.lit 64) (szv 0)),false),((.cmp .eql (.lit 128) (szv 0)),false),((.cmp .eql (.lit 256) (szv 0)),false),((.cmp .eql (.lit 512) (szv 0)),false),((.cmp .eql (.lit 1024) (szv 0)),false),((.cmp .eql (.lit 2048) (szv 0)),false),((.cmp .eql (.lit 4096) (szv 0)),false),((.cmp .eql (.lit 8192) (szv 0)),false),((.cmp .eql (.lit 16384) (szv 0)),true)],0),
 ([((.cmp .eql (.lit 1) (szv 0)),false),((.cmp .eql (.lit 2) (szv 0)),false),((.cmp .eql (.lit 4) (szv 0)),false),((.cmp .eql (.lit 8) (szv 0)),false),((.cmp .eql (.lit 16) (szv 0)),false),((.cmp .eql (.lit 32) (szv 0)),false),((.cmp .eql (.lit 64) (szv 0)),false),((.cmp .eql (.lit 128) (szv 0)),false),((.cmp .eql (.lit 256) (szv 0)),false),((.cmp .eql (.lit 512) (szv 0)),false),((.cmp .eql (.lit 1024) (szv 0)),false),((.cmp .eql (.lit 2048) (szv 0)),false),((.cmp .eql (.lit 4096) (szv 0)),false),((.cmp .eql (.lit 8192) (szv 0)),false),((.cmp .eql (.lit 16384) (szv 0)),false),((.cmp .eql (.lit 32768) (szv 0)),true)],0),
 ([((.cmp .eql (.lit 1) (szv 0)),false),((.cmp .eql (.lit 2) (szv 0)),false),((.cmp .eql (.lit 4) (szv 0)),false),((.cmp .eql (.lit 8) (szv 0)),false),((.cmp .eql (.lit 16) (szv 0)),false),((.cmp .eql (.lit 32) (szv 0)),false),((.cmp .eql (.lit 64) (szv 0)),false),((.cmp .eql (.lit 128) (szv 0)),false),((.cmp .eql (.lit 256) (szv 0)),false),((.cmp .eql (.lit 512) (szv 0)),false),((.cmp .eql (.lit 1024) (szv 0)),false),((.cmp .eql (.lit 2048) (szv 0)),false),((.cmp .eql (.lit 4096) (szv 0)),false),((.cmp .eql (.lit 8192) (szv 0)),false),((.cmp .eql (.lit 16384) (szv 0)),false),((.cmp .eql (.lit 32768) (szv 0)),false)],1)]
theorem Tryz.zsE:(ev prog (zaY zjX) 100000 (.call 113 zjY (zaV 0 zm5) (zbh zp6 0))).ways zsF=some zp5:=by kernel_rfl
theorem Tryz.zu9:(zaB zm5&&zap zjX&&AV.smallL zjY&&zan zp6)=true:=by kernel_rfl
def Tryz.zka:List Ent:= [⟨113,[.int .i64 (szv 0)],0,0,0,.bool (.lit true),0⟩]
def Tryz.zng:List Sh:= []
def Tryz.zkb:List AV:= [rg]
def Tryz.ziW:List (SB×Bool):= [(.cmp .neq (.flds [⟨1,0,18446744073709551615,0,4,0⟩] 0) (.lit 0),false),(.cmp .neq (.flds [⟨2,0,18446744073709551615,0,1,0⟩] 0) (.lit 0),false),(.cmp .neq (.flds [⟨3,0,18446744073709551615,0,2,0⟩] 0) (.lit 0),false),(.cmp .lss (.bin .add .u64 (u64v 1) (.bin .sub .u64 (.bin .mul .u64 (.lit 16) (szv 0)) (.lit 1))) (u64v 1),false),(.cmp .lss (.bin .add .u64 (u64v 2) (.bin .sub .u64 (.bin .add .u64 (.lit 6) (.bin .mul .u64 (.lit 2) (szv 0))) (.lit 1))) (u64v 2),false),(.cmp .lss (.bin .add .u64 (u64v 3) (.bin .sub .u64 (.bin .add .u64 (.lit 6) (.bin .mul .u64 (.lit 8) (szv 0))) (.lit 1))) (u64v 3),false)]
def Tryz.zqo:List Leaf:= [
 ⟨.int .i64 (.lit 2),[],[],0,[]⟩,
 ⟨.int .i64 (.lit 0),[],[],0,[]⟩]
def Tryz.zqn:List (List (SB×Bool)×Nat):= [
 ([((.cmp .leq (u64v 2) (u64v 1)),true),((.cmp .lss (.bin .sub .u64 (u64v 1) (u64v 2)) (.bin .add .u64 (.lit 6) (.bin .mul .u64 (.lit 2) (szv 0)))),true)],0),
 ([((.cmp .leq (u64v 2) (u64v 1)),true),((.cmp .lss (.bin .sub .u64 (u64v 1) (u64v 2)) (.bin .add .u64 (.lit 6) (.bin .mul .u64 (.lit 2) (szv 0)))),false),((.cmp .leq (u64v 3) (u64v 1)),true),((.cmp .lss (.bin .sub .u64 (u64v 1) (u64v 3)) (.bin .add .u64 (.lit 6) (.bin .mul .u64 (.lit 8) (szv 0)))),true)],0),
 ([((.cmp .leq (u64v 2) (u64v 1)),true),((.cmp .lss (.bin .sub .u64 (u64v 1) (u64v 2)) (.bin .add .u64 (.lit 6) (.bin .mul .u64 (.lit 2) (szv 0)))),false),((.cmp .leq (u64v 3) (u64v 1)),true),((.cmp .lss (.bin .sub .u64 (u64v 1) (u64v 3)) (.bin .add .u64 (.lit 6) (.bin .mul .u64 (.lit 8) (szv 0)))),false),((.cmp .leq (u64v 3) (u64v 2)),true),((.cmp .lss (.bin .sub .u64 (u64v 2) (u64v 3)) (.bin .add .u64 (.lit 6) (.bin .mul .u64 (.lit 8) (szv 0)))),true)],0),
 ([((.cmp .leq (u64v 2) (u64v 1)),true),((.cmp .lss (.bin .sub .u64 (u64v 1) (u64v 2)) (.bin .add .u64 (.lit 6) (.bin .mul .u64 (.lit 2) (szv 0)))),false),((.cmp .leq (u64v 3) (u64v 1)),true),((.cmp .lss (.bin .sub .u64 (u64v 1) (u64v 3)) (.bin .add .u64 (.lit 6) (.bin .mul .u64 (.lit 8) (szv 0)))),false),((.cmp .leq (u64v 3) (u64v 2)),true),((.cmp .lss (.bin .sub .u64 (u64v 2) (u64v 3)) (.bin .add .u64 (.lit 6) (.bin .mul .u64 (.lit 8) (szv 0)))),false)],1),
 ([((.cmp .leq (u64v 2) (u64v 1)),true),((.cmp .lss (.bin .sub .u64 (u64v 1) (u64v 2)) (.bin .add .u64 (.lit 6) (.bin .mul .u64 (.lit 2) (szv 0)))),false),((.cmp .leq (u64v 3) (u64v 1)),true),((.cmp .lss (.bin .sub .u64 (u64v 1) (u64v 3)) (.bin .add .u64 (.lit 6) (.bin .mul .u64 (.lit 8) (szv 0)))),false),((.cmp .leq (u64v 3) (u64v 2)),false),((.cmp .lss (.bin .sub .u64 (u64v 3) (u64v 2)) (.bin .add .u64 (.lit 6) (.bin .mul .u64 (.lit 2) (szv 0)))),true)],0),
 ([((.cmp .leq (u64v 2) (u64v 1)),true),((.cmp .lss (.bin .sub .u64 (u64v 1) (u64v 2)) (.bin .add .u64 (.lit 6) (.bin .mul .u64 (.lit 2) (szv 0)))),false),((.cmp .leq (u64v 3) (u64v 1)),true),((.cmp .lss (.bin .sub .u64 (u64v 1) (u64v 3)) (.bin .add .u64 (.lit 6) (.bin .mul .u64 (.lit 8) (szv 0)))),false),((.cmp .leq (u64v 3) (u64v 2)),false),((.cmp .lss (.bin .sub .u64 (u64v 3) (u64v 2)) (.bin .add .u64 (.lit 6) (.bin .mul .u64 (.lit 2) (szv 0)))),false)],1),
 ([((.cmp .leq (u64v 2) (u64v 1)),true),((.cmp .lss (.bin .sub .u64 (u64v 1) (u64v 2)) (.bin .add .u64 (.lit 6) (.bin .mul .u64 (.lit 2) (szv 0)))),false),((.cmp .leq (u64v 3) (u64v 1)),false),((.cmp .lss (.bin .sub .u64 (u64v 3) (u64v 1)) (.bin .mul .u64 (.lit 16) (szv 0))),true)],0),
 ([((.cmp .leq (u64v 2) (u64v 1)),true),((.cmp .lss (.bin .sub .u64 (u64v 1) (u64v 2)) (.bin .add .u64 (.lit 6) (.bin .mul .u64 (.lit 2) (szv 0)))),false),((.cmp .leq (u64v 3) (u64v 1)),false),((.cmp .lss (.bin .sub .u64 (u64v 3) (u64v 1)) (.bin .mul .u64 (.lit 16) (szv 0))),false),((.cmp .leq (u64v 3) (u64v 2)),true),((.cmp .lss (.bin .sub .u64 (u64v 2) (u64v 3)) (.bin .add .u64 (.lit 6) (.bin .mul .u64 (.lit 8) (szv 0)))),true)],0),
 ([((.cmp .leq (u64v 2) (u64v 1)),true),((.cmp .lss (.bin .sub .u64 (u64v 1) (u64v 2)) (.bin .add .u64 (.lit 6) (.bin .mul .u64 (.lit 2) (szv 0)))),false),((.cmp .leq (u64v 3) (u64v 1)),false),((.cmp .lss (.bin .sub .u64 (u64v 3) (u64v 1)) (.bin .mul .u64 (.lit 16) (szv 0))),false),((.cmp .leq (u64v 3) (u64v 2)),true),((.cmp .lss (.bin .sub .u64 (u64v 2) (u64v 3)) (.bin .add .u64 (.lit 6) (.bin .mul .u64 (.lit 8) (szv 0)))),false)],1),
 ([((.cmp .leq (u64v 2) (u64v 1)),true),((.cmp .lss (.bin .sub .u64 (u64v 1) (u64v 2)) (.bin .add .u64 (.lit 6) (.bin .mul .u64 (.lit 2) (szv 0)))),false),((.cmp .leq (u64v 3) (u64v 1)),false),((.cmp .lss (.bin .sub .u64 (u64v 3) (u64v 1)) (.bin .mul .u64 (.lit 16) (szv 0))),false),((.cmp .leq (u64v 3) (u64v 2)),false),((.cmp .lss (.bin .sub .u64 (u64v 3) (u64v 2)) (.bin .add .u64 (.lit 6) (.bin .mul .u64 (.lit 2) (szv 0)))),true)],0),
 ([((.cmp .leq (u64v 2) (u64v 1)),true),((.cmp .lss (.bin .sub .u64 (u64v 1) (u64v 2)) (.bin .add .u64 (.lit 6) (.bin .mul .u64 (.lit 2) (szv 0)))),false),((.cmp .leq (u64v 3) (u64v 1)),false),((.cmp .lss (.bin .sub .u64 (u64v 3) (u64v 1)) (.bin .mul .u64 (.lit 16) (szv 0))),false),((.cmp .leq (u64v 3) (u64v 2)),false),((.cmp .lss (.bin .sub .u64 (u64v 3) (u64v 2)) (.bin .add .u64 (.lit 6) (.bin .mul .u64 (.lit 2) (szv 0)))),false)],1),
 ([((.cmp .leq (u64v 2) (u64v 1)),false),((.cmp .lss (.bin .sub .u64 (u64v 2) (u64v 1)) (.bin .mul .u64 (.lit 16) (szv 0))),true)],0),
 ([((.cmp .leq (u64v 2) (u64v 1)),false),((.cmp .lss (.bin .sub .u64 (u64v 2) (u64v 1)) (.bin .mul .u64 (.lit 16) (szv 0))),false),((.cmp .leq (u64v 3) (u64v 1)),true),((.cmp .lss (.bin .sub .u64 (u64v 1) (u64v 3)) (.bin .add .u64 (.lit 6) (.bin .mul .u64 (.lit 8) (szv 0)))),true)],0),
 ([((.cmp .leq (u64v 2) (u64v 1)),false),((.cmp .lss (.bin .sub .u64 (u64v 2) (u64v 1)) (.bin .mul .u64 (.lit 16) (szv 0))),false),((.cmp .leq (u64v 3) (u64v 1)),true),((.cmp .lss (.bin .sub .u64 (u64v 1) (u64v 3)) (.bin .add .u64 (.lit 6) (.bin .mul .u64 (.lit 8) (szv 0)))),false),((.cmp .leq (u64v 3) (u64v 2)),true),((.cmp .lss (.bin .sub .u64 (u64v 2) (u64v 3)) (.bin .add .u64 (.lit 6) (.bin .mul .u64 (.lit 8) (szv 0)))),true)],0),
 ([((.cmp .leq (u64v 2) (u64v 1)),false),((.cmp .lss (.bin .sub .u64 (u64v 2) (u64v 1)) (.bin .mul .u64 (.lit 16) (szv 0))),false),((.cmp .leq (u64v 3) (u64v 1)),true),((.cmp .lss (.bin .sub .u64 (u64v 1) (u64v 3)) (.bin .add .u64 (.lit 6) (.bin .mul .u64 (.lit 8) (szv 0)))),false),((.cmp .leq (u64v 3) (u64v 2)),true),((.cmp .lss (.bin .sub .u64 (u64v 2) (u64v 3)) (.bin .add .u64 (.lit 6) (.bin .mul .u64 (.lit 8) (szv 0)))),false)],1),
 ([((.cmp .leq (u64v 2) (u64v 1)),false),((.cmp .lss (.bin .sub .u64 (u64v 2) (u64v 1)) (.bin .mul .u64 (.lit 16) (szv 0))),false),((.cmp .leq (u64v 3) (u64v 1)),true),((.cmp .lss (.bin .sub .u64 (u64v 1) (u64v 3)) (.bin .add .u64 (.lit 6) (.bin .mul .u64 (.lit 8) (szv 0)))),false),((.cmp .leq (u64v 3) (u64v 2)),false),((.cmp .lss (.bin .sub .u64 (u64v 3) (u64v 2)) (.bin .add .u64 (.lit 6) (.bin .mul .u64 (.lit 2) (szv 0)))),true)],0),
 ([((.cmp .leq (u64v 2) (u64v 1)),false),((.cmp .lss (.bin .sub .u64 (u64v 2) (u64v 1)) (.bin .mul .u64 (.lit 16) (szv 0))),false),((.cmp .leq (u64v 3) (u64v 1)),true),((.cmp .lss (.bin .sub .u64 (u64v 1) (u64v 3)) (.bin .add .u64 (.lit 6) (.bin .mul .u64 (.lit 8) (szv 0)))),false),((.cmp .leq (u64v 3) (u64v 2)),false),((.cmp .lss (.bin .sub .u64 (u64v 3) (u64v 2)) (.bin .add .u64 (.lit 6) (.bin .mul .u64 (.lit 2) (szv 0)))),false)],1),
 ([((.cmp .leq (u64v 2) (u64v 1)),false),((.cmp .lss (.bin .sub .u64 (u64v 2) (u64v 1)) (.bin .mul .u64 (.lit 16) (szv 0))),false),((.cmp .leq (u64v 3) (u64v 1)),false),((.cmp .lss (.bin .sub .u64 (u64v 3) (u64v 1)) (.bin .mul .u64 (.lit 16) (szv 0))),true)],0),
 ([((.cmp .leq (u64v 2) (u64v 1)),false),((.cmp .lss (.bin .sub .u64 (u64v 2) (u64v 1)) (.bin .mul .u64 (.lit 16) (szv 0))),false),((.cmp .leq (u64v 3) (u64v 1)),false),((.cmp .lss (.bin .sub .u64 (u64v 3) (u64v 1)) (.bin .mul .u64 (.lit 16) (szv 0))),false),((.cmp .leq (u64v 3) (u64v 2)),true),((.cmp .lss (.bin .sub .u64 (u64v 2) (u64v 3)) (.bin .add .u64 (.lit 6) (.bin .mul .u64 (.lit 8) (szv 0)))),true)],0),
 ([((.cmp .leq (u64v 2) (u64v 1)),false),((.cmp .lss (.bin .sub .u64 (u64v 2) (u64v 1)) (.bin .mul .u64 (.lit 16) (szv 0))),false),((.cmp .leq (u64v 3) (u64v 1)),false),((.cmp .lss (.bin .sub .u64 (u64v 3) (u64v 1)) (.bin .mul .u64 (.lit 16) (szv 0))),false),((.cmp .leq (u64v 3) (u64v 2)),true),((.cmp .lss (.bin .sub .u64 (u64v 2) (u64v 3)) (.bin .add .u64 (.lit 6) (.bin .mul .u64 (.lit 8) (szv 0)))),false)],1),
 ([((.cmp .leq (u64v 2) (u64v 1)),false),((.cmp .lss (.bin .sub .u64 (u64v 2) (u64v 1)) (.bin .mul .u64 (.lit 16) (szv 0))),false),((.cmp .leq (u64v 3) (u64v 1)),false),((.cmp .lss (.bin .sub .u64 (u64v 3) (u64v 1)) (.bin .mul .u64 (.lit 16) (szv 0))),false),((.cmp .leq (u64v 3) (u64v 2)),false),((.cmp .lss (.bin .sub .u64 (u64v 3) (u64v 2)) (.bin .add .u64 (.lit 6) (.bin .mul .u64 (.lit 2) (szv 0)))),true)],0),
 ([((.cmp .leq (u64v 2) (u64v 1)),false),((.cmp .lss (.bin .sub .u64 (u64v 2) (u64v 1)) (.bin .mul .u64 (.lit 16) (szv 0))),false),((.cmp .leq (u64v 3) (u64v 1)),false),((.cmp .lss (.bin .sub .u64 (u64v 3) (u64v 1)) (.bin .mul .u64 (.lit 16) (szv 0))),false),((.cmp .leq (u64v 3) (u64v 2)),false),((.cmp .lss (.bin .sub .u64 (u64v 3) (u64v 2)) (.bin .add .u64 (.lit 6) (.bin .mul .u64 (.lit 2) (szv 0)))),false)],1)]
theorem Tryz.zsV:(ev prog (zaY zka) 100000 (.call 45 zkb (zaV 0 zng) (zbh zqo 0))).ways ziW=some zqn:=by kernel_rfl
theorem Tryz.zvj:(zaB zng&&zap zka&&AV.smallL zkb&&zan zqo)=true:=by kernel_rfl
def Tryz.zjU:List Ent:= [⟨45,[rg],0,0,0,.int .i64 (.lit 0),0⟩]
def Tryz.zm2:List Sh:= []
def Tryz.zjV:List AV:= [rg,.int .i64 (.lit 3),.int .i64 (.lit 0)]
def Tryz.zsB:List (SB×Bool):= []
def Tryz.zp1:List Leaf:= [
 ⟨.tup [.int .u64 (.bin .add .u64 (u64v 2) (.lit 2)),.int .i64 (.lit 2),.int .i64 (.lit 0)],[],[],0,[]⟩]
def Tryz.zu5:List (List (SB×Bool)×Nat):= [
 ([], 0)]
theorem Tryz.zsA:(ev prog (zaY zjU) 100000 (.call 21 zjV (zaV 0 zm2) (zbh zp1 0))).ways zsB=some zu5:=by kernel_rfl
theorem Tryz.zu6:(zaB zm2&&zap zjU&&AV.smallL zjV&&zan zp1)=true:=by kernel_rfl
def Tryz.zjS:List Ent:= [⟨45,[rg],0,0,0,.int .i64 (.lit 0),0⟩]
def Tryz.zm1:List Sh:= []
def Tryz.zjT:List AV:= [rg,.int .i64 (.lit 4),.int .i64 (ixv 4)]
def Tryz.zsy:List (SB×Bool):= [(.cmp .geq (ixv 4) (szv 0),false)]
def Tryz.zp0:List Leaf:= [
 ⟨.tup [.int .u64 (.bin .add .u64 (.bin .add .u64 (u64v 2) (.lit 4)) (.bin .mul .u64 (.lit 2) (ixv 4))),.int .i64 (.lit 2),.int .i64 (.lit 0)],[],[],0,[]⟩]
def Tryz.zu3:List (List (SB×Bool)×Nat):= [
 ([], 0)]
theorem Tryz.zsx:(ev prog (zaY zjS) 100000 (.call 21 zjT (zaV 0 zm1) (zbh zp0 0))).ways zsy=some zu3:=by kernel_rfl
theorem Tryz.zu4:(zaB zm1&&zap zjS&&AV.smallL zjT&&zan zp0)=true:=by kernel_rfl
def Tryz.zjQ:List Ent:= [⟨45,[rg],0,0,0,.int .i64 (.lit 0),0⟩]
def Tryz.zm0:List Sh:= []
def Tryz.zjR:List AV:= [rg,.int .i64 (.lit 7),.int .i64 (.lit 0)]
def Tryz.zsv:List (SB×Bool):= []
def Tryz.zpZ:List Leaf:= [
 ⟨.tup [.int .u64 (.bin .add .u64 (u64v 3) (.lit 2)),.int .i64 (.lit 2),.int .i64 (.lit 0)],[],[],0,[]⟩]
def Tryz.zu1:List (List (SB×Bool)×Nat):= [
 ([], 0)]
theorem Tryz.zsu:(ev prog (zaY zjQ) 100000 (.call 21 zjR (zaV 0 zm0) (zbh zpZ 0))).ways zsv=some zu1:=by kernel_rfl
theorem Tryz.zu2:(zaB zm0&&zap zjQ&&AV.smallL zjR&&zan zpZ)=true:=by kernel_rfl
def Tryz.zjO:List Ent:= [⟨45,[rg],0,0,0,.int .i64 (.lit 0),0⟩]
def Tryz.zmZ:List Sh:= []
def Tryz.zjP:List AV:= [rg,.int .i64 (.lit 8),.int .i64 (ixv 4)]
def Tryz.zss:List (SB×Bool):= [(.cmp .geq (ixv 4) (szv 0),false)]
def Tryz.zpY:List Leaf:= [
 ⟨.tup [.int .u64 (.bin .add .u64 (.bin .add .u64 (u64v 3) (.lit 4)) (.bin .mul .u64 (.lit 8) (ixv 4))),.int .i64 (.lit 8),.int .i64 (.lit 0)],[],[],0,[]⟩]
def Tryz.zuZ:List (List (SB×Bool)×Nat):= [
 ([], 0)]
theorem Tryz.zsr:(ev prog (zaY zjO) 100000 (.call 21 zjP (zaV 0 zmZ) (zbh zpY 0))).ways zss=some zuZ:=by kernel_rfl
theorem Tryz.zu0:(zaB zmZ&&zap zjO&&AV.smallL zjP&&zan zpY)=true:=by kernel_rfl
open Go.RowKit
theorem Tryz.zsG (r:Rg) (h:RgOk r) (w:World):Calls prog 113 #[.int .i64 r.n] w fun e w'=>e= .returned (.bool true)∧Below w.heap.size w w':=by
  have en:=zdX (is:= []) (bs:= []) (vs:= []) h;refine Calls.mono (zaT (ρ:=rho r [] [] []) (K:=fun _=>False) (g:=Gho.none) (bl:= []) (vals:= [.int .i64 r.n]) mixed zsE zu9 (fun _ h=>h.elim) trivial trivial zaJ trivial (zao (zax en) RL.nil) (fun _ h=>by cases h)) fun e w' hh=> ?_;obtain ⟨p,hp,hto,l,hl,j,he⟩:=hh;have hbel:=zar he (fun _ h=>h);unfold zp5 at hp;simp only [List.mem_cons,List.not_mem_nil,or_false] at hp;have hleaf:p.2=0:=by
    obtain ⟨k,hk,hn⟩:=h.pow;have hk16:k=0∨k=1∨k=2∨k=3∨k=4∨k=5∨k=6∨k=7∨k=8∨k=9∨k=10∨k=11∨k=12∨k=13∨k=14∨k=15:=by omega
    rcases hp with rfl|rfl|rfl|rfl|rfl|rfl|rfl|rfl|rfl|rfl|rfl|rfl|rfl|rfl|rfl|rfl|rfl
    all_goals first
      | rfl
      | (exfalso;simp only [zah,zau,znP,zat,en,beq_eq_false_iff_ne,ne_eq] at hto;rcases hk16 with rfl|rfl|rfl|rfl|rfl|rfl|rfl|rfl|rfl|rfl|rfl|rfl|rfl|rfl|rfl|rfl<;>(simp only [Int.reducePow,Nat.reducePow,Int.pow_succ,Int.pow_zero] at hn;omega))
  rw [hleaf] at hl;cases hl;exact ⟨he.ret,hbel⟩
theorem Tryz.zcY (r:Rg) (h:RgOk r) (w:World):Calls prog 45 #[r.val] w fun e w'=>e= .returned (.int .i64 0)∧Below w.heap.size w w':=by
  have hb:=h.bnd;obtain ⟨hpow,d0,v0,c0,d16,v2,c4,dE,vE,cE,dv,dc,vc⟩:=h;have hr:RgOk r:=⟨hpow,d0,v0,c0,d16,v2,c4,dE,vE,cE,dv,dc,vc⟩;have en:=zdX (is:= []) (bs:= []) (vs:= []) hr;have ed:=zek (is:= []) (bs:= []) (vs:= []) hr;have ev:=zej (is:= []) (bs:= []) (vs:= []) hr;have ec:=zel (is:= []) (bs:= []) (vs:= []) hr;have l1:=zea (ρ:=rho r [] [] []) (i:=1) (n:=4) d0 (by show r.d<_;omega);have l2:=zea (ρ:=rho r [] [] []) (i:=2) (n:=1) v0 (by show r.v<_;omega);have l3:=zea (ρ:=rho r [] [] []) (i:=3) (n:=2) c0 (by show r.c<_;omega);have w1:IntKind.wrap .u64 (16*r.n)=16*r.n:=zai (by omega) (by omega);have w2:IntKind.wrap .u64 (2*r.n)=2*r.n:=zai (by omega) (by omega);have w3:IntKind.wrap .u64 (8*r.n)=8*r.n:=zai (by omega) (by omega);have w4:IntKind.wrap .u64 (6+2*r.n)=6+2*r.n:=zai (by omega) (by omega);have w5:IntKind.wrap .u64 (6+8*r.n)=6+8*r.n:=zai (by omega) (by omega);have w6:IntKind.wrap .u64 (16*r.n-1)=16*r.n-1:=zai (by omega) (by omega);have w7:IntKind.wrap .u64 (6+2*r.n-1)=6+2*r.n-1:=zai (by omega) (by omega);have w8:IntKind.wrap .u64 (6+8*r.n-1)=6+8*r.n-1:=zai (by omega) (by omega);have x1:IntKind.wrap .u64 (18446744073709551615-r.d)=18446744073709551615-r.d:=zai (by omega) (by omega);have x2:IntKind.wrap .u64 (18446744073709551615-r.v)=18446744073709551615-r.v:=zai (by omega) (by omega);have x3:IntKind.wrap .u64 (18446744073709551615-r.c)=18446744073709551615-r.c:=zai (by omega) (by omega);have ht:Dw.Told (rho r [] [] []) ziW:=by
    unfold ziW;have y1:IntKind.wrap .u64 (r.d+(16*r.n-1))=r.d+(16*r.n-1):=zai (by omega) (by omega);have y2:IntKind.wrap .u64 (r.v+(6+2*r.n-1))=r.v+(6+2*r.n-1):=zai (by omega) (by omega);have y3:IntKind.wrap .u64 (r.c+(6+8*r.n-1))=r.c+(6+8*r.n-1):=zai (by omega) (by omega);simp only [zah,zau,zt9,zdB,zcO,den_add,den_mul,zat,l1,l2,l3,en,ed,ev,ec,w1,w2,w3,w4,w5,w6,w7,w8,y1,y2,y3];refine ⟨?_,?_,?_,?_,?_,?_,trivial⟩
    · show ((r.d%2^4) !=0)=false;have:r.d%2^4=0:=d16;rw [this];rfl
    · show ((r.v%2^1) !=0)=false;have:r.v%2^1=0:=v2;rw [this];rfl
    · show ((r.c%2^2) !=0)=false;have:r.c%2^2=0:=c4;rw [this];rfl
    all_goals (simp;omega)
  refine Calls.mono (zaT (K:=fun _=>False) (g:=Gho.none) (bl:= []) (vals:= [r.val]) mixed zsV zvj (fun _ h=>h.elim) trivial trivial zaJ ⟨zaP (Dw.enters_of (by kernel_rfl)) rfl [.int .i64 r.n] (.bool true) (fun j=>zao (zax en) RL.nil) (fun j=>zf4 rfl) (fun w _ _ _=>zsG r hr w),trivial⟩ (zao (R_rg hr) RL.nil) ht) fun e w' hh=> ?_;obtain ⟨p,hp,hto,l,hl,j,he⟩:=hh;have hbel:=zar he (fun _ h=>h);unfold zqn at hp;simp only [List.mem_cons,List.not_mem_nil,or_false] at hp;have hleaf:p.2=1:=by
    rcases hp with rfl|rfl|rfl|rfl|rfl|rfl|rfl|rfl|rfl|rfl|rfl|rfl|rfl|rfl|rfl|rfl|rfl|rfl|rfl|rfl|rfl|rfl
    all_goals first
      | rfl
      | (exfalso;simp only [zah,zau,zua,zdB,zhu,zf0,zcO,den_add,den_mul,zat,en,ed,ev,ec,w1,w2,w3,w4,w5,zdF,decide_eq_true_eq,decide_eq_false_iff_not] at hto;omega)
  rw [hleaf] at hl;cases hl;exact ⟨he.ret,hbel⟩
theorem Tryz.zpr (r:Rg) (h:RgOk r) (i:Int) (hi:0≤i∧i<r.n) (w:World):Calls prog 136 #[r.val,.int .i64 1,.int .i64 i] w fun e w'=>e= .returned (.tuple #[.int .u64 (r.d+16*i),.int .i64 16,.int .i64 0])∧Below w.heap.size w w':=by
 have hb:=h.bnd;have e1:=zdX (is:= [i]) (bs:= []) (vs:= []) h;have e2:=zek (is:= [i]) (bs:= []) (vs:= []) h;have e3:=zej (is:= [i]) (bs:= []) (vs:= []) h;have e4:=zel (is:= [i]) (bs:= []) (vs:= []) h;have q1:=h.dE;have q2:=h.vE;have q3:=h.cE;have q4:=h.d0;have q5:=h.v0;have q6:=h.c0;have e5:(ixv 4).den (rho r [i] [] [])=i:=zht hi.1 (by show i<32768;omega);have w1:IntKind.wrap .u64 (16*i)=16*i:=zai (by omega) (by omega);have w2:IntKind.wrap .u64 (r.d+16*i)=r.d+16*i:=zai (by omega) (by omega);refine Calls.mono (zaT (ρ:=(rho r [i] [] [])) (K:=fun _=>False) (g:=Gho.none) (bl:= []) (vals:= [r.val,.int .i64 1,.int .i64 i]) mixed zuG zwz (fun _ h=>h.elim) trivial trivial zaJ ⟨zaP (Dw.enters_of (by kernel_rfl)) rfl [r.val] (.int .i64 0) (fun j=>zao (R_rg h) RL.nil) (fun j=>zax rfl) (fun w _ _ _=>zbt r h w),trivial⟩ (zao (R_rg h) (zao (zax rfl) (zao (zax e5) RL.nil))) (zah.2 ⟨by rw [zf0,e5,e1];simp;omega,zau.2 trivial⟩)) fun e w' hh=> ?_;obtain ⟨_,j,he⟩:=zbL hh;refine ⟨he.ret.trans ?_,zar he (fun _ h=>h)⟩;simp only [AV.val,AV.valL,den_add,den_mul,zat,e1,e2,e3,e4,e5,w1,w2]
theorem Tryz.zuF (r:Rg) (h:RgOk r) (w:World):Calls prog 136 #[r.val,.int .i64 2,.int .i64 0] w fun e w'=>e= .returned (.tuple #[.int .u64 (r.v),.int .i64 2,.int .i64 0])∧Below w.heap.size w w':=by
 have hb:=h.bnd;have e1:=zdX (is:= []) (bs:= []) (vs:= []) h;have e2:=zek (is:= []) (bs:= []) (vs:= []) h;have e3:=zej (is:= []) (bs:= []) (vs:= []) h;have e4:=zel (is:= []) (bs:= []) (vs:= []) h;have q1:=h.dE;have q2:=h.vE;have q3:=h.cE;have q4:=h.d0;have q5:=h.v0;have q6:=h.c0;refine Calls.mono (zaT (ρ:=(rho r [] [] [])) (K:=fun _=>False) (g:=Gho.none) (bl:= []) (vals:= [r.val,.int .i64 2,.int .i64 0]) mixed zuD zwx (fun _ h=>h.elim) trivial trivial zaJ ⟨zaP (Dw.enters_of (by kernel_rfl)) rfl [r.val] (.int .i64 0) (fun j=>zao (R_rg h) RL.nil) (fun j=>zax rfl) (fun w _ _ _=>zbt r h w),trivial⟩ (zao (R_rg h) (zao (zax rfl) (zao (zax rfl) RL.nil))) (zau.2 trivial)) fun e w' hh=> ?_;obtain ⟨_,j,he⟩:=zbL hh;refine ⟨he.ret.trans ?_,zar he (fun _ h=>h)⟩;simp only [AV.val,AV.valL,den_add,den_mul,zat,e1,e2,e3,e4]
theorem Tryz.zpo (r:Rg) (h:RgOk r) (w:World):Calls prog 136 #[r.val,.int .i64 3,.int .i64 0] w fun e w'=>e= .returned (.tuple #[.int .u64 (r.v+2),.int .i64 2,.int .i64 0])∧Below w.heap.size w w':=by
 have hb:=h.bnd;have e1:=zdX (is:= []) (bs:= []) (vs:= []) h;have e2:=zek (is:= []) (bs:= []) (vs:= []) h;have e3:=zej (is:= []) (bs:= []) (vs:= []) h;have e4:=zel (is:= []) (bs:= []) (vs:= []) h;have q1:=h.dE;have q2:=h.vE;have q3:=h.cE;have q4:=h.d0;have q5:=h.v0;have q6:=h.c0;have w2:IntKind.wrap .u64 (r.v+2)=r.v+2:=zai (by omega) (by omega);refine Calls.mono (zaT (ρ:=(rho r [] [] [])) (K:=fun _=>False) (g:=Gho.none) (bl:= []) (vals:= [r.val,.int .i64 3,.int .i64 0]) mixed zuB zwv (fun _ h=>h.elim) trivial trivial zaJ ⟨zaP (Dw.enters_of (by kernel_rfl)) rfl [r.val] (.int .i64 0) (fun j=>zao (R_rg h) RL.nil) (fun j=>zax rfl) (fun w _ _ _=>zbt r h w),trivial⟩ (zao (R_rg h) (zao (zax rfl) (zao (zax rfl) RL.nil))) (zau.2 trivial)) fun e w' hh=> ?_;obtain ⟨_,j,he⟩:=zbL hh;refine ⟨he.ret.trans ?_,zar he (fun _ h=>h)⟩;simp only [AV.val,AV.valL,den_add,den_mul,zat,e1,e2,e3,e4,w2]
theorem Tryz.zuA (r:Rg) (h:RgOk r) (i:Int) (hi:0≤i∧i<r.n) (w:World):Calls prog 136 #[r.val,.int .i64 4,.int .i64 i] w fun e w'=>e= .returned (.tuple #[.int .u64 (r.v+4+2*i),.int .i64 2,.int .i64 0])∧Below w.heap.size w w':=by
 have hb:=h.bnd;have e1:=zdX (is:= [i]) (bs:= []) (vs:= []) h;have e2:=zek (is:= [i]) (bs:= []) (vs:= []) h;have e3:=zej (is:= [i]) (bs:= []) (vs:= []) h;have e4:=zel (is:= [i]) (bs:= []) (vs:= []) h;have q1:=h.dE;have q2:=h.vE;have q3:=h.cE;have q4:=h.d0;have q5:=h.v0;have q6:=h.c0;have e5:(ixv 4).den (rho r [i] [] [])=i:=zht hi.1 (by show i<32768;omega);have w1:IntKind.wrap .u64 (2*i)=2*i:=zai (by omega) (by omega);have w3:IntKind.wrap .u64 (r.v+4)=r.v+4:=zai (by omega) (by omega);have w2:IntKind.wrap .u64 (r.v+4+2*i)=r.v+4+2*i:=zai (by omega) (by omega);refine Calls.mono (zaT (ρ:=(rho r [i] [] [])) (K:=fun _=>False) (g:=Gho.none) (bl:= []) (vals:= [r.val,.int .i64 4,.int .i64 i]) mixed zuy zwt (fun _ h=>h.elim) trivial trivial zaJ ⟨zaP (Dw.enters_of (by kernel_rfl)) rfl [r.val] (.int .i64 0) (fun j=>zao (R_rg h) RL.nil) (fun j=>zax rfl) (fun w _ _ _=>zbt r h w),trivial⟩ (zao (R_rg h) (zao (zax rfl) (zao (zax e5) RL.nil))) (zah.2 ⟨by rw [zf0,e5,e1];simp;omega,zau.2 trivial⟩)) fun e w' hh=> ?_;obtain ⟨_,j,he⟩:=zbL hh;refine ⟨he.ret.trans ?_,zar he (fun _ h=>h)⟩;simp only [AV.val,AV.valL,den_add,den_mul,zat,e1,e2,e3,e4,e5,w1,w3,w2]
theorem Tryz.zpl (r:Rg) (h:RgOk r) (w:World):Calls prog 136 #[r.val,.int .i64 5,.int .i64 0] w fun e w'=>e= .returned (.tuple #[.int .u64 (r.v+4+2*r.n),.int .i64 2,.int .i64 0])∧Below w.heap.size w w':=by
 have hb:=h.bnd;have e1:=zdX (is:= []) (bs:= []) (vs:= []) h;have e2:=zek (is:= []) (bs:= []) (vs:= []) h;have e3:=zej (is:= []) (bs:= []) (vs:= []) h;have e4:=zel (is:= []) (bs:= []) (vs:= []) h;have q1:=h.dE;have q2:=h.vE;have q3:=h.cE;have q4:=h.d0;have q5:=h.v0;have q6:=h.c0;have w1:IntKind.wrap .u64 (2*r.n)=2*r.n:=zai (by omega) (by omega);have w3:IntKind.wrap .u64 (r.v+4)=r.v+4:=zai (by omega) (by omega);have w2:IntKind.wrap .u64 (r.v+4+2*r.n)=r.v+4+2*r.n:=zai (by omega) (by omega);refine Calls.mono (zaT (ρ:=(rho r [] [] [])) (K:=fun _=>False) (g:=Gho.none) (bl:= []) (vals:= [r.val,.int .i64 5,.int .i64 0]) mixed zuw zwr (fun _ h=>h.elim) trivial trivial zaJ ⟨zaP (Dw.enters_of (by kernel_rfl)) rfl [r.val] (.int .i64 0) (fun j=>zao (R_rg h) RL.nil) (fun j=>zax rfl) (fun w _ _ _=>zbt r h w),trivial⟩ (zao (R_rg h) (zao (zax rfl) (zao (zax rfl) RL.nil))) (zau.2 trivial)) fun e w' hh=> ?_;obtain ⟨_,j,he⟩:=zbL hh;refine ⟨he.ret.trans ?_,zar he (fun _ h=>h)⟩;simp only [AV.val,AV.valL,den_add,den_mul,zat,e1,e2,e3,e4,w1,w3,w2]
theorem Tryz.zuv (r:Rg) (h:RgOk r) (w:World):Calls prog 136 #[r.val,.int .i64 6,.int .i64 0] w fun e w'=>e= .returned (.tuple #[.int .u64 (r.c),.int .i64 2,.int .i64 0])∧Below w.heap.size w w':=by
 have hb:=h.bnd;have e1:=zdX (is:= []) (bs:= []) (vs:= []) h;have e2:=zek (is:= []) (bs:= []) (vs:= []) h;have e3:=zej (is:= []) (bs:= []) (vs:= []) h;have e4:=zel (is:= []) (bs:= []) (vs:= []) h;have q1:=h.dE;have q2:=h.vE;have q3:=h.cE;have q4:=h.d0;have q5:=h.v0;have q6:=h.c0;refine Calls.mono (zaT (ρ:=(rho r [] [] [])) (K:=fun _=>False) (g:=Gho.none) (bl:= []) (vals:= [r.val,.int .i64 6,.int .i64 0]) mixed zut zwp (fun _ h=>h.elim) trivial trivial zaJ ⟨zaP (Dw.enters_of (by kernel_rfl)) rfl [r.val] (.int .i64 0) (fun j=>zao (R_rg h) RL.nil) (fun j=>zax rfl) (fun w _ _ _=>zbt r h w),trivial⟩ (zao (R_rg h) (zao (zax rfl) (zao (zax rfl) RL.nil))) (zau.2 trivial)) fun e w' hh=> ?_;obtain ⟨_,j,he⟩:=zbL hh;refine ⟨he.ret.trans ?_,zar he (fun _ h=>h)⟩;simp only [AV.val,AV.valL,den_add,den_mul,zat,e1,e2,e3,e4]
theorem Tryz.zus (r:Rg) (h:RgOk r) (w:World):Calls prog 136 #[r.val,.int .i64 7,.int .i64 0] w fun e w'=>e= .returned (.tuple #[.int .u64 (r.c+2),.int .i64 2,.int .i64 0])∧Below w.heap.size w w':=by
 have hb:=h.bnd;have e1:=zdX (is:= []) (bs:= []) (vs:= []) h;have e2:=zek (is:= []) (bs:= []) (vs:= []) h;have e3:=zej (is:= []) (bs:= []) (vs:= []) h;have e4:=zel (is:= []) (bs:= []) (vs:= []) h;have q1:=h.dE;have q2:=h.vE;have q3:=h.cE;have q4:=h.d0;have q5:=h.v0;have q6:=h.c0;have w2:IntKind.wrap .u64 (r.c+2)=r.c+2:=zai (by omega) (by omega);refine Calls.mono (zaT (ρ:=(rho r [] [] [])) (K:=fun _=>False) (g:=Gho.none) (bl:= []) (vals:= [r.val,.int .i64 7,.int .i64 0]) mixed zuq zwn (fun _ h=>h.elim) trivial trivial zaJ ⟨zaP (Dw.enters_of (by kernel_rfl)) rfl [r.val] (.int .i64 0) (fun j=>zao (R_rg h) RL.nil) (fun j=>zax rfl) (fun w _ _ _=>zbt r h w),trivial⟩ (zao (R_rg h) (zao (zax rfl) (zao (zax rfl) RL.nil))) (zau.2 trivial)) fun e w' hh=> ?_;obtain ⟨_,j,he⟩:=zbL hh;refine ⟨he.ret.trans ?_,zar he (fun _ h=>h)⟩;simp only [AV.val,AV.valL,den_add,den_mul,zat,e1,e2,e3,e4,w2]
theorem Tryz.zph (r:Rg) (h:RgOk r) (i:Int) (hi:0≤i∧i<r.n) (w:World):Calls prog 136 #[r.val,.int .i64 8,.int .i64 i] w fun e w'=>e= .returned (.tuple #[.int .u64 (r.c+4+8*i),.int .i64 8,.int .i64 0])∧Below w.heap.size w w':=by
 have hb:=h.bnd;have e1:=zdX (is:= [i]) (bs:= []) (vs:= []) h;have e2:=zek (is:= [i]) (bs:= []) (vs:= []) h;have e3:=zej (is:= [i]) (bs:= []) (vs:= []) h;have e4:=zel (is:= [i]) (bs:= []) (vs:= []) h;have q1:=h.dE;have q2:=h.vE;have q3:=h.cE;have q4:=h.d0;have q5:=h.v0;have q6:=h.c0;have e5:(ixv 4).den (rho r [i] [] [])=i:=zht hi.1 (by show i<32768;omega);have w1:IntKind.wrap .u64 (8*i)=8*i:=zai (by omega) (by omega);have w3:IntKind.wrap .u64 (r.c+4)=r.c+4:=zai (by omega) (by omega);have w2:IntKind.wrap .u64 (r.c+4+8*i)=r.c+4+8*i:=zai (by omega) (by omega);refine Calls.mono (zaT (ρ:=(rho r [i] [] [])) (K:=fun _=>False) (g:=Gho.none) (bl:= []) (vals:= [r.val,.int .i64 8,.int .i64 i]) mixed zuo zwl (fun _ h=>h.elim) trivial trivial zaJ ⟨zaP (Dw.enters_of (by kernel_rfl)) rfl [r.val] (.int .i64 0) (fun j=>zao (R_rg h) RL.nil) (fun j=>zax rfl) (fun w _ _ _=>zbt r h w),trivial⟩ (zao (R_rg h) (zao (zax rfl) (zao (zax e5) RL.nil))) (zah.2 ⟨by rw [zf0,e5,e1];simp;omega,zau.2 trivial⟩)) fun e w' hh=> ?_;obtain ⟨_,j,he⟩:=zbL hh;refine ⟨he.ret.trans ?_,zar he (fun _ h=>h)⟩;simp only [AV.val,AV.valL,den_add,den_mul,zat,e1,e2,e3,e4,e5,w1,w3,w2]
theorem Tryz.zun (r:Rg) (h:RgOk r) (w:World):Calls prog 136 #[r.val,.int .i64 9,.int .i64 0] w fun e w'=>e= .returned (.tuple #[.int .u64 (r.c+4+8*r.n),.int .i64 2,.int .i64 0])∧Below w.heap.size w w':=by
 have hb:=h.bnd;have e1:=zdX (is:= []) (bs:= []) (vs:= []) h;have e2:=zek (is:= []) (bs:= []) (vs:= []) h;have e3:=zej (is:= []) (bs:= []) (vs:= []) h;have e4:=zel (is:= []) (bs:= []) (vs:= []) h;have q1:=h.dE;have q2:=h.vE;have q3:=h.cE;have q4:=h.d0;have q5:=h.v0;have q6:=h.c0;have w1:IntKind.wrap .u64 (8*r.n)=8*r.n:=zai (by omega) (by omega);have w3:IntKind.wrap .u64 (r.c+4)=r.c+4:=zai (by omega) (by omega);have w2:IntKind.wrap .u64 (r.c+4+8*r.n)=r.c+4+8*r.n:=zai (by omega) (by omega);refine Calls.mono (zaT (ρ:=(rho r [] [] [])) (K:=fun _=>False) (g:=Gho.none) (bl:= []) (vals:= [r.val,.int .i64 9,.int .i64 0]) mixed zul zwj (fun _ h=>h.elim) trivial trivial zaJ ⟨zaP (Dw.enters_of (by kernel_rfl)) rfl [r.val] (.int .i64 0) (fun j=>zao (R_rg h) RL.nil) (fun j=>zax rfl) (fun w _ _ _=>zbt r h w),trivial⟩ (zao (R_rg h) (zao (zax rfl) (zao (zax rfl) RL.nil))) (zau.2 trivial)) fun e w' hh=> ?_;obtain ⟨_,j,he⟩:=zbL hh;refine ⟨he.ret.trans ?_,zar he (fun _ h=>h)⟩;simp only [AV.val,AV.valL,den_add,den_mul,zat,e1,e2,e3,e4,w1,w3,w2]
theorem Tryz.zsC (r:Rg) (h:RgOk r) (w:World):Calls prog 21 #[r.val,.int .i64 3,.int .i64 0] w fun e w'=>e= .returned (.tuple #[.int .u64 (r.v+2),.int .i64 2,.int .i64 0])∧Below w.heap.size w w':=by
 have hb:=h.bnd;have e1:=zdX (is:= []) (bs:= []) (vs:= []) h;have e2:=zek (is:= []) (bs:= []) (vs:= []) h;have e3:=zej (is:= []) (bs:= []) (vs:= []) h;have e4:=zel (is:= []) (bs:= []) (vs:= []) h;have q1:=h.dE;have q2:=h.vE;have q3:=h.cE;have q4:=h.d0;have q5:=h.v0;have q6:=h.c0;have w2:IntKind.wrap .u64 (r.v+2)=r.v+2:=zai (by omega) (by omega);refine Calls.mono (zaT (ρ:=(rho r [] [] [])) (K:=fun _=>False) (g:=Gho.none) (bl:= []) (vals:= [r.val,.int .i64 3,.int .i64 0]) mixed zsA zu6 (fun _ h=>h.elim) trivial trivial zaJ ⟨zaP (Dw.enters_of (by kernel_rfl)) rfl [r.val] (.int .i64 0) (fun j=>zao (R_rg h) RL.nil) (fun j=>zax rfl) (fun w _ _ _=>zcY r h w),trivial⟩ (zao (R_rg h) (zao (zax rfl) (zao (zax rfl) RL.nil))) (zau.2 trivial)) fun e w' hh=> ?_;obtain ⟨_,j,he⟩:=zbL hh;refine ⟨he.ret.trans ?_,zar he (fun _ h=>h)⟩;simp only [AV.val,AV.valL,den_add,den_mul,zat,e1,e2,e3,e4,w2]
theorem Tryz.zsz (r:Rg) (h:RgOk r) (i:Int) (hi:0≤i∧i<r.n) (w:World):Calls prog 21 #[r.val,.int .i64 4,.int .i64 i] w fun e w'=>e= .returned (.tuple #[.int .u64 (r.v+4+2*i),.int .i64 2,.int .i64 0])∧Below w.heap.size w w':=by
 have hb:=h.bnd;have e1:=zdX (is:= [i]) (bs:= []) (vs:= []) h;have e2:=zek (is:= [i]) (bs:= []) (vs:= []) h;have e3:=zej (is:= [i]) (bs:= []) (vs:= []) h;have e4:=zel (is:= [i]) (bs:= []) (vs:= []) h;have q1:=h.dE;have q2:=h.vE;have q3:=h.cE;have q4:=h.d0;have q5:=h.v0;have q6:=h.c0;have e5:(ixv 4).den (rho r [i] [] [])=i:=zht hi.1 (by show i<32768;omega);have w1:IntKind.wrap .u64 (2*i)=2*i:=zai (by omega) (by omega);have w3:IntKind.wrap .u64 (r.v+4)=r.v+4:=zai (by omega) (by omega);have w2:IntKind.wrap .u64 (r.v+4+2*i)=r.v+4+2*i:=zai (by omega) (by omega);refine Calls.mono (zaT (ρ:=(rho r [i] [] [])) (K:=fun _=>False) (g:=Gho.none) (bl:= []) (vals:= [r.val,.int .i64 4,.int .i64 i]) mixed zsx zu4 (fun _ h=>h.elim) trivial trivial zaJ ⟨zaP (Dw.enters_of (by kernel_rfl)) rfl [r.val] (.int .i64 0) (fun j=>zao (R_rg h) RL.nil) (fun j=>zax rfl) (fun w _ _ _=>zcY r h w),trivial⟩ (zao (R_rg h) (zao (zax rfl) (zao (zax e5) RL.nil))) (zah.2 ⟨by rw [zf0,e5,e1];simp;omega,zau.2 trivial⟩)) fun e w' hh=> ?_;obtain ⟨_,j,he⟩:=zbL hh;refine ⟨he.ret.trans ?_,zar he (fun _ h=>h)⟩;simp only [AV.val,AV.valL,den_add,den_mul,zat,e1,e2,e3,e4,e5,w1,w3,w2]
theorem Tryz.zsw (r:Rg) (h:RgOk r) (w:World):Calls prog 21 #[r.val,.int .i64 7,.int .i64 0] w fun e w'=>e= .returned (.tuple #[.int .u64 (r.c+2),.int .i64 2,.int .i64 0])∧Below w.heap.size w w':=by
 have hb:=h.bnd;have e1:=zdX (is:= []) (bs:= []) (vs:= []) h;have e2:=zek (is:= []) (bs:= []) (vs:= []) h;have e3:=zej (is:= []) (bs:= []) (vs:= []) h;have e4:=zel (is:= []) (bs:= []) (vs:= []) h;have q1:=h.dE;have q2:=h.vE;have q3:=h.cE;have q4:=h.d0;have q5:=h.v0;have q6:=h.c0;have w2:IntKind.wrap .u64 (r.c+2)=r.c+2:=zai (by omega) (by omega);refine Calls.mono (zaT (ρ:=(rho r [] [] [])) (K:=fun _=>False) (g:=Gho.none) (bl:= []) (vals:= [r.val,.int .i64 7,.int .i64 0]) mixed zsu zu2 (fun _ h=>h.elim) trivial trivial zaJ ⟨zaP (Dw.enters_of (by kernel_rfl)) rfl [r.val] (.int .i64 0) (fun j=>zao (R_rg h) RL.nil) (fun j=>zax rfl) (fun w _ _ _=>zcY r h w),trivial⟩ (zao (R_rg h) (zao (zax rfl) (zao (zax rfl) RL.nil))) (zau.2 trivial)) fun e w' hh=> ?_;obtain ⟨_,j,he⟩:=zbL hh;refine ⟨he.ret.trans ?_,zar he (fun _ h=>h)⟩;simp only [AV.val,AV.valL,den_add,den_mul,zat,e1,e2,e3,e4,w2]
theorem Tryz.zst (r:Rg) (h:RgOk r) (i:Int) (hi:0≤i∧i<r.n) (w:World):Calls prog 21 #[r.val,.int .i64 8,.int .i64 i] w fun e w'=>e= .returned (.tuple #[.int .u64 (r.c+4+8*i),.int .i64 8,.int .i64 0])∧Below w.heap.size w w':=by
 have hb:=h.bnd;have e1:=zdX (is:= [i]) (bs:= []) (vs:= []) h;have e2:=zek (is:= [i]) (bs:= []) (vs:= []) h;have e3:=zej (is:= [i]) (bs:= []) (vs:= []) h;have e4:=zel (is:= [i]) (bs:= []) (vs:= []) h;have q1:=h.dE;have q2:=h.vE;have q3:=h.cE;have q4:=h.d0;have q5:=h.v0;have q6:=h.c0;have e5:(ixv 4).den (rho r [i] [] [])=i:=zht hi.1 (by show i<32768;omega);have w1:IntKind.wrap .u64 (8*i)=8*i:=zai (by omega) (by omega);have w3:IntKind.wrap .u64 (r.c+4)=r.c+4:=zai (by omega) (by omega);have w2:IntKind.wrap .u64 (r.c+4+8*i)=r.c+4+8*i:=zai (by omega) (by omega);refine Calls.mono (zaT (ρ:=(rho r [i] [] [])) (K:=fun _=>False) (g:=Gho.none) (bl:= []) (vals:= [r.val,.int .i64 8,.int .i64 i]) mixed zsr zu0 (fun _ h=>h.elim) trivial trivial zaJ ⟨zaP (Dw.enters_of (by kernel_rfl)) rfl [r.val] (.int .i64 0) (fun j=>zao (R_rg h) RL.nil) (fun j=>zax rfl) (fun w _ _ _=>zcY r h w),trivial⟩ (zao (R_rg h) (zao (zax rfl) (zao (zax e5) RL.nil))) (zah.2 ⟨by rw [zf0,e5,e1];simp;omega,zau.2 trivial⟩)) fun e w' hh=> ?_;obtain ⟨_,j,he⟩:=zbL hh;refine ⟨he.ret.trans ?_,zar he (fun _ h=>h)⟩;simp only [AV.val,AV.valL,den_add,den_mul,zat,e1,e2,e3,e4,e5,w1,w3,w2]
structure Tryz.Sg where
 at1:Int
 len:Int
 wr:Bool
deriving DecidableEq
def Tryz.Sg.cells (x:Sg):List Value:= [.int .u64 x.at1,.int .u32 x.len,.bool x.wr]
def Tryz.zam (l:List Sg):List Value:=l.flatMap Sg.cells
def Tryz.Sg.ok (x:Sg):Prop:=0≤x.at1∧x.at1<18446744073709551616∧0≤x.len∧x.len<4294967296
theorem Tryz.zde (x:Sg) (r:List Sg):zam (x::r)= .int .u64 x.at1:: .int .u32 x.len:: .bool x.wr::zam r:=rfl
theorem Tryz.zbH (l:List Sg):(zam l).length=3*l.length:=by
 induction l with
 | nil=>rfl
 | cons x r ih=>
  rw [zde];simp only [List.length_cons,ih];omega
theorem Tryz.zdK (l:List Sg) (i:Nat) (hi:i<l.length):(zam l)[3*i]? =some (.int .u64 l[i].at1)∧(zam l)[3*i+1]? =some (.int .u32 l[i].len)∧(zam l)[3*i+2]? =some (.bool l[i].wr):=by
 induction l generalizing i with
 | nil=>simp at hi
 | cons x r ih=>
  cases i with
  | zero=>exact ⟨rfl,rfl,rfl⟩
  | succ i=>
   have h:=ih i (by simpa using hi);rw [zde,show 3*(i+1)=3*i+1+1+1 by omega,show 3*i+1+1+1+1=(3*i+1)+1+1+1 by omega,show 3*i+1+1+1+2=(3*i+2)+1+1+1 by omega];simp only [List.getElem?_cons_succ,List.getElem_cons_succ];exact h
theorem Tryz.zfS (l:List Sg): ∀v∈zam l,v.oneCell'=true:=fun v hv=>by
 simp only [zam,List.mem_flatMap,Sg.cells,List.mem_cons,List.not_mem_nil,or_false] at hv;obtain ⟨x,_,rfl|rfl|rfl⟩:=hv<;>rfl
theorem Tryz.zcV {w:World} {R o:Nat} {l:List Sg} (h:w.rangeAt R o (zam l)) (k:Nat) (hk:k<l.length):w.rangeAt R (o+3*k) l[k].cells:=fun j v hv=>by
 obtain ⟨h0,h1,h2⟩:=zdK l k hk
 match j,hv with
 | 0,hv=>cases hv;exact h _ _ h0
 | 1,hv=>cases hv;have:=h _ _ h1;rwa [←Nat.add_assoc] at this
 | 2,hv=>cases hv;have:=h _ _ h2;rwa [←Nat.add_assoc] at this
 | j+3,hv=>cases hv
def Tryz.SegV (A:Nat→Prop) (w:World) (v:Value) (l:List Sg):Prop:=
 ∃ (sa:Option Addr) (c:Nat),v= .slice sa l.length c∧(∀x∈l,x.ok)∧(l= []∨ ∃R o,sa=some ⟨R,o,none⟩∧ ¬A R∧w.rangeAt R o (zam l))
theorem Tryz.zgK {w:World} {R o:Nat} {l:List Sg} (h:w.rangeAt R o (zam l)) (h0:l≠ []):R<w.heap.size:=by
 have h1:0<(zam l).length:=by
  rw [zbH];have:=List.length_pos_iff.2 h0;omega
 exact World.block_lt_of_cell? w ⟨R,o+0,none⟩ (h 0 _ (List.getElem?_eq_getElem h1))
theorem Tryz.SegV.kept {A:Nat→Prop} {w w':World} {v:Value} {l:List Sg} (h:SegV A w v l) (hk: ∀k,k<w.heap.size→ ¬A k→w'.heap[k]? =w.heap[k]?):SegV A w' v l:=by
 obtain ⟨sa,c,rfl,hl,hr⟩:=h;refine ⟨sa,c,rfl,hl,?_⟩;rcases hr with h0|⟨R,o,rfl,hn,hr⟩
 ·exact Or.inl h0
 ·by_cases h0:l= []
  ·exact Or.inl h0
  ·exact Or.inr ⟨R,o,rfl,hn,zae hr (hk R (zgK hr h0) hn)⟩
theorem Tryz.SegV.below {A:Nat→Prop} {w w':World} {v:Value} {l:List Sg} (h:SegV A w v l) (hb:Below w.heap.size w w'):SegV A w' v l:=h.kept (fun k hk _=>hb.block k hk)
structure Tryz.SS where
 ev:Bool
 tb:Bool
 pk:Bool
 nx:Int
 us:Int
 tk:List (Int×List Sg)
 ph:Nat
 op:Int
 nn:Bool
 hd:Int
 sg:List Sg
 wr:Int
 it:Bool
 dn:Bool
 br:Bool
theorem Tryz.zfR {w:World} {S:Nat} {ρ:Val} {j:J} {K:Nat→Prop} {g:Gho} {row:List AV} {vals:List Value} (h:Own w S vals) (hr:RL ρ j row vals) (hK:K S):ShOk ρ j (cxOf w K g) (S,0) (.own row):=by
 obtain ⟨arr,e,h1,h2⟩:=h;exact ⟨hK,rfl,vals,arr,e,h1,hr,h2⟩
theorem Tryz.SegV.none {A:Nat→Prop} {w:World}:SegV A w (.slice none 0 0) []:=⟨Option.none,0,rfl,fun _ h=>(by cases h),Or.inl rfl⟩
theorem Tryz.zpy (a m:Int) (hm:0<m):((if a.tmod m<0 then a.tmod m+m else a.tmod m)=a%m)∧ -m<a.tmod m∧a.tmod m<m:=by
 rw [Int.tmod_eq_emod];have h1:=Int.emod_nonneg a (Int.ne_of_gt hm);have h2:=Int.emod_lt_of_pos a hm;have h3:((m.natAbs:Nat):Int)=m:=Int.natAbs_of_nonneg (Int.le_of_lt hm);by_cases h:0≤a∨m ∣ a
 ·rw [if_pos h];simp only [Int.sub_zero,Int.ofNat_zero];refine ⟨?_,?_,?_⟩<;>first|omega|(split<;>omega)
 ·rw [if_neg h,h3];have h4:a%m≠0:=fun h0=>h (.inr (Int.dvd_of_emod_eq_zero h0));refine ⟨?_,?_,?_⟩<;>first|omega|(split<;>omega)
set_option maxRecDepth 100000 in
theorem Tryz.zni (a m:Int) (hm:1≤m∧m≤1000000) (w:World):
  Calls prog 7 #[.int .i64 a,.int .i64 m] w fun e w'=>e= .returned (.int .i64 (a%m))∧w'=w:=by
 obtain ⟨hr,hlo,hhi⟩:=zpy a m (by omega);have hq:IntKind.i64.wrap (a.tmod m)=a.tmod m:=zaS (by omega) (by omega);have hm0:m≠0:=by omega
 have hm1: ¬m<1:=by omega
 by_cases h0:a.tmod m<0
 ·rw [if_pos h0] at hr;have hq2:IntKind.i64.wrap (a.tmod m+m)=a.tmod m+m:=zaS (by omega) (by omega);rw [←hr];go_enter func7,ntmps7;go_wp2;go_ret;exact ⟨rfl,rfl⟩
 ·rw [if_neg h0] at hr;rw [←hr];go_enter func7,ntmps7;go_wp2;go_ret;exact ⟨rfl,rfl⟩
end Go.Proofs
namespace Go.Dw
open Go.RowKit
structure LEnd where
 test:SB
 ex:Ex
 slots:List (Nat×AV)
 gs:Nat
structure LEnt where
 p:List Nat
 n:Nat
 gs:Nat
 slots:List (Nat×AV)
 keep:List Nat
 rows:List (Nat×List AV)
 base:Nat
 nopq:Nat
 ends:List LEnd
def getE (env:T AV) (t:Nat):AV:=
 match env.get t with
 | some v=>v
 | none=>zbq
def zdo:Nat→T AV→T AV
 | 0,t=>t
 | n+1,t=>zdo n (t.set n .junk)
def zlY (env:T AV):List Nat→T AV→T AV
 | [], t=>t
 | i::l,t=>zlY env l (t.set i (getE env i))
def setE:List (Nat×AV)→T AV→T AV
 | [], t=>t
 | p::l,t=>setE l (t.set p.1 p.2)
def znj:List Nat→List Nat→Bool
 | [], [] => true
 | a::l,b::m=>match Nat.beq a b with|true=>znj l m|false=>false
 | _,_=>false
def zqE:AV→Bool
 | .junk=>false
 | _=>true
def zgj (N:Nat) (env:T AV):List (Nat×AV)→Bool
 | [] => true
 | p::l=>match Nat.blt p.1 N,AV.beq (getE env p.1) p.2,zqE p.2 with|true,true,true=>zgj N env l|_,_,_=>false
def zbr (N:Nat):List (Nat×AV)→Bool
 | [] => true
 | p::l=>match Nat.blt p.1 N with|true=>zbr N l|false=>false
def znq (N:Nat):List Nat→Bool
 | [] => true
 | p::l=>match Nat.blt p N with|true=>znq N l|false=>false
def znK (N:Nat):List LEnd→Bool
 | [] => true
 | e::l=>match zbr N e.slots with|true=>znK N l|false=>false
def LEnt.fits (e:LEnt) (p:List Nat) (N:Nat) (env:T AV) (H:Heap):Bool:=
 match znj p e.p,Nat.beq N e.n with
 | false,_=>false
 | true,false=>false
 | true,true=>match zgj N env e.slots,znq N e.keep,znK N e.ends,Nat.beq H.gs e.gs with
  | true,true,true,true=>(match env.get zaZ,Nat.ble N zaZ,zb7 H e.rows with
   | none,true,true=>(match e.nopq with
    | 0=>true
    | _+1=>Nat.beq H.nx e.base)
   | _,_,_=>false)
  | _,_,_,_=>false
def LEnt.ent (e:LEnt) (d:LEnd):Ent:=⟨0,[],e.gs,e.base,e.nopq,zbq,d.gs⟩
def LEnt.env (e:LEnt) (d:LEnd) (N:Nat) (env:T AV):T AV:=setE d.slots (zlY env e.keep (zdo N .leaf))
def LEnt.ans (e:LEnt) (N:Nat) (env:T AV) (H:Heap):List LEnd→LAns
 | [] => []
 | d::l=>(d.test,d.ex,e.env d N env,(e.ent d).heap H)::e.ans N env H l
def zqQ:List LEnt→LOrc
 | [], _,_,_,_=>none
 | e::l,p,N,env,H=>match e.fits p N env H with
  | true=>some (e.ans N env H e.ends)
  | false=>zqQ l p N env H
def zb8 (l:List LEnt):LOrc:=fun p N env H=>
 match p with
 | 2::_=>none
 | p=>zqQ l p N env H
def zqu (ρ:Val) (l:List LEnd):Option LEnd:=ziX ρ (l.map fun d=>(d.test,d))
def zxv (P:Program) (ρ:Val) (w0:World) (K:Nat→Prop) (g:Gho) (e:LEnt):Prop:=
 ∀ c,zbf P e.p=c→ ∀(j:J) (a:Act) (w:World) (F:Nat→Prop) (n:Nat),a.tmps.size=e.n→a.defers= []→(∀s∈e.slots,s.1<e.n∧R ρ j s.2 (a.tmps.getD s.1 undef))→(∀r∈e.rows,∀L,j r.1=some L→ ¬F L.blk∧ ∃vals,RL ρ j r.2 vals∧Row w L vals)→
  (∀ k,n≤k→j k=none)→(e.nopq≠0→n=e.base)→(∀b,F b→b<w.heap.size)→w0.heap.size≤w.heap.size→g.fact e.gs (opqs j) F w→(∀i,i<w0.heap.size→ ¬K i→w.heap[i]? =w0.heap[i]?)→
  c.wp P (fun ex a' w'=> ∃d qs F',zqu ρ e.ends=some d∧ex=exOf d.ex∧a'.tmps.size=e.n∧a'.defers= []∧(∀t∈e.keep,a'.tmps.getD t undef=a.tmps.getD t undef)∧qs.length=e.nopq∧
   (∀ s∈d.slots,R ρ (jq j n qs) s.2 (a'.tmps.getD s.1 undef))∧g.fact d.gs (opqs (jq j n qs)) F' w'∧(∀b,F' b→b<w'.heap.size∧(F b∨w.heap.size≤b))∧Mv (fun b=>F b∧(w0.heap.size≤b∨K b)) w w') a w
def zqL (P:Program) (ρ:Val) (w0:World) (K:Nat→Prop) (g:Gho):List LEnt→Prop
 | [] => True
 | e::l=>zxv P ρ w0 K g e∧zqL P ρ w0 K g l
def zaR:List (Nat×AV)→Bool
 | [] => true
 | s::l=>match s.2.small with|true=>zaR l|false=>false
def zc7:List LEnd→Bool
 | [] => true
 | d::l=>match d.test.small,zaR d.slots with|true,true=>zc7 l|_,_=>false
def zeT:List (Nat×List AV)→Bool
 | [] => true
 | r::l=>match AV.smallL r.2 with|true=>zeT l|false=>false
theorem zeS: ∀ {l:List (Nat×List AV)},zeT l=true→ ∀s∈l,AV.smallL s.2=true
 | [], _,s,h=>by cases h
 | p::l,hl,s,h=>by
  unfold zeT at hl;split at hl
  ·rename_i hb;rcases List.mem_cons.1 h with rfl|h
   ·exact hb
   ·exact zeS hl s h
  ·cases hl
def za1:List LEnt→Bool
 | [] => true
 | e::l=>match zaR e.slots,zc7 e.ends,zeT e.rows with|true,true,true=>za1 l|_,_,_=>false
theorem zb5: ∀(n:Nat) (t0:T AV) (t:Nat),zaD (zdo n t0) t=if t<n then .junk else zaD t0 t
 | 0,t0,t=>by rw [if_neg (by omega)];rfl
 | n+1,t0,t=>by
  unfold zdo;rw [zb5 n,za2];by_cases h:t<n
  ·rw [if_pos h,if_pos (by omega)]
  ·rw [if_neg h];by_cases h2:t=n
   ·rw [if_pos h2,if_pos (by omega)]
   ·rw [if_neg h2,if_neg (by omega)]
theorem zl5 (env:T AV) (t:Nat):getE env t=zaD env t:=rfl
theorem zdV {env:T AV}: ∀(l:List Nat) (t0:T AV) (t:Nat),(t∈l∧zaD (zlY env l t0) t=zaD env t)∨zaD (zlY env l t0) t=zaD t0 t
 | [], t0,t=> .inr rfl
 | i::l,t0,t=>by
  unfold zlY;rcases zdV (env:=env) l (t0.set i (getE env i)) t with ⟨h1,h2⟩|h
  ·exact .inl ⟨List.mem_cons_of_mem _ h1,h2⟩
  ·rw [h,za2];by_cases hi:t=i
   ·rw [if_pos hi,zl5,hi];exact .inl ⟨List.mem_cons_self ..,rfl⟩
   ·rw [if_neg hi];exact .inr rfl
theorem zcr: ∀(l:List (Nat×AV)) (t0:T AV) (t:Nat),(∃v,(t,v)∈l∧zaD (setE l t0) t=v)∨zaD (setE l t0) t=zaD t0 t
 | [], t0,t=> .inr rfl
 | p::l,t0,t=>by
  unfold setE;rcases zcr l (t0.set p.1 p.2) t with ⟨v,h1,h2⟩|h
  ·exact .inl ⟨v,List.mem_cons_of_mem _ h1,h2⟩
  ·rw [h,za2];by_cases hi:t=p.1
   ·rw [if_pos hi];exact .inl ⟨p.2,by rw [hi];exact List.mem_cons_self ..,rfl⟩
   ·rw [if_neg hi];exact .inr rfl
theorem zet {N:Nat}: ∀ {l:List (Nat×AV)},zbr N l=true→ ∀s∈l,s.1<N
 | [], _,s,h=>by cases h
 | p::l,hl,s,h=>by
  unfold zbr at hl;split at hl
  ·rename_i hb;rcases List.mem_cons.1 h with rfl|h
   ·rwa [Nat.blt_eq] at hb
   ·exact zet hl s h
  ·cases hl
theorem zie {N:Nat}: ∀ {l:List Nat},znq N l=true→ ∀s∈l,s<N
 | [], _,s,h=>by cases h
 | p::l,hl,s,h=>by
  unfold znq at hl;split at hl
  ·rename_i hb;rcases List.mem_cons.1 h with rfl|h
   ·rwa [Nat.blt_eq] at hb
   ·exact zie hl s h
  ·cases hl
theorem zip {N:Nat}: ∀ {l:List LEnd},znK N l=true→ ∀d∈l,zbr N d.slots=true
 | [], _,s,h=>by cases h
 | p::l,hl,s,h=>by
  unfold znK at hl;split at hl
  ·rename_i hb;rcases List.mem_cons.1 h with rfl|h
   ·exact hb
   ·exact zip hl s h
  ·cases hl
theorem zfQ {N:Nat} {env:T AV}: ∀ {l:List (Nat×AV)},zgj N env l=true→ ∀s∈l,s.1<N∧zaD env s.1=s.2∧s.2≠ .junk
 | [], _,s,h=>by cases h
 | p::l,hl,s,h=>by
  unfold zgj at hl;split at hl
  ·rename_i hb hv hj;rcases List.mem_cons.1 h with rfl|h
   ·exact ⟨by rwa [Nat.blt_eq] at hb,by rw [←zl5];exact AV.beq_eq hv,fun e=>by rw [e] at hj;cases hj⟩
   ·exact zfQ hl s h
  ·cases hl
theorem zki: ∀ {l m:List Nat},znj l m=true→l=m
 | [], [], _=>rfl
 | a::l,b::m,h=>by
  unfold znj at h;split at h
  ·rename_i hb;rw [zaj hb,zki h]
  ·cases h
 | [], _::_,h=>by cases h
 | _::_,[],h=>by cases h
theorem zbX: ∀ {l:List (Nat×AV)},zaR l=true→ ∀s∈l,s.2.small=true
 | [], _,s,h=>by cases h
 | p::l,hl,s,h=>by
  unfold zaR at hl;split at hl
  ·rename_i hb;rcases List.mem_cons.1 h with rfl|h
   ·exact hb
   ·exact zbX hl s h
  ·cases hl
theorem zdv: ∀ {l:List LEnd},zc7 l=true→ ∀d∈l,d.test.small=true∧zaR d.slots=true
 | [], _,s,h=>by cases h
 | p::l,hl,s,h=>by
  unfold zc7 at hl;split at hl
  ·rename_i hb hc;rcases List.mem_cons.1 h with rfl|h
   ·exact ⟨hb,hc⟩
   ·exact zdv hl s h
  ·cases hl
theorem zia {ρ:Val} {α:Type} (e:SB×α) (l:List (SB×α)):ziX ρ (e::l)=if e.1.den ρ=true then some e.2 else ziX ρ l:=by
 obtain ⟨b,x⟩:=e;show (match b with| .lit true=>some x|b=>if b.den ρ=true then some x else ziX ρ l)=_;split
 ·rfl
 ·rfl
theorem zib {ρ:Val} (e:LEnd) (l:List LEnd):zqu ρ (e::l)=if e.test.den ρ=true then some e else zqu ρ l:=zia _ _
theorem zkf {ρ:Val}: ∀ {l:List LEnd} {d:LEnd},zqu ρ l=some d→d∈l
 | [], d,h=>by cases h
 | e::l,d,h=>by
  rw [zib] at h;split at h
  ·cases h;exact List.mem_cons_self ..
  ·exact List.mem_cons_of_mem _ (zkf h)
theorem zkg {ρ:Val} {m:Nat→Bool} {e:LEnt} {N:Nat} {env:T AV} {H:Heap}: ∀ {l:List LEnd} {d:LEnd},zc7 l=true→zqu ρ l=some d→ziX (ρ.mark m) (e.ans N env H l)=some (d.ex,e.env d N env,(e.ent d).heap H)
 | [], d,_,h=>by cases h
 | e0::l,d,hs,h=>by
  have hs0:=(zdv hs e0 (List.mem_cons_self ..)).1;unfold zc7 at hs;split at hs
  case h_2=>cases hs
  rw [zib] at h;unfold LEnt.ans;rw [zia];simp only [SB.den_mark ρ m _ hs0];split at h
  ·rename_i ht;cases h;rw [if_pos ht]
  ·rename_i ht;rw [if_neg ht];exact zkg hs h
theorem zoO {P:Program} {ρ:Val} {w0:World} {K:Nat→Prop} {g:Gho} (m:Nat→Bool) {l:List LEnt} (hs:za1 l=true) (h:zqL P ρ w0 K g l):zn9 P (ρ.mark m) (cxOf w0 K g) (zb8 l):=by
 refine ⟨fun _ _ _ _=>rfl,fun p N env H r c hc hr j a w hi he=> ?_⟩;unfold zb8 at hr;split at hr
 ·cases hr
 induction l with
 | nil=>cases hr
 | cons e l ih=>
  unfold za1 at hs;split at hs
  case h_2=>cases hs
  rename_i h1 h2 h3;unfold zqQ at hr;split at hr
  case h_2=>exact ih hs h.2 hr
  rename_i hf;cases hr;unfold LEnt.fits at hf;split at hf
  ·cases hf
  ·cases hf
  rename_i hp hN;have hp:=zki hp;have hN:=zaj hN;subst hp hN;split at hf
  case h_2=>cases hf
  rename_i f1 f2 f3 f4;split at hf
  case h_2=>cases hf
  rename_i f5 f6 f7;have f4:=zaj f4;have f6:=Nat.le_of_ble_eq_true f6;have hdf:a.defers= []:=he.dfr.none (by unfold zaD;rw [f5]);have hG:=hi.gho;rw [f4] at hG;obtain ⟨F,g1,g2⟩:=hG;have hnone: ∀k,H.nx≤k→j k= .none:=fun k hk=>by
   cases hjk:j k with
   | none=>rfl
   | some L=>have:=hi.dom k L hjk;omega
  have hbase:e.nopq≠0→H.nx=e.base:=fun hn=>by
   split at hf
   ·rename_i h0;exact absurd h0 hn
   ·exact zaj hf
  have hss:=zbX h1;have hsl: ∀s∈e.slots,s.1<e.n∧R ρ j s.2 (a.tmps.getD s.1 undef):=fun s hs'=>by
   obtain ⟨q1,q2,q3⟩:=zfQ f1 s hs';refine ⟨q1,?_⟩;have:=he.get s.1 (by omega);rw [q2] at this;exact (R_mark m (hss s hs')).1 (this.resolve_left q3)
  have hrw: ∀r∈e.rows,∀L,j r.1=some L→ ¬F L.blk∧ ∃vals,RL ρ j r.2 vals∧Row w L vals:=fun r hr L hL=>by
   have hri:=zbR f7 hr;obtain ⟨vals,arr,e',fr,q1,q2,q3,_⟩:=hi.rowOut hL hri;refine ⟨fun hF=> ?_,vals,(RL_mark m (zeS h3 r hr)).1 q2,arr,e',fr,q1,q3⟩;obtain ⟨_,_,_,_,_,_,h5,_⟩:=zd1 hri;exact (g1 _ hF).2 ⟨r.1,L,hL,hi.qrow hL h5,rfl⟩
  refine wp_mono (h.1 c hc j a w F H.nx he.size hdf hsl hrw hnone hbase (fun b hF=>(g1 b hF).1) hi.fr.size g2 hi.fr.old) fun ex a' w' hh=> ?_;obtain ⟨d,qs,F',e1,e2,e3,e4,e5,e6,e7,e8,e9,e10⟩:=hh;have hd:=zkf e1;have hns:(cxOf w0 K g).G (e.ent d).gs' (jq j H.nx qs) w':=⟨F',fun b hF'=>⟨(e9 b hF').1,fun hm=>by
   have hm:=zlJ hnone hm;rcases (e9 b hF').2 with hF|hF
   ·exact (g1 b hF).2 hm
   ·obtain ⟨k,L,k1,k2,k3⟩:=hm;have:=hi.blk k L k1 k2;omega⟩,e8⟩
  obtain ⟨i1,i2⟩:=Inv.ent (e:=e.ent d) hi f4 e6 hns (e10.mono fun b hb=>⟨(g1 b hb.1).2,hb.2⟩);refine ⟨d.ex,e.env d e.n env,(e.ent d).heap H,jq j H.nx qs,zkg h2 e1,e2,⟨e3,f6,fun t ht=> ?_,?_⟩,i1,i2⟩
  ·unfold LEnt.env;have hds:=(zdv h2 d hd).2;rcases zcr d.slots (zlY env e.keep (zdo e.n .leaf)) t with ⟨v,q1,q2⟩|q
   ·rw [q2];exact .inr ((R_mark m (zbX hds _ q1)).2 (e7 _ q1))
   ·rw [q];rcases zdV (env:=env) e.keep (zdo e.n .leaf) t with ⟨q1,q2⟩|q
    ·rw [q2,e5 t q1];exact (he.get t ht).imp_right (·.mono i2.sub)
    ·rw [q,zb5];by_cases hN:t<e.n
     ·rw [if_pos hN];exact .inl rfl
     ·rw [if_neg hN,Array.getD_eq_getD_getElem?,Array.getElem?_eq_none (by omega)];exact .inr zcv
  ·rw [e4];show DR (ρ.mark m) _ (zaD (e.env d e.n env) zaZ) [];have:zaD (e.env d e.n env) zaZ=zbq:=by
    unfold LEnt.env;rcases zcr d.slots (zlY env e.keep (zdo e.n .leaf)) zaZ with ⟨v,q1,_⟩|q
    ·have:=zet (zip f3 d hd) _ q1;simp only at this;omega
    ·rw [q];rcases zdV (env:=env) e.keep (zdo e.n .leaf) zaZ with ⟨q1,_⟩|q
     ·have:=zie f2 _ q1;omega
     ·rw [q,zb5,if_neg (by omega)];rfl
   rw [this];rfl
structure AEnt where
 t:TypeId
 s:AV
 n:Nat
 xs:List AV
 gs:Nat
 base:Nat
 nopq:Nat
 res:AV
 gs':Nat
def AEnt.ent (e:AEnt):Ent:=⟨0,[],e.gs,e.base,e.nopq,e.res,e.gs'⟩
def AEnt.fits (e:AEnt) (t:TypeId) (s:AV) (n:Nat) (xs:List AV) (H:Heap):Bool:=
 match Nat.beq t e.t,AV.beq s e.s,Nat.beq n e.n,Nat.beq H.gs e.gs with
 | true,true,true,true=>(match AV.beqL xs e.xs with
  | true=>(match e.nopq with
   | 0=>true
   | _+1=>Nat.beq H.nx e.base)
  | false=>false)
 | _,_,_,_=>false
def zbV:List AEnt→AOrc
 | [], _,_,_,_,_=>none
 | e::l,t,s,n,xs,H=>match e.fits t s n xs H with
  | true=>some (e.res,e.ent.heap H)
  | false=>zbV l t s n xs H
def zxw (P:Program) (ρ:Val) (w0:World) (K:Nat→Prop) (g:Gho) (e:AEnt):Prop:=
 ∀ (j:J) (w:World) (F:Nat→Prop) (n:Nat) (us:Value) (bb o cap:Nat) (vals:List Value) (ty:TypeId),R ρ j e.s us→zr3 w bb o vals→RL ρ j e.xs vals→(∀k,n≤k→j k=none)→(e.nopq≠0→n=e.base)→(∀b,F b→b<w.heap.size)→w0.heap.size≤w.heap.size→g.fact e.gs (opqs j) F w→
  ∃ u w' qs F',(Builtin.append_ #[e.t,e.t] ty #[us,.slice (some ⟨bb,o,none⟩) e.n cap]).run P w= .ok u w'∧qs.length=e.nopq∧R ρ (jq j n qs) e.res u∧g.fact e.gs' (opqs (jq j n qs)) F' w'∧(∀b,F' b→b<w'.heap.size∧(F b∨w.heap.size≤b))∧Mv (fun b=>F b∧(w0.heap.size≤b∨K b)) w w'
def zrP (P:Program) (ρ:Val) (w0:World) (K:Nat→Prop) (g:Gho):List AEnt→Prop
 | [] => True
 | e::l=>zxw P ρ w0 K g e∧zrP P ρ w0 K g l
def za3:List AEnt→Bool
 | [] => true
 | e::l=>match e.s.small,AV.smallL e.xs,e.res.small with|true,true,true=>za3 l|_,_,_=>false
theorem zo9 {P:Program} {ρ:Val} {w0:World} {K:Nat→Prop} {g:Gho} (m:Nat→Bool) {l:List AEnt} (hs:za3 l=true) (h:zrP P ρ w0 K g l):zr4 P (ρ.mark m) (cxOf w0 K g) (zbV l):=by
 intro t s n xs H r hr k hk j w us bb o cap vals ty hi hus hv hxs
 induction l with
 | nil=>cases hr
 | cons e l ih=>
  unfold za3 at hs;split at hs
  case h_2=>cases hs
  rename_i h1 h2 h3;unfold zbV at hr;split at hr
  case h_2=>exact ih hs h.2 hr
  rename_i hf;cases hr;unfold AEnt.fits at hf;split at hf
  case h_2=>cases hf
  rename_i f1 f2 f3 f4;split at hf
  case h_2=>cases hf
  rename_i f5;have f1:=zaj f1;have f2:=AV.beq_eq f2;have f3:=zaj f3;have f4:=zaj f4;have f5:=AV.beqL_eq f5;subst f1 f2 f3 f5;have hG:=hi.gho;rw [f4] at hG;obtain ⟨F,g1,g2⟩:=hG;have hnone: ∀k,H.nx≤k→j k= .none:=fun k hk=>by
   cases hjk:j k with
   | none=>rfl
   | some L=>have:=hi.dom k L hjk;omega
  have hbase:e.nopq≠0→H.nx=e.base:=fun hn=>by
   split at hf
   ·rename_i h0;exact absurd h0 hn
   ·exact zaj hf
  obtain ⟨u,w',qs,F',e1,e2,e3,e4,e5,e6⟩:=h.1 j w F H.nx us bb o cap vals ty ((R_mark m h1).1 hus) hv ((RL_mark m h2).1 hxs) hnone hbase (fun b hF=>(g1 b hF).1) hi.fr.size g2;have hns:(cxOf w0 K g).G e.ent.gs' (jq j H.nx qs) w':=⟨F',fun b hF'=>⟨(e5 b hF').1,fun hm=>by
   have hm:=zlJ hnone hm;rcases (e5 b hF').2 with hF|hF
   ·exact (g1 b hF).2 hm
   ·obtain ⟨k,L,k1,k2,k3⟩:=hm;have:=hi.blk k L k1 k2;omega⟩,e4⟩
  obtain ⟨i1,i2⟩:=Inv.ent (e:=e.ent) hi f4 e2 hns (e6.mono fun b hb=>⟨(g1 b hb.1).2,hb.2⟩);exact ⟨u,w',e1,e.res,e.ent.heap H,jq j H.nx qs,(R_mark m h3).2 e3,i1,i2,hk⟩
structure zfe where
 ex:Ex
 slots:List Nat
 dfr:Option AV
 leaf:Leaf
def exEq:Ex→Ex→Bool
 | .normal,.normal=>true
 | .ret,.ret=>true
 | .exit a,.exit b=>Nat.beq a b
 | _,_=>false
def zra (env:T AV):List Nat→List AV
 | [] => []
 | t::l=>getE env t::zra env l
def zik (env:T AV):List Nat→Bool
 | [] => true
 | t::l=>match Nat.blt t zaZ,zqE (getE env t) with|true,true=>zik env l|_,_=>false
def znN (env:T AV) (d:Option AV):Bool:=
 match env.get zaZ,d with
 | none,none=>true
 | some v,some u=>AV.beq v u
 | _,_=>false
def DRo (ρ:Val) (j:J):Option AV→List Deferred→Prop
 | none,ds=>ds= []
 | some v,ds=>DR ρ j v ds
def zbx:Option AV→Bool
 | none=>true
 | some v=>v.small
def zbA:List zfe→Nat→KC
  | [], _, _, _, _ => .bad 95 ""
  | l::r,i,ex,env,H=>match exEq ex l.ex,znN env l.dfr,zik env l.slots with
    | true,true,true=>(match l.leaf.fits (.tup (zra env l.slots)) H with
      | true => zdA (1000000 + i) fun n => .ite (.var n) .ok (.bad 96 "")
      | false=>zbA r (Nat.succ i) ex env H)
    | _,_,_=>zbA r (Nat.succ i) ex env H
def envS (N:Nat) (slots:List (Nat×AV)) (d:Option AV):T AV:=
 match d with
 | none=>setE slots (zdo N .leaf)
 | some v=>(setE slots (zdo N .leaf)).set zaZ v
def zaQ:List zfe→Bool
 | [] => true
 | l::r=>match zan [l.leaf],zbx l.dfr with|true,true=>zaQ r|_,_=>false
theorem zdY: ∀ {ls:List zfe} {i:Nat} {l:zfe},zaQ ls=true→ls[i]? =some l→zan [l.leaf]=true∧zbx l.dfr=true
 | [], _,_,_,h=>by cases h
 | x::r,i,l,hx,h=>by
  unfold zaQ at hx;split at hx
  case h_2=>cases hx
  rename_i h1 h2;cases i with
  | zero=>cases h;exact ⟨h1,h2⟩
  | succ i=>exact zdY hx (by simpa using h)
theorem zvI {a b:Ex} (h:exEq a b=true):a=b:=by
 cases a<;>cases b<;>simp only [exEq] at h<;>first|rfl|cases h|rw [zaj h]
theorem zhv {ρ:Val} {ex:Ex} {env:T AV} {H:Heap}: ∀ {ls:List zfe} {i:Nat},Ob.den ρ (zbA ls i ex env H)→ ∃k l,ls[k]? =some l∧ex=l.ex∧znN env l.dfr=true∧zik env l.slots=true∧l.leaf.fits (.tup (zra env l.slots)) H=true∧ρ.b (1000000+(i+k))=true
 | [], i,h=>h.elim
 | l::r,i,h=>by
  unfold zbA at h;have later:Ob.den ρ (zbA r (Nat.succ i) ex env H)→ ∃k l',(l::r)[k]? =some l'∧ex=l'.ex∧znN env l'.dfr=true∧zik env l'.slots=true∧l'.leaf.fits (.tup (zra env l'.slots)) H=true∧ρ.b (1000000+(i+k))=true:=fun h=>by
   obtain ⟨k,l',h1,h2,h3,h4,h5,h6⟩:=zhv h;exact ⟨k+1,l',h1,h2,h3,h4,h5,by rw [show i+(k+1)=Nat.succ i+k by omega];exact h6⟩
  split at h
  ·rename_i e1 e2 e3;split at h
   ·rename_i hf;rw [zbK] at h;refine ⟨0,l,rfl,zvI e1,e2,e3,hf,?_⟩;cases hb:ρ.b (1000000+(i+0)) with
    | true=>rfl
    | false=>exact (h.2 hb).elim
   ·exact later h
  ·exact later h
theorem zq9 {ρ:Val} {j:J} {N:Nat} {env:T AV} {a:Act} (he:ER ρ j N env a): ∀ {l:List Nat},zik env l=true→RL ρ j (zra env l) (l.map fun t=>a.tmps.getD t undef)
 | [], _=>RL.nil
 | t::l,h=>by
  unfold zik at h;split at h
  case h_2=>cases h
  rename_i h1 h2;rw [Nat.blt_eq] at h1;exact zao ((he.get t (by omega)).resolve_left fun e=>by rw [zl5,e] at h2;cases h2) (zq9 he h)
theorem zkS {N:Nat} {slots:List (Nat×AV)} (hle:N≤zaZ) (hlt:zbr N slots=true):zaD (setE slots (zdo N .leaf)) zaZ=zbq:=by
 rcases zcr slots (zdo N .leaf) zaZ with ⟨v,q1,_⟩|q
 ·have:=zet hlt _ q1;simp only at this;omega
 ·rw [q,zb5,if_neg (by omega)];rfl
theorem zvM {ρ:Val} {j:J} {N:Nat} {slots:List (Nat×AV)} {d:Option AV} {a:Act} (hN:a.tmps.size=N) (hd:DRo ρ j d a.defers) (hle:N≤zaZ) (hlt:zbr N slots=true) (ha: ∀s∈slots,R ρ j s.2 (a.tmps.getD s.1 undef)):ER ρ j N (envS N slots d) a:=by
 have get: ∀t,t≠zaZ→zaD (setE slots (zdo N .leaf)) t= .junk∨R ρ j (zaD (setE slots (zdo N .leaf)) t) (a.tmps.getD t undef):=fun t ht=>by
  rcases zcr slots (zdo N .leaf) t with ⟨v,q1,q2⟩|q
  ·rw [q2];exact .inr (ha _ q1)
  ·rw [q,zb5];by_cases h:t<N
   ·rw [if_pos h];exact .inl rfl
   ·rw [if_neg h,Array.getD_eq_getD_getElem?,Array.getElem?_eq_none (by omega)];exact .inr zcv
 cases d with
 | none=>
  have hd:a.defers= []:=hd;refine ⟨hN,hle,get,?_⟩;show DR ρ j (zaD (setE slots (zdo N .leaf)) zaZ) _;rw [hd,zkS hle hlt];rfl
 | some v=>
  refine ⟨hN,hle,fun t ht=> ?_,?_⟩
  ·show zaD ((setE slots (zdo N .leaf)).set zaZ v) t= .junk∨R ρ j (zaD ((setE slots (zdo N .leaf)).set zaZ v) t) _;rw [za2,if_neg ht];exact get t ht
  ·show DR ρ j (zaD ((setE slots (zdo N .leaf)).set zaZ v) zaZ) _;rw [za2,if_pos rfl];exact hd
theorem zmt {ρ:Val} {j:J} (m:Nat→Bool): ∀ {ds:List Deferred} {v:AV},v.small=true→(DR (ρ.mark m) j v ds↔DR ρ j v ds)
 | [], _,_=>Iff.rfl
 | _::ds,v,hs=>by
  constructor
  ·rintro ⟨g,args,rest,cap,rfl,e2,e3,e4⟩;unfold AV.small AV.smallL at hs;split at hs
   case h_2=>cases hs
   rename_i h1;unfold AV.small at h1;split at h1
   case h_2=>cases h1
   unfold AV.smallL at hs;split at hs
   case h_2=>cases hs
   rename_i h2;exact ⟨g,args,rest,cap,rfl,e2,(RL_mark m h1).1 e3,(zmt m h2).1 e4⟩
  ·rintro ⟨g,args,rest,cap,rfl,e2,e3,e4⟩;unfold AV.small AV.smallL at hs;split at hs
   case h_2=>cases hs
   rename_i h1;unfold AV.small at h1;split at h1
   case h_2=>cases h1
   unfold AV.smallL at hs;split at hs
   case h_2=>cases hs
   rename_i h2;exact ⟨g,args,rest,cap,rfl,e2,(RL_mark m h1).2 e3,(zmt m h2).2 e4⟩
theorem zob {ρ:Val} {j:J} (m:Nat→Bool) {ds:List Deferred} {v:Option AV} (hs:zbx v=true):DRo (ρ.mark m) j v ds↔DRo ρ j v ds:=by
 cases v with
 | none=>exact Iff.rfl
 | some v=>exact zmt m hs
theorem zb0 {P:Program} {ρ:Val} {w:World} {K:Nat→Prop} {g:Gho} {bl:List (Nat×Nat)} {shs:List Sh} {gs:Nat} {ents:List Ent} {lents:List LEnt} {aents:List AEnt} {n:Nat} {p:List Nat} {N:Nat} {slots:List (Nat×AV)} {dfr:Option AV} {ls:List zfe} {asm:List (SB×Bool)} {ps:List (List (SB×Bool)×Nat)}
  (hmo:P.follows .mixedOrders=true)
  (h:(evL P (zaY ents) (zb8 lents) (zbV aents) n (.code (zbf P p) p N (envS N slots dfr) (zaV gs shs) (zbA ls 0))).ways asm=some ps)
  (hs:(zaB shs&&zap ents&&za1 lents&&za3 aents&&zaR slots&&zaQ ls&&zbr N slots&&Nat.ble N zaZ&&zbx dfr)=true)
  (hK: ∀b,K b→b<w.heap.size) (ho:ShsOk ρ (jOf bl) (cxOf w K g) bl shs) (hap:apart bl shs) (hG:g.G gs (jOf bl) w) (he:znG P ρ w K g ents) (hl:zqL P ρ w K g lents) (haa:zrP P ρ w K g aents)
  {a:Act} (hN:a.tmps.size=N) (hd:DRo ρ (jOf bl) dfr a.defers) (ha: ∀s∈slots,R ρ (jOf bl) s.2 (a.tmps.getD s.1 undef)) (ht:Told ρ asm):
  (zbf P p).wp P (fun ex a' w'=> ∃q∈ps,Told ρ q.1∧ ∃l,ls[q.2]? =some l∧ex=exOf l.ex∧a'.tmps.size=N∧ ∃j,DRo ρ j l.dfr a'.defers∧zpc ρ w K g bl l.leaf (.returned (.tuple (l.slots.map fun t=>a'.tmps.getD t undef).toArray)) w' j) a w:=by
 simp only [Bool.and_eq_true] at hs;obtain ⟨⟨⟨⟨⟨⟨⟨⟨s1,s2⟩,s5⟩,s9⟩,s3⟩,s4⟩,s6⟩,s7⟩,s8⟩:=hs;have s7:=Nat.le_of_ble_eq_true s7;unfold Ob.ways at h;cases hps:(evL P (zaY ents) (zb8 lents) (zbV aents) n (.code (zbf P p) p N (envS N slots dfr) (zaV gs shs) (zbA ls 0))).paths asm with
 | none=>rw [hps] at h;cases h
 | some ps0=>
 rw [hps] at h;cases h;have h:=hps
 classical
 let m:Nat→Bool:=fun k=>decide (∃p∈ps0,1000000+p.2=k∧Told ρ p.1)
 have hm: ∀p∈ps0,Told ρ p.1→m (1000000+p.2)=true:=fun p hp ht=>by
  show decide _=true;exact decide_eq_true ⟨p,hp,rfl,ht⟩
 have hdn:=paths_den hm h (fun q hq=>hq) ht;have hg:=zjl (w0:=cxOf w K g) (zkT (zeA m s2 he)) (zoO m s5 hl) (zo9 m s9 haa) (fun n rec hg=>zqr hmo hg) n;refine wp_mono (hg.code _ _ _ _ _ _ rfl hdn (jOf bl) a w (zkG hK (zfM m s1 ho) hap hG) (zvM hN ((zob m s8).2 hd) s7 s6 fun s hs=>(R_mark m (zbX s3 s hs)).2 (ha s hs))) fun ex a' w' hh=> ?_;obtain ⟨x,env',H',j',rfl,h1,h2,h3,h4⟩:=hh;obtain ⟨k,l,h5,h6,h7,h8,h9,h10⟩:=zhv h4;have h10:(if 1000000+(0+k)<1000000 then ρ.b (1000000+(0+k)) else m (1000000+(0+k)))=true:=h10;rw [if_neg (by omega)] at h10;obtain ⟨q,hq,hk,hto⟩:=of_decide_eq_true h10;have:q.2=k:=by omega
 subst this;obtain ⟨y1,y2⟩:=zdY s4 h5;obtain ⟨x1,x2,x3,x4⟩:=zcM (i:=0) y1 rfl;refine ⟨(q.1.drop asm.length,q.2),zeB hq,fun c hc=>hto c (List.mem_of_mem_drop hc),l,h5,by rw [h6],h1.size,j',(zob m y2).1 ?_,znL x1 x2 x3 x4 (zxt (zq9 h1 h8)) h2 h3 h9⟩;have hdf:=h1.dfr;unfold znN at h7;unfold zaD at hdf;split at h7
 ·rename_i e1 e2;rw [e1] at hdf;rw [e2];exact hdf.none rfl
 ·rename_i v u e1 e2;rw [e1] at hdf;rw [e2,←AV.beq_eq h7];exact hdf
 ·cases h7
theorem zg7 {P:Program} {c:Code} {Q:Exit→Act→World→Prop} {α:Type} (I:α→Act→World→Prop) (μ:α→Nat)
  (h: ∀x a w,I x a w→c.wp P (fun ex a' w'=>match ex with| .normal=> ∃x',μ x'<μ x∧I x' a' w'|ex=>Q ex a' w') a w) (x:α) (a:Act) (w:World) (hI:I x a w):(Code.loop c).wp P Q a w:=by
 have key: ∀n x a w,μ x<n→I x a w→Code.rounds P c Q n a w:=by
  intro n
  induction n with
  | zero=>intro x a w hn;omega
  | succ n ih=>
   intro x a w hn hI;refine wp_mono (h x a w hI) fun ex a' w' hh=> ?_;cases ex with
   | normal=>
    obtain ⟨x',h1,h2⟩:=hh;exact ih x' a' w' (by omega) h2
   | _=>exact hh
 exact wp_loop_rounds (μ x+1) (key (μ x+1) x a w (Nat.lt_succ_self _) hI)
end Go.Dw
namespace Go.Proofs
open Go.Dw Go.RowKit
def Tryz.ckL (l:List (SE×Nat)):AV:= .sx 0 (lnv 0) 3 l
def Tryz.ckD:AV:= .tup [.func 137 [] [.ptr 1 0,.ptr 2 0],.tup []]
def Tryz.zfF (k:SE) (l:List (SE×Nat)):List (Nat×AV):= [(0,ckL l),(2,.ptr 1 0),(3,.ptr 2 0),(10,ckL l),(11,.int .i64 (lnv 0)),(12,.int .i64 k)]
def Tryz.ztA (e:SE) (r:List Sh):List Sh:= .own [.int .i64 e]:: .own [.int .u64 (u64v 2)]::r
def Tryz.ckEl (a n b:Nat):Sh:= .ro [.int .u64 (u64v a),.int .u32 (u32v n),.bool (.var b)]
end Go.Proofs
end
