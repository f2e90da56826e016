/-
  DwOut: the tokens of the chains that are out, sorted (the split driver's Out), met by a contract.
-/
import Derived.Test.YtfpklobgecgnpaaGreatDwOrc
namespace Go.Dw
set_option linter.unusedSimpArgs false
set_option linter.unusedVariables false
noncomputable section

/-- How a chain's pointer reads: as its token, as it lies in a world. -/
def rdTok (w : World) (v : Value) : Option (DataW Unit × List MemPlace) :=
  match v with
  | .pointer (some ⟨B, O, none⟩) => (match w.cell? ⟨B, O, none⟩ with
    | some (.int .i64 z) => some (.lit (.int .i64 z), [])
    | _ => none)
  | _ => none
theorem rdTok_inv {w : World} {v : Value} {y : DataW Unit × List MemPlace} (h : rdTok w v = some y) : ∃ (p : Nat × Nat) (z : Int), v = .pointer (some ⟨p.1, p.2, none⟩) ∧ w.cell? ⟨p.1, p.2, none⟩ = some (.int .i64 z) ∧ y = (.lit (.int .i64 z), []) := by
  unfold rdTok at h
  split at h
  case h_2 => cases h
  rename_i B O
  split at h
  case h_2 => cases h
  rename_i z hz
  cases h
  exact ⟨(B, O), z, rfl, hz, rfl⟩
def numD : DataW Unit → Int
  | .lit (.int _ z) => z
  | _ => 0
def tokOf (D : DataW Unit) (x : Int) : Int := numD (D.atKey (.int .i64 x) .nil)
theorem size_keys {P : Program} {k : TypeId} {R : Value → Option (DataW Unit × List MemPlace)} {b n : Nat} {D : DataW Unit} {w : World} (h : w.ownsMap P k R b n D) : (intKeys D).length = Maps.size D := by
  obtain ⟨es, clock, _, _, _, rfl⟩ := h
  show (List.map _ _).length = List.length _
  rw [List.length_map]

/-- A map whose values are such pointers reads as a datum; its tokens by its keys. -/
theorem ownsMap_tok {P : Program} {w : World} {k : TypeId} (hk : P.underlying k = some (.int .i64)) {b : Nat} {es : Array MapEntry} {clock : Nat} {ks ts : List Int} (hb : w.heap[b]? = some (.map es clock)) (hst : MapKept.Stamped es clock)
    (hkeys : es.toList.map (·.key) = ks.map encZ) (hwf : ∀ x ∈ ks, (Lit.int .i64 x).wf = true) (hlen : ks.length ≤ 1000000) (hts : es.toList.map (fun e => rdTok w e.val) = ts.map fun z => some (.lit (.int .i64 z), [])) :
    ∃ D0 : DataW Unit, w.ownsMap P k (rdTok w) b es.size D0 ∧ ((intKeys D0).map (tokOf D0)).Perm ts ∧ Maps.size D0 = ks.length := by
  have hl : es.toList.length = ks.length := by have := congrArg List.length hkeys; simpa using this
  have hkey : ∀ x ∈ es.toList, ∃ a, x.key = encZ a ∧ (Lit.int .i64 a).wf = true := fun x hx => by
    have : x.key ∈ ks.map encZ := by rw [← hkeys]; exact List.mem_map_of_mem hx
    obtain ⟨a, ha, e⟩ := List.mem_map.1 this
    exact ⟨a, e.symm, hwf a ha⟩
  have htok : ∀ x ∈ es.toList, ∃ z, rdTok w x.val = some (.lit (.int .i64 z), []) := fun x hx => by
    have : rdTok w x.val ∈ es.toList.map (fun e => rdTok w e.val) := List.mem_map_of_mem (f := fun e : MapEntry => rdTok w e.val) hx
    rw [hts] at this
    obtain ⟨z, _, e⟩ := List.mem_map.1 this
    exact ⟨z, e.symm⟩
  have hrd : ∀ x ∈ es.toList, ∀ a z, x.key = encZ a → (Lit.int .i64 a).wf = true → rdTok w x.val = some (.lit (.int .i64 z), []) → WideElems.rd P k (rdTok w) x = some (.int .i64 a, .lit (.int .i64 z)) := fun x _ a z e hw ht => by
    unfold WideElems.rd
    rw [e, Maps.keyOf_int_mk hk hw, ht]
    rfl
  have hrg : ∀ x ∈ es.toList, ∃ a z, x.key = encZ a ∧ rdTok w x.val = some (.lit (.int .i64 z), []) ∧ WideElems.rg P k (rdTok w) x = (.int .i64 a, .lit (.int .i64 z)) := fun x hx => by
    obtain ⟨a, e, hw⟩ := hkey x hx
    obtain ⟨z, hz⟩ := htok x hx
    exact ⟨a, z, e, hz, by simp only [WideElems.rg, hrd x hx a z e hw hz, Option.getD_some]⟩
  have hperm := WideShapes.sorted_perm (es.toList.map (WideElems.rg P k (rdTok w)))
  refine ⟨_, ⟨es, clock, hb, ⟨?_, hst, fun x hx => ?_⟩, Nat.le_refl _, rfl⟩, ?_, ?_⟩
  · rw [← Array.length_toList, hl]
    unfold maxLen
    omega
  · obtain ⟨a, e, hw⟩ := hkey x hx
    obtain ⟨z, hz⟩ := htok x hx
    exact ⟨_, hrd x hx a z e hw hz⟩
  · generalize hS : (es.toList.map (WideElems.rg P k (rdTok w))).foldr DataW.insert [] = S at hperm ⊢
    have hap : S.Pairwise (fun p q => p.1 ≠ q.1) := by
      refine (hperm.pairwise_iff (fun {p q} h => Ne.symm h)).2 ?_
      refine List.pairwise_map.2 (List.Pairwise.imp_of_mem (fun {x y} hx hy hne e => ?_) (List.pairwise_map.1 hst.2.2))
      obtain ⟨a, _, ea, _, ra⟩ := hrg x hx
      obtain ⟨a', _, ea', _, ra'⟩ := hrg y hy
      rw [ra, ra'] at e
      have e : a = a' := by simpa using e
      exact hne (by rw [ea, ea', e])
    have hent : ∀ p ∈ S, ∃ a z, p = (.int .i64 a, .lit (.int .i64 z)) := fun p hp => by
      obtain ⟨x, hx, rfl⟩ := List.mem_map.1 (hperm.mem_iff.1 hp)
      obtain ⟨a, z, _, _, ra⟩ := hrg x hx
      exact ⟨a, z, ra⟩
    have e1 : (intKeys (DataW.map S)).map (tokOf (DataW.map S)) = S.map fun p => numD p.2 := by
      show (S.map fun p => Go.intOf p.1).map _ = _
      rw [List.map_map]
      refine List.map_congr_left fun p hp => ?_
      obtain ⟨a, z, rfl⟩ := hent p hp
      show numD ((DataW.map S).atKey (.int .i64 a) .nil) = z
      rw [WideAt.atKey_mem (k := .int .i64 a) (d := .lit (.int .i64 z)) _ (show WideAt.IsKeyLit (.int .i64 a) from trivial) hap hp]
      rfl
    rw [e1]
    refine (hperm.map fun p => numD p.2).trans ?_
    have e2 : (es.toList.map (WideElems.rg P k (rdTok w))).map (fun p => numD p.2) = ts := by
      have e3 : (es.toList.map fun e => rdTok w e.val).map (fun o => numD ((o.getD (.nil, [])).1)) = ts := by
        rw [hts, List.map_map]
        conv => rhs; rw [← List.map_id ts]
        rfl
      rw [← e3, List.map_map, List.map_map]
      refine List.map_congr_left fun x hx => ?_
      obtain ⟨a, z, _, hz, ra⟩ := hrg x hx
      simp only [Function.comp_apply, ra, hz, Option.getD_some]
    rw [e2]
  · show List.length _ = _
    rw [hperm.length_eq, List.length_map, hl]

/-! ### What the machine says of the call -/
/-- The tokens, by the entries' pointers. -/
def tokKEs (H : Heap) : List ME → Option (List KE)
  | [] => some []
  | e :: l => match e.val with
    | .ptr n o => (match H.row n with
      | some v => (match Nat.blt o v.n, v.get o with
        | true, .int .i64 x => (match bnd x with
          | some (p, q) => (match Nat.blt q 9223372036854775808, tokKEs H l with
            | true, some m => some ((x, p, q) :: m)
            | _, _ => none)
          | none => none)
        | _, _ => none)
      | none => none)
    | _ => none
def outKeys (H : Heap) (es : List ME) (clock : Nat) : Option (List KE) :=
  match es with
  | [] => none
  | _ :: _ => (match sortedKeys es clock, tokKEs H es with
    | some _, some ts => sortK ts
    | _, _ => none)
def outOrc (c fo : Nat) (f : FuncId) (args : List AV) (H : Heap) : Option (List (AV × Heap)) :=
  match Nat.beq f c with
  | false => none
  | true => match args with
    | [.ptr d o] => (match H.row d with
      | some v => (match Nat.blt (Nat.add o fo) v.n, v.get (Nat.add o fo) with
        | true, .map m => (match H.mapAt m with
          | some (es, clock) => (match outKeys H es clock with
            | some l => some (sortedAns H l)
            | none => none)
          | none => none)
        | _, _ => none)
      | none => none)
    | _ => none

structure OutOk (P : Program) (c fo : Nat) : Prop where
  enters : Enters P c
  outs : ∀ (w : World) (Bd off b : Nat) (es : Array MapEntry) (clock : Nat) (ks ts : List Int), w.cell? ⟨Bd, off + fo, none⟩ = some (.map (some b)) → w.heap[b]? = some (.map es clock) → MapKept.Stamped es clock →
    es.toList.map (·.key) = ks.map encZ → (∀ x ∈ ks, (Lit.int .i64 x).wf = true) → ks.length ≤ 1000000 → 0 < ks.length → es.toList.map (fun e => rdTok w e.val) = (ts.map fun z => some (.lit (.int .i64 z), [])) →
    Calls P c #[.pointer (some ⟨Bd, off, none⟩)] w fun e w' => ∃ (g cap t : Nat), e = .returned (.slice (some ⟨g, 0, none⟩) ks.length cap) ∧ w'.ownsRow w.heap.size t 1 (.slice (some ⟨g, 0, none⟩) ks.length cap) ks.length ((ts.mergeSort leI).map encZ) ∧ RowKit.Below w.heap.size w w'

section
variable {P : Program} {ρ : Val} {w0 : World} {j : J} {H : Heap} {w w' : World}

theorem tokKEs_eq (hi : Inv ρ w0 j H w) : ∀ {es : List ME} {xs : List MapEntry} {ts : List KE}, tokKEs H es = some ts → RM ρ j es xs → xs.map (fun e => rdTok w e.val) = ((ts.map (denK ρ)).map fun z => some (.lit (.int .i64 z), [])) ∧ (∀ n ∈ ts, okK ρ n)
  | [], xs, ts, h, hr => by
    have e : xs = [] := hr
    subst e
    unfold tokKEs at h; cases h
    exact ⟨rfl, by simp⟩
  | e :: es, _, ts, h, hr => by
    obtain ⟨x, xs, rfl, _, hv, _, hr⟩ := hr
    unfold tokKEs at h
    split at h
    case h_2 => cases h
    rename_i n o hval
    split at h
    case h_2 => cases h
    rename_i v hrow
    split at h
    case h_2 => cases h
    rename_i t hlt hget
    split at h
    case h_2 => cases h
    rename_i p q hb
    split at h
    case h_2 => cases h
    rename_i m hq hm
    cases h
    obtain ⟨h1, h2⟩ := tokKEs_eq hi hm hr
    rw [hval] at hv
    obtain ⟨L, hj, hxv⟩ := hv
    rw [Nat.blt_eq] at hlt hq
    obtain ⟨u, hu, hR⟩ := hi.cell hj hrow hlt
    rw [hget] at hR
    have hR : u = .int .i64 (t.den ρ) := hR
    subst hR
    obtain ⟨y, e1, e2, e3⟩ := bnd_den (ρ := ρ) hb
    refine ⟨?_, fun z hz => ?_⟩
    · simp only [List.map_cons, h1]
      congr 1
      rw [hxv]
      unfold rdTok
      simp only [hu]
      rfl
    · rcases List.mem_cons.1 hz with rfl | hz
      · exact ⟨y, e1, e2, e3, hq⟩
      · exact h2 z hz

theorem outOrc_ok {c fo : Nat} (ho : OutOk P c fo) : OrcOk P ρ w0 (outOrc c fo) := by
  intro f args H l hl
  unfold outOrc at hl
  split at hl
  · cases hl
  rename_i hfc
  have hfc := natBeq hfc
  subst hfc
  split at hl
  case h_2 => cases hl
  rename_i d o
  split at hl
  case h_2 => cases hl
  rename_i vd hrow
  split at hl
  case h_2 => cases hl
  rename_i m hltd hgetd
  split at hl
  case h_2 => cases hl
  rename_i es clock hmap
  split at hl
  case h_2 => cases hl
  rename_i ls hout
  cases hl
  refine ⟨ho.enters, fun k hk j w vals hi hv => ?_⟩
  obtain ⟨u, mm, rfl, hu, hm⟩ := hv
  have e : mm = [] := hm
  subst e
  obtain ⟨L, hj, rfl⟩ := hu
  rw [Nat.blt_eq] at hltd
  obtain ⟨u, hcell, hu⟩ := hi.cell hj hrow hltd
  rw [hgetd] at hu
  obtain ⟨Lm, hjm, rfl⟩ := hu
  obtain ⟨arr, harr, hrm⟩ := hi.mapAt hjm hmap
  unfold outKeys at hout
  split at hout
  · cases hout
  rename_i e0 es0
  split at hout
  case h_2 => cases hout
  rename_i sk ts hsk hts
  unfold sortedKeys at hsk
  split at hsk
  · cases hsk
  rename_i ks hks
  split at hsk
  case h_2 => cases hsk
  rename_i bs hbs hall hlen
  obtain ⟨hkeys, hok⟩ := keyNats_eq hks hrm
  have hwf : ∀ x ∈ ks.map (denK ρ), (Lit.int .i64 x).wf = true := fun x hx => by
    obtain ⟨k, hk, rfl⟩ := List.mem_map.1 hx
    exact okK_wf (hok k hk)
  have hborn := bornsOf_eq hrm
  have hnd := sortK_nodup (ρ := ρ) hsk hok
  have hst : MapKept.Stamped arr clock := by
    refine ⟨fun x hx => allLt_at hall _ (by rw [← hborn]; exact List.mem_map_of_mem hx), by rw [hborn]; exact sortN_nodup hbs, ?_⟩
    rw [hkeys]
    exact List.pairwise_map.2 (hnd.imp fun hne e => hne (encZ_inj e))
  obtain ⟨htk, hokt⟩ := tokKEs_eq hi hts hrm
  have hkl : ks.length = (e0 :: es0).length := by
    have h1 := congrArg List.length hkeys
    have h2 := RM.size hrm
    simp only [List.length_map] at h1
    omega
  have htl : ts.length = (e0 :: es0).length := by
    have h1 := congrArg List.length htk
    have h2 := RM.size hrm
    simp only [List.length_map] at h1
    omega
  have hsl : ls.length = ks.length := by rw [(sortK_spec (ρ := ρ) hout hokt).2.length_eq, htl, hkl]
  refine Calls.mono (ho.outs w L.blk (L.off + o) Lm.blk arr clock (ks.map (denK ρ)) (ts.map (denK ρ)) (by rw [Nat.add_assoc]; exact hcell) harr hst hkeys hwf (by simpa using Nat.le_of_ble_eq_true hlen) (by rw [List.length_map, hkl]; simp) htk) fun e w' ⟨g, cap, t, he, hrow', hb⟩ => ?_
  subst he
  refine ⟨_, rfl, ?_⟩
  have hsort := sortK_sorts (ρ := ρ) hout hokt (List.Perm.refl _)
  rw [hsort, List.length_map, ← hsl] at hrow'
  rw [List.length_map, ← hsl]
  have hi' := hi.behind hb
  cases ls with
  | nil => rw [hkl] at hsl; simp at hsl
  | cons n l =>
    rcases hrow'.2 with ⟨h0, _⟩ | ⟨gb, cap', cur, hgc, hbase, hgb, r1, r2, r3, r4⟩
    · cases h0
    cases hgc
    have hk : Ob.den ρ (k (.sl H.nx 0 (Nat.succ l.length) (.upto 0)) (H.alloc (newCells (natAVs (n :: l)) 1 H.nx))) := hk
    have hj0 : j H.nx = none := hi.fresh
    have hlenN : (natAVs (n :: l)).length = l.length + 1 := by rw [natAVs_length]; rfl
    simp only [List.length_cons, Nat.mul_one] at r1 r3 r4
    have hext : Inv ρ w0 j (H.alloc (newCells (natAVs (n :: l)) 1 H.nx)) w' := hi'.extend _ (fun v e g t sh ow hob => by unfold newCells at hob; cases hob)
    have hget : (H.alloc (newCells (natAVs (n :: l)) 1 H.nx)).m.get H.nx = some (newCells (natAVs (n :: l)) 1 H.nx) := by rw [Heap.alloc_eq]; exact T.get_set_same _ _ _
    have hnew : NewR ρ j (newCells (natAVs (n :: l)) 1 H.nx) (.cells cur t (0, 0)) cap := by
      refine ⟨rfl, rfl, cur, t, rfl, by rw [Vec.n_ofList, hlenN]; omega, ⟨by omega, fun _ => by rw [Vec.n_ofList, hlenN]; omega⟩, fun i hin => ?_⟩
      rw [Vec.n_ofList] at hin
      rw [Vec.get_ofList _ i hin]
      obtain ⟨x, h1, h2⟩ := (natAVs_R (ρ := ρ) (j := j) (n :: l)).get i _ (List.getElem?_eq_getElem hin)
      refine ⟨x, ?_, h2⟩
      rw [← r4, List.getElem?_take_of_lt (by omega)] at h1
      simpa using h1
    refine ⟨.sl H.nx 0 (Nat.succ l.length) (.upto 0), _, jset j H.nx ⟨g, 0, cap⟩, ⟨_, jset_same _ _ _, ⟨by show 0 + (l.length + 1) ≤ cap; omega, by show 0 < cap; omega⟩, rfl⟩,
      hext.adoptAt hget hj0 hnew (fun v e g cl sh hob => by unfold newCells at hob; cases hob; exact .inl rfl) hgb (Nat.le_trans hi.fr.size hbase) (fun q Lq e he => by have := hi.blk q Lq e; omega),
      ⟨sub_jset hj0, fun q Lq e e0 => ?_, (St.extend hi' _).keep, (St.extend hi' _).nx⟩, hk⟩
    by_cases hq : q = H.nx
    · omega
    · rw [jset_ne _ _ hq, e0] at e; cases e

end
end
end Go.Dw
