/-
  DwOps2: append; ranging over a map; every operation but a call.
-/
import Derived.Test.YtfpklobgecgnpaaGreatDwOps
namespace Go.Dw
set_option linter.unusedSimpArgs false
set_option linter.unusedVariables false

section
variable {P : Program} {ρ : Val} {w0 : World} {j : J} {H : Heap} {w : World} {N : Nat} {env : T AV} {a : Act} {o : Oper} {k : K} {Q : Exit → Act → World → Prop}

theorem elemInfo_eq {t : TypeId} {by' sz : Nat} (h : elemInfo P t = some (by', sz)) :
    ∃ e inf z', P.underlying t = some (.slice e) ∧ P.info? e = some inf ∧ inf.bytes = by' ∧ inf.size = sz ∧ 0 < sz ∧ (∀ w', (zeroValue e).run P w' = .ok z' w') ∧ z'.cells.size = sz := by
  unfold elemInfo at h
  split at h
  case h_2 => cases h
  rename_i e hu
  split at h
  case h_2 => cases h
  rename_i inf z hinf hz
  split at h
  case h_2 => cases h
  rename_i s hb hs
  cases h
  obtain ⟨z', h1, h2, _⟩ := zeroA_sound (ρ := (⟨fun _ => 0, fun _ => false⟩ : Val)) (j := fun _ => none) hz
  have := (RL_cells h2).length
  rw [Array.length_toList, natBeq hb, hs] at this
  exact ⟨e, inf, z', hu, hinf, rfl, hs, by omega, h1, this⟩

theorem isSrc_eq {t : TypeId} (h : isSrc P t = true) : (∃ e, P.underlying t = some (.slice e)) ∨ P.underlying t = some .string := by
  unfold isSrc at h
  split at h
  · exact .inl ⟨_, ‹_›⟩
  · exact .inr ‹_›
  · cases h

theorem argTypes_two {c : Call} {t u : TypeId} {l : List TypeId} (h : c.argTypes.toList = t :: u :: l) : c.argTypes[0]? = some t ∧ c.argTypes[1]? = some u := by
  refine ⟨argTypes_cons h, ?_⟩
  rw [← Array.getElem?_toList, h]; rfl

/-- Within the capacity. -/
theorem run_append_in {ats : Array TypeId} {ts tx e : TypeId} {ty : TypeId} {inf : TypeInfo} {base : Option Addr} {sl sc n : Nat} {x : Value} {xs : List Value} {w' : World} (h0 : ats[0]? = some ts) (h1 : ats[1]? = some tx)
    (hu : P.underlying ts = some (.slice e)) (hx : isSrc P tx = true) (hi : P.info? e = some inf) (hn : (Builtin.lenOf x).run P w = .ok n w) (hle : sl + n ≤ sc) (hf : (Builtin.firstCells inf.size n x).run P w = .ok xs.toArray w)
    (hst : match base with | none => w' = w | some p => (storeCells (p.add (sl * inf.size)) xs).run P w = .ok () w') : (Builtin.append_ ats ty #[.slice base sl sc, x]).run P w = .ok (.slice base (sl + n) sc) w' := by
  have hsz : szOf P e = some inf.size := by simp [szOf, hi]
  rcases isSrc_eq hx with ⟨e', hd⟩ | hd
  all_goals
    unfold Builtin.append_
    simp only [h0, h1, List.getElem?_toArray, List.getElem?_cons_zero, List.getElem?_cons_succ, Sem.run_bind, run_underlying hu, Result.andThen_ok, run_sizeOf hsz, run_underlying hd, Sem.run_pure, Bool.false_eq_true, if_false, hn]
    rw [if_pos hle]
    cases base with
    | none =>
      simp only [Bool.not_false, if_true, Sem.run_bind, hf, Result.andThen_ok, Sem.run_pure]
      rw [hst]
    | some p =>
      simp only [Bool.not_false, if_true, Sem.run_bind, hf, Result.andThen_ok, List.toList_toArray, hst, Sem.run_pure]

/-- Into a new block. -/
theorem run_append_new {ats : Array TypeId} {ts tx e : TypeId} {ty : TypeId} {inf : TypeInfo} {base : Option Addr} {sl sc n : Nat} {x z' : Value} {old xs : List Value} (h0 : ats[0]? = some ts) (h1 : ats[1]? = some tx)
    (hu : P.underlying ts = some (.slice e)) (hx : isSrc P tx = true) (hi : P.info? e = some inf) (hn : (Builtin.lenOf x).run P w = .ok n w) (hlt : sc < sl + n) (hb : (sl + n) * inf.bytes ≤ 140737488355328) (hcap : sl + n < 4611686018427387904)
    (hz : ∀ w', (zeroValue e).run P w' = .ok z' w') (ho : (Builtin.firstCells inf.size sl (.slice base sl sc)).run P w.drew = .ok old.toArray w.drew) (hf : (Builtin.firstCells inf.size n x).run P w.drew = .ok xs.toArray w.drew) :
    ∃ nc rest, sl + n ≤ nc ∧ rest.size = (nc - (sl + n)) * z'.cells.size ∧ (Builtin.append_ ats ty #[.slice base sl sc, x]).run P w =
      .ok (.slice (some ⟨w.heap.size, 0, none⟩) (sl + n) nc) { w.drew with heap := w.drew.heap.push (.cells (old.toArray ++ xs.toArray ++ rest) e (0, 0)) } := by
  have hsz : szOf P e = some inf.size := by simp [szOf, hi]
  refine ⟨Question.cut (.appendCap (sl + n) sc e) (w.tape w.drawn (.appendCap (sl + n) sc e)), Builtin.zeroCells z'.cells (Question.cut (.appendCap (sl + n) sc e) (w.tape w.drawn (.appendCap (sl + n) sc e)) - (sl + n)), ?_, ?_, ?_⟩
  · show sl + n ≤ (sl + n) + _
    omega
  · exact size_zeroCells _ _
  · have hslice := growslice_fits (need := sl + n) (old := sc) (bytes := inf.bytes) hlt hb
    have ho : (Builtin.firstCells inf.size sl (.slice base sl sc)).run P { w with drawn := w.drawn + 1 } = .ok old.toArray { w with drawn := w.drawn + 1 } := ho
    have hf : (Builtin.firstCells inf.size n x).run P { w with drawn := w.drawn + 1 } = .ok xs.toArray { w with drawn := w.drawn + 1 } := hf
    rcases isSrc_eq hx with ⟨e', hd⟩ | hd
    all_goals
      unfold Builtin.append_
      simp only [h0, h1, List.getElem?_toArray, List.getElem?_cons_zero, List.getElem?_cons_succ, Sem.run_bind, run_underlying hu, Result.andThen_ok, run_sizeOf hsz, run_underlying hd, Sem.run_pure, Bool.false_eq_true, if_false, hn]
      rw [if_neg (by omega)]
      simp only [typeInfo, Sem.run_bind, run_program, Result.andThen_ok, hi, Sem.run_pure, false_or]
      rw [if_neg (by
        intro hh
        have : ((sl + n : Nat) : Int) > 9223372036854775807 := hh.1
        omega)]
      simp only [Sem.run_bind, Sem.run_pure, Result.andThen_ok, run_program, hi]
      rw [if_neg (show ¬ (Builtin.nextslicecap (sl + n) sc * inf.bytes > 2 ^ 48) by omega)]
      simp only [Sem.run_bind, run_choose, Question.forced, Bool.false_eq_true, if_false, Result.andThen_ok, run_askRoom, run_program, hi, Sem.run_pure]
      rw [ho]
      simp only [Result.andThen_ok, Bool.not_false, if_true, Sem.run_bind, hf, hz]
      rfl

/-- What is to be shown of an append. -/
def AppS (P : Program) (ρ : Val) (w0 : World) (j : J) (H : Heap) (w : World) (ats : Array TypeId) (ty : TypeId) (us ux : Value) (v : AV) (H' : Heap) : Prop :=
  ∃ u w' j', (Builtin.append_ ats ty #[us, ux]).run P w = .ok u w' ∧ R ρ j' v u ∧ Inv ρ w0 j' H' w' ∧ St j H j' H'

/-- The cells of a new row. -/
theorem fresh_R {l : List AV} {xs : List Value} {rest : Array Value} {sz need nc nx : Nat} {e : TypeId} (hl : RL ρ j l xs) (hlen : l.length = need * sz) (hnc : need ≤ nc) (hrest : rest.size = (nc - need) * sz) :
    NewR ρ j (.cells (Vec.ofList l) sz nx none false true) (.cells (xs.toArray ++ rest) e (0, 0)) nc := by
  have hx := hl.length
  refine ⟨rfl, rfl, _, e, rfl, by rw [Vec.n_ofList]; simp [hx], ⟨?_, fun _ => ?_⟩, fun i hi => ?_⟩
  · simp only [Array.size_append, List.size_toArray, hx, hlen, hrest]
    rw [← Nat.add_mul]
    exact Nat.mul_le_mul_right _ (by omega)
  · rw [Vec.n_ofList, hlen]
    exact Nat.mul_le_mul_right _ hnc
  · rw [Vec.n_ofList] at hi
    rw [Vec.get_ofList l i hi]
    obtain ⟨x, h1, h2⟩ := hl.get i _ (List.getElem?_eq_getElem hi)
    exact ⟨x, by rw [Array.getElem?_append_left (by simp; omega)]; simpa using h1, h2⟩

theorem appFresh_sound (hi : Inv ρ w0 j H w) {ats : Array TypeId} {ts tx e : TypeId} {ty : TypeId} {inf : TypeInfo} {base : Option Addr} {sl sc n : Nat} {ux z' : Value} {old new l : List AV} {v : AV} {H' : Heap} (h0 : ats[0]? = some ts) (h1 : ats[1]? = some tx)
    (hu : P.underlying ts = some (.slice e)) (hx : isSrc P tx = true) (hinf : P.info? e = some inf) (hn : (Builtin.lenOf ux).run P w = .ok n w) (hlt : sc < sl + n) (hpos : 0 < inf.size)
    (hz : ∀ w', (zeroValue e).run P w' = .ok z' w') (hzs : z'.cells.size = inf.size) (hl : l = old ++ new) (ho : old.length = sl * inf.size) (hne : new.length = n * inf.size)
    (hold : ∃ xs : List Value, (Builtin.firstCells inf.size sl (.slice base sl sc)).run P w.drew = .ok xs.toArray w.drew ∧ RL ρ j old xs) (hnew : ∃ xs : List Value, (Builtin.firstCells inf.size n ux).run P w.drew = .ok xs.toArray w.drew ∧ RL ρ j new xs)
    (h : appFresh H inf.bytes inf.size (sl + n) l = some (v, H')) : AppS P ρ w0 j H w ats ty (.slice base sl sc) ux v H' := by
  unfold appFresh at h
  split at h
  case h_2 => cases h
  rename_i hb hc
  have hb : (sl + n) * inf.bytes ≤ 35184372088832 := Nat.le_of_ble_eq_true hb
  have hc : (sl + n) * inf.size ≤ 35184372088832 := Nat.le_of_ble_eq_true hc
  have hcap : sl + n ≤ 35184372088832 := Nat.le_trans (Nat.le_mul_of_pos_right _ hpos) hc
  cases h
  obtain ⟨xo, ho1, ho2⟩ := hold
  obtain ⟨xn, hn1, hn2⟩ := hnew
  obtain ⟨nc, rest, h2, h3, h4⟩ := run_append_new (ty := ty) h0 h1 hu hx hinf hn hlt (by omega) (by omega) hz ho1 hn1
  have hlR : RL ρ j l (xo ++ xn) := by rw [hl]; exact ho2.append hn2
  have hnewR := fresh_R (rest := rest) (nc := nc) (need := sl + n) (sz := inf.size) (e := e) (nx := H.nx) hlR (by rw [hl, List.length_append, ho, hne, Nat.add_mul]) h2 (by rw [h3, hzs])
  obtain ⟨h5, h6⟩ := hi.drew.alloc hnewR (fun v e g cl sh hob => by cases hob; exact .inl rfl)
  refine ⟨_, _, _, h4, ⟨_, jset_same _ _ _, ?_, ?_⟩, ?_, h6⟩
  · exact ⟨by show 0 + (sl + n) ≤ nc; omega, by show 0 < nc; omega⟩
  · show _ = Value.slice (some ⟨w.heap.size, 0, none⟩) (sl + n) (nc - 0)
    simp
  · have e1 : (xo ++ xn).toArray ++ rest = xo.toArray ++ xn.toArray ++ rest := by simp
    rw [← e1]
    exact h5

theorem extended_spec {v : Vec} {off n : Nat} {new : List AV} (h : off + n = v.n) : (extended v off n new).n = n + new.length ∧ (∀ i, i < n → (extended v off n new).get i = v.get (off + i)) ∧ ∀ i (hi : i < new.length), (extended v off n new).get (n + i) = new[i] := by
  unfold extended
  split
  · rename_i h0
    have h0 := natBeq h0
    subst h0
    obtain ⟨t, m, d⟩ := v
    have hm : n = m := by simpa using h
    subst hm
    refine ⟨by rw [Vec.n_put]; rfl, fun i hi => ?_, fun i hi => ?_⟩
    · rw [Vec.get_put, dif_neg (by omega)]
      simp only [Vec.get, Nat.zero_add]
    · rw [Vec.get_put, dif_pos (by omega)]
      congr 1; omega
  · have hlen : (v.list off n ++ new).length = n + new.length := by rw [List.length_append, Vec.length_list]
    refine ⟨by rw [Vec.n_ofList, hlen], fun i hi => ?_, fun i hi => ?_⟩
    · have hlt : i < (v.list off n ++ new).length := by omega
      rw [Vec.get_ofList _ _ hlt]
      have e1 := Vec.getElem_list n v off i hi
      have e2 : (v.list off n ++ new)[i]? = some (v.get (off + i)) := by rw [List.getElem?_append_left (by rw [Vec.length_list]; exact hi)]; exact e1
      rw [List.getElem?_eq_getElem hlt] at e2
      exact Option.some.inj e2
    · have hlt : n + i < (v.list off n ++ new).length := by omega
      rw [Vec.get_ofList _ _ hlt]
      have e2 : (v.list off n ++ new)[n + i]? = some new[i] := by
        rw [List.getElem?_append_right (by rw [Vec.length_list]; omega), Vec.length_list, show n + i - n = i by omega]
        exact List.getElem?_eq_getElem hi
      rw [List.getElem?_eq_getElem hlt] at e2
      exact Option.some.inj e2

theorem appUpto_sound (hi : Inv ρ w0 j H w) {ats : Array TypeId} {ts tx e : TypeId} {ty : TypeId} {inf : TypeInfo} {b off len kk n : Nat} {L : Loc} {ux z' : Value} {new : List AV} {v : AV} {H' : Heap} (h0 : ats[0]? = some ts) (h1 : ats[1]? = some tx)
    (hu : P.underlying ts = some (.slice e)) (hx : isSrc P tx = true) (hinf : P.info? e = some inf) (hn : (Builtin.lenOf ux).run P w = .ok n w) (hpos : 0 < inf.size)
    (hz : ∀ w', (zeroValue e).run P w' = .ok z' w') (hzs : z'.cells.size = inf.size) (hne : new.length = n * inf.size) (hj : j b = some L) (hck : kk + len ≤ L.cap ∧ 0 < L.cap) (hnpos : 0 < n)
    (hnew : ∃ xs : List Value, (Builtin.firstCells inf.size n ux).run P w = .ok xs.toArray w ∧ RL ρ j new xs) (hnew' : ∃ xs : List Value, (Builtin.firstCells inf.size n ux).run P w.drew = .ok xs.toArray w.drew ∧ RL ρ j new xs)
    (h : appUpto H inf.bytes inf.size n new b off len kk = some (v, H')) : AppS P ρ w0 j H w ats ty (.slice (some ⟨L.blk, L.off + off, none⟩) len (L.cap - kk)) ux v H' := by
  unfold appUpto at h
  split at h
  case h_2 => cases h
  rename_i vr esz g sh hm
  split at h
  case h_2 => cases h
  rename_i hes hof hcells
  have hes := natBeq hes
  have hof : off = kk * inf.size := natBeq hof
  subst hes
  split at h
  · rename_i hfull
    have hfull : off + len * inf.size = vr.n := natBeq hfull
    split at h
    case h_2 => cases h
    rename_i hb hc
    have hb : (len + n) * inf.bytes ≤ 35184372088832 := Nat.le_of_ble_eq_true hb
    have hc : (len + n) * inf.size ≤ 35184372088832 := Nat.le_of_ble_eq_true hc
    have hcap : len + n ≤ 35184372088832 := Nat.le_trans (Nat.le_mul_of_pos_right _ hpos) hc
    cases h
    obtain ⟨e1, e2, e3⟩ := extended_spec (new := new) hfull
    have hHeq : (⟨H.m, H.nx, H.gw⟩ : Heap) = H := rfl
    by_cases hroom : len + n ≤ L.cap - kk
    · -- within the capacity: over the old one
      obtain ⟨xs, hx1, hx2⟩ := hnew
      have hmul : off + len * inf.size + new.length ≤ L.cap * inf.size := by
        rw [hof, hne, ← Nat.add_mul, ← Nat.add_mul]
        exact Nat.mul_le_mul_right _ (by omega)
      obtain ⟨w', g1, g2⟩ := hi.over (v' := extended vr off (len * inf.size) new) hj hm hof hfull (by omega) hmul hcells hx2 e1 e2 e3 P rfl
      refine ⟨_, w', _, run_append_in (ty := ty) h0 h1 hu hx hinf hn hroom hx1 (w' := w') ?_, ⟨_, jset_same _ _ _, ?_, ?_⟩, g2, ?_⟩
      · simp only [addr_add]
        exact g1
      · exact ⟨by show 0 + (len + n) ≤ L.cap - kk; omega, by show 0 < L.cap - kk; omega⟩
      · simp [capOf]
      · have hs := (hi.closed hj hm (v' := extended vr off (len * inf.size) new)).2
        refine ⟨(sub_jset hi.fresh), fun q Lq eq e0 => ?_, hs.keep, hs.nx⟩
        by_cases hq : q = H.nx
        · omega
        · rw [jset_ne _ _ hq, e0] at eq; cases eq
    · -- a new one
      obtain ⟨xs, hx1, hx2⟩ := hnew'
      have hal : H.row b = some vr := by unfold Heap.row; rw [hm]; rfl
      obtain ⟨xo, ho1, ho2⟩ := hi.drew.loadCells (P := P) (off := off) (k := len * inf.size) hj hal (by omega)
      obtain ⟨nc, rest, h2, h3, h4⟩ := run_append_new (ty := ty) (base := some ⟨L.blk, L.off + off, none⟩) (sl := len) (sc := L.cap - kk) h0 h1 hu hx hinf hn (by omega) (by omega) (by omega) hz ho1 hx1
      have hcl := hi.drew.closed hj hm (v' := extended vr off (len * inf.size) new)
      have hn1 : ((H.upd b (.cells vr inf.size g (some (H.nx + 1)) true true)).alloc (.cells (extended vr off (len * inf.size) new) inf.size g none true true)).m.get H.nx = some (.cells (extended vr off (len * inf.size) new) inf.size g none true true) := by
        rw [Heap.alloc_eq, Heap.upd_eq]; exact T.get_set_same _ _ _
      have hxo := ho2.length
      have hxs := hx2.length
      rw [Vec.length_list] at hxo
      have hnewR : NewR ρ j (.cells (extended vr off (len * inf.size) new) inf.size g none true true) (.cells (xo.toArray ++ xs.toArray ++ rest) e (0, 0)) nc := by
        refine ⟨rfl, rfl, _, e, rfl, ?_, ⟨?_, fun _ => ?_⟩, fun i hii => ?_⟩
        · rw [e1]; simp; omega
        · simp only [Array.size_append, List.size_toArray, hxo, hxs, hne, h3, hzs]
          rw [← Nat.add_mul, ← Nat.add_mul]
          exact Nat.mul_le_mul_right _ (by omega)
        · rw [e1, hne, ← Nat.add_mul]
          exact Nat.mul_le_mul_right _ h2
        · rw [e1] at hii
          by_cases hlt : i < len * inf.size
          · rw [e2 i hlt]
            obtain ⟨x, q1, q2⟩ := ho2.get i _ (Vec.getElem_list _ vr off i hlt)
            exact ⟨x, by rw [Array.append_assoc, Array.getElem?_append_left (by simp; omega)]; simpa using q1, q2⟩
          · have hi2 : i - len * inf.size < new.length := by omega
            have := e3 (i - len * inf.size) hi2
            rw [show len * inf.size + (i - len * inf.size) = i by omega] at this
            rw [this]
            obtain ⟨x, q1, q2⟩ := hx2.get (i - len * inf.size) _ (List.getElem?_eq_getElem hi2)
            refine ⟨x, ?_, q2⟩
            rw [Array.append_assoc, Array.getElem?_append_right (by simp; omega), Array.getElem?_append_left (by simp; omega)]
            simp only [List.size_toArray, hxo]
            simpa using q1
      obtain ⟨Lg, hLg⟩ := hi.grp b L vr inf.size g none sh hj hm
      have h5 := hcl.1.adopt hn1 hi.fresh hnewR (fun v e g2 cl sh hob => by cases hob; exact .inr ⟨Lg, hLg⟩)
      refine ⟨_, _, _, h4, ⟨_, jset_same _ _ _, ?_, ?_⟩, h5, ?_⟩
      · exact ⟨by show 0 + (len + n) ≤ nc; omega, by show 0 < nc; omega⟩
      · show _ = Value.slice (some ⟨w.heap.size, 0, none⟩) (len + n) (nc - 0)
        simp
      · refine ⟨(sub_jset hi.fresh), fun q Lq eq e0 => ?_, hcl.2.keep, hcl.2.nx⟩
        by_cases hq : q = H.nx
        · omega
        · rw [jset_ne _ _ hq, e0] at eq; cases eq
  · split at h
    case h_2 => cases h
    rename_i hle
    have hle : off + (len + n) * inf.size ≤ vr.n := Nat.le_of_ble_eq_true hle
    split at h
    case h_2 => cases h
    rename_i H2 hst
    cases h
    obtain ⟨xs, hx1, hx2⟩ := hnew
    obtain ⟨w', g1, g2, g3⟩ := hi.store hst hj hx2 P
    obtain ⟨ob, q1, q2⟩ := hi.obj b L hj
    rw [hm] at q1; cases q1
    obtain ⟨_, _, _, _, _, ⟨_, q3⟩, _⟩ := q2.2 rfl
    have q3 := q3 hck.2
    have hroom : len + n ≤ L.cap - kk := by
      have : (kk + (len + n)) * inf.size ≤ L.cap * inf.size := by rw [Nat.add_mul, ← hof]; omega
      have := Nat.le_of_mul_le_mul_right this hpos
      omega
    refine ⟨_, w', j, run_append_in (ty := ty) h0 h1 hu hx hinf hn hroom hx1 (w' := w') ?_, ⟨L, hj, ⟨by show kk + (len + n) ≤ L.cap; omega, hck.2⟩, rfl⟩, g2, g3⟩
    simp only [addr_add, Nat.add_assoc]
    exact g1

theorem takeN_len : ∀ {n : Nat} {l m : List AV}, takeN n l = some m → m.length = n
  | 0, l, m, h => by unfold takeN at h; cases h; rfl
  | n + 1, [], m, h => by unfold takeN at h; cases h
  | n + 1, a :: l, m, h => by
    unfold takeN at h
    split at h
    · rename_i hm
      cases h
      simp [takeN_len hm]
    · cases h

theorem cellsA_len {sz n : Nat} {x : AV} {l : List AV} (h : cellsA H sz n x = some l) : l.length = n * sz := by
  cases x <;> simp only [cellsA] at h
  case nils =>
    cases n with
    | zero => cases h; simp
    | succ n => cases h
  case emp =>
    cases n with
    | zero => cases h; simp
    | succ n => cases h
  case str p =>
    split at h
    case h_2 => cases h
    rename_i e
    have e := natBeq e
    rw [takeN_len h, e, Nat.mul_one]
  case sl b off len cap =>
    split at h
    · cases h
    · split at h
      · cases h
      · split at h
        · cases h
          rw [Vec.length_list]
          rfl
        · cases h
  all_goals cases h

theorem append_ok (hi : Inv ρ w0 j H w) (he : ER ρ j N env a) {c : Call} (ho : o.op = .call c) (hc : c.callee = .builtin .append) (h : Ob.den ρ (dAppend P c.argTypes.toList c.args.toList env H k)) : OpOk P ρ w0 j H w a o k Q := by
  unfold dAppend at h
  split at h
  case h_2 => exact h.elim
  rename_i ts tx rest s x hts hargs
  obtain ⟨h0, h1⟩ := argTypes_two hts
  obtain ⟨us, ux, hargs', hs, hx⟩ := args_two' he hargs
  cases hcp : appendA P H ts tx s x with
  | none => rw [hcp] at h; exact h.elim
  | some q =>
    obtain ⟨v, H'⟩ := q
    rw [hcp] at h
    suffices hs : AppS P ρ w0 j H w c.argTypes o.type us ux v H' by
      obtain ⟨u, w', j', g1, g2, g3, g4⟩ := hs
      exact .value (run_call_builtin' ho hc (fun _ _ _ _ => rfl) (by rw [hargs']; exact g1)) ⟨v, H', j', g2, g3, g4, h⟩
    unfold appendA at hcp
    split at hcp
    case h_2 => cases hcp
    rename_i bytes sz hel hsrc
    obtain ⟨e, inf, z', hu, hinf, hby, hsz, hpos, hz, hzs⟩ := elemInfo_eq hel
    subst hby hsz
    split at hcp
    · cases hcp
    rename_i n hn
    split at hcp
    · cases hcp
    rename_i new hnew
    obtain ⟨hlen, hkind⟩ := lenA_sound (P := P) (w := w) hx hn
    have hkind' : (∃ b n c, ux = .slice b n c) ∨ ∃ s, ux = .string s := by
      rcases hkind with ⟨b, c, e⟩ | ⟨s, e, _⟩
      · exact .inl ⟨b, _, c, e⟩
      · exact .inr ⟨s, e⟩
    have hnl := cellsA_len hnew
    have hc1 := cellsA_sound (P := P) hi hx hnew
    have hc2 := cellsA_sound (P := P) hi.drew hx hnew
    split at hcp
    · rename_i hz0
      split at hcp
      case h_2 => cases hcp
      rename_i hsl
      cases hcp
      have hfit : ∃ b n c, us = .slice b n c ∧ n ≤ c := by
        cases s <;> simp only [isSl] at hsl <;> try (cases hsl; done)
        case nils => exact ⟨_, _, _, hs, Nat.le_refl _⟩
        case sl b off len cap =>
          obtain ⟨L, _, hck, hu⟩ := hs
          refine ⟨_, _, _, hu, ?_⟩
          cases cap with
          | known c => exact hck
          | upto k => obtain ⟨h1, _⟩ := hck; show len ≤ L.cap - k; omega
        case emp => obtain ⟨p, c, hu⟩ := hs; exact ⟨_, _, _, hu, Nat.zero_le _⟩
      obtain ⟨b, sl, sc, rfl, hle⟩ := hfit
      refine ⟨.slice b (sl + 0) sc, w, j, run_append_in (ty := o.type) (xs := []) h0 h1 hu hsrc hinf hlen (by omega) (run_firstCells_zero hkind') ?_, hs, hi, St.refl j H⟩
      cases b with
      | none => rfl
      | some p => rfl
    · rename_i _ m
      unfold appTo at hcp
      split at hcp
      · -- nil
        have hs : us = .slice none 0 0 := hs
        subst hs
        exact appFresh_sound (old := []) (sl := 0) (sc := 0) hi h0 h1 hu hsrc hinf hlen (by omega) hpos hz hzs (l := new) (new := new) (by simp) (by simp) hnl ⟨[], by rfl, rfl⟩ hc2 (by rw [Nat.zero_add]; exact hcp)
      · rename_i b off len cap
        obtain ⟨L, hj, hck, rfl⟩ := hs
        split at hcp
        · rename_i c'
          split at hcp
          · rename_i hle
            have hle : len + (m + 1) ≤ c' := Nat.le_of_ble_eq_true hle
            split at hcp
            case h_2 => cases hcp
            rename_i H2 hst
            cases hcp
            obtain ⟨xs, hx1, hx2⟩ := hc1
            obtain ⟨w', g1, g2, g3⟩ := hi.store hst hj hx2 P
            refine ⟨_, w', j, run_append_in (ty := o.type) h0 h1 hu hsrc hinf hlen hle hx1 (w' := w') ?_, ⟨L, hj, hle, rfl⟩, g2, g3⟩
            simp only [addr_add, Nat.add_assoc]
            exact g1
          · rename_i hle
            have hle : ¬ len + (m + 1) ≤ c' := fun hh => by
              have := Nat.ble_eq_true_of_le hh
              rw [show Nat.ble (Nat.add len (Nat.succ m)) c' = true from this] at hle; cases hle
            split at hcp
            case h_2 => cases hcp
            rename_i old hold
            have hs' : R ρ j (.sl b off len (.known c')) (.slice (some ⟨L.blk, L.off + off, none⟩) len c') := ⟨L, hj, hck, rfl⟩
            exact appFresh_sound (old := old) hi h0 h1 hu hsrc hinf hlen (by show c' < len + (m + 1); omega) hpos hz hzs rfl (cellsA_len hold) hnl (cellsA_sound (P := P) hi.drew hs' hold) hc2 hcp
        · rename_i kk
          exact appUpto_sound hi h0 h1 hu hsrc hinf hlen hpos hz hzs hnl hj hck (Nat.succ_pos m) hc1 hc2 hcp
      · cases hcp

end
end Go.Dw
