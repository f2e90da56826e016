/-
  DwAppend: a block that may lie over another: the heap behind an append.
-/
import Derived.Test.YtfpklobgecgnpaaGreatDwHeavy
import Derived.Laws.Append
namespace Go.Dw
set_option linter.unusedSimpArgs false
set_option linter.unusedVariables false

section
variable {P : Program} {ρ : Val} {w0 : World} {j : J} {H : Heap} {w : World}

theorem Inv.drew (h : Inv ρ w0 j H w) : Inv ρ w0 j H w.drew :=
  ⟨⟨h.fr.os, h.fr.out, h.fr.tape, h.fr.size, h.fr.old⟩, h.dom, h.blk, h.used,
    fun n L e => let ⟨o, h1, h2⟩ := h.obj n L e; ⟨o, h1, ObjR.grow (Sub.refl j) rfl h2⟩, h.sep, h.tim, h.gwt, h.grp, h.fz, h.off0⟩

theorem Inv.fresh (h : Inv ρ w0 j H w) : j H.nx = none := by
  cases e : j H.nx with
  | none => rfl
  | some L => exact absurd (h.dom _ _ e) (Nat.lt_irrefl _)

/-- The heap behind an append, before the world has anything of it: the old block is closed, the next one is there. -/
theorem Inv.closed (h : Inv ρ w0 j H w) {b : Nat} {L : Loc} {v v' : Vec} {esz g : Nat} {sh : Bool} (hj : j b = some L) (hm : H.m.get b = some (.cells v esz g none sh true)) :
    Inv ρ w0 j ((H.upd b (.cells v esz g (some (H.nx + 1)) true true)).alloc (.cells v' esz g none true true)) w ∧
    St j H j ((H.upd b (.cells v esz g (some (H.nx + 1)) true true)).alloc (.cells v' esz g none true true)) := by
  rw [Heap.upd_eq, Heap.alloc_eq]
  have hb := h.dom b L hj
  have hal : alive H.gw g (some (H.nx + 1)) = true := by
    unfold alive
    simp only
    cases e : H.gw.get g with
    | none => rfl
    | some x => simp only [Nat.blt_eq]; have := h.gwt g x e; omega
  have gb : ((H.m.set b (.cells v esz g (some (H.nx + 1)) true true)).set H.nx (.cells v' esz g none true true)).get b = some (.cells v esz g (some (H.nx + 1)) true true) := by
    rw [T.get_set_ne _ _ (by omega), T.get_set_same]
  have gn : ((H.m.set b (.cells v esz g (some (H.nx + 1)) true true)).set H.nx (.cells v' esz g none true true)).get H.nx = some (.cells v' esz g none true true) := T.get_set_same _ _ _
  have go : ∀ k, k ≠ b → k ≠ H.nx → ((H.m.set b (.cells v esz g (some (H.nx + 1)) true true)).set H.nx (.cells v' esz g none true true)).get k = H.m.get k := fun k h1 h2 => by
    rw [T.get_set_ne _ _ h2, T.get_set_ne _ _ h1]
  have gd : ∀ k Lk, j k = some Lk → k ≠ b → ((H.m.set b (.cells v esz g (some (H.nx + 1)) true true)).set H.nx (.cells v' esz g none true true)).get k = H.m.get k := fun k Lk e h1 =>
    go k h1 (by have := h.dom k Lk e; omega)
  refine ⟨⟨h.fr, fun n L e => Nat.lt_succ_of_lt (h.dom n L e), h.blk, fun k o e => ?_, fun k Lk e => ?_, fun k m Lk Lm hkm e1 e2 hbk => ?_, fun k v2 e g2 t sh2 ow he => ?_, fun g2 x e => Nat.le_succ_of_le (h.gwt g2 x e), fun k Lk v2 e2 g2 c sh2 e1 e3 => ?_, h.fz, fun k Lk v2 e2 c sh2 e1 e3 => ?_⟩,
    Sub.refl j, (fun k L e e' => by rw [e] at e'; cases e'), fun k e hk => ⟨go k (fun hh => by subst hh; rw [hj] at e; cases e) (by omega), rfl⟩, Nat.le_succ _⟩
  · show k < H.nx + 1
    by_cases h1 : k = H.nx
    · omega
    · by_cases h2 : k = b
      · omega
      · have e : ((H.m.set b (.cells v esz g (some (H.nx + 1)) true true)).set H.nx (.cells v' esz g none true true)).get k = some o := e
        rw [go k h2 h1] at e; have := h.used k o e; omega
  · by_cases h2 : k = b
    · subst h2
      rw [hj] at e; cases e
      obtain ⟨o, h3, h4⟩ := h.obj k L hj
      rw [hm] at h3; cases h3
      exact ⟨_, gb, h4.1, fun _ => h4.2 rfl⟩
    · obtain ⟨o, h3, h4⟩ := h.obj k Lk e
      exact ⟨o, by rw [show _ = _ from gd k Lk e h2]; exact h3, h4⟩
  · by_cases hk : k = b
    · subst hk
      rw [hj] at e1; cases e1
      obtain ⟨vn, en, gn', cn, sn, on, vm, em, gm, cm, sm, om, h3, h4, h5, h6⟩ := h.sep k m L Lm hkm hj e2 hbk
      rw [hm] at h3; cases h3
      exact ⟨_, _, _, _, _, _, vm, em, gm, cm, sm, om, gb, by rw [show _ = _ from gd m Lm e2 (fun hh => hkm hh.symm)]; exact h4, h5, fun ho => ⟨(h6 ho).1, fun _ _ hc => by cases hc⟩⟩
    · by_cases hmb : m = b
      · subst hmb
        rw [hj] at e2; cases e2
        obtain ⟨vn, en, gn', cn, sn, on, vm, em, gm, cm, sm, om, h3, h4, h5, h6⟩ := h.sep m k L Lk (fun hh => hkm hh.symm) hj e1 hbk.symm
        rw [hm] at h3; cases h3
        refine ⟨vm, em, gm, cm, sm, om, _, _, _, _, _, _, by rw [show _ = _ from gd k Lk e1 hk]; exact h4, gb, h5.symm, fun ho => ?_⟩
        subst ho
        refine ⟨(h6 rfl).1.symm, fun a1 _ hc => ?_⟩
        exact absurd hc ((h6 rfl).2 rfl a1 rfl).2.1
      · obtain ⟨vn, en, gn', cn, sn, on, vm, em, gm, cm, sm, om, h3, h4, h5⟩ := h.sep k m Lk Lm hkm e1 e2 hbk
        exact ⟨vn, en, gn', cn, sn, on, vm, em, gm, cm, sm, om, by rw [show _ = _ from gd k Lk e1 hk]; exact h3, by rw [show _ = _ from gd m Lm e2 hmb]; exact h4, h5⟩
  · show t ≤ H.nx + 1
    have he : ((H.m.set b (.cells v esz g (some (H.nx + 1)) true true)).set H.nx (.cells v' esz g none true true)).get k = some (.cells v2 e g2 (some t) sh2 ow) := he
    by_cases h1 : k = H.nx
    · subst h1; rw [gn] at he; cases he
    · by_cases h2 : k = b
      · subst h2; rw [gb] at he; cases he; exact Nat.le_refl _
      · rw [go k h2 h1] at he; have := h.tim k v2 e g2 t sh2 ow he; omega
  · have e3 : ((H.m.set b (.cells v esz g (some (H.nx + 1)) true true)).set H.nx (.cells v' esz g none true true)).get k = some (.cells v2 e2 g2 c sh2 true) := e3
    by_cases h2 : k = b
    · subst h2
      rw [gb] at e3; cases e3
      exact h.grp k Lk _ _ _ _ _ e1 hm
    · rw [gd k Lk e1 h2] at e3
      exact h.grp k Lk v2 e2 g2 c sh2 e1 e3
  · by_cases h2 : k = b
    · subst h2
      rw [hj] at e1; cases e1
      have e3 : ((H.m.set k (.cells v esz g (some (H.nx + 1)) true true)).set H.nx (.cells v' esz g none true true)).get k = some (.cells v2 e2 k c sh2 true) := e3
      rw [gb] at e3; cases e3
      exact h.off0 _ L _ _ _ _ hj hm
    · have e3 : ((H.m.set b (.cells v esz g (some (H.nx + 1)) true true)).set H.nx (.cells v' esz g none true true)).get k = some (.cells v2 e2 k c sh2 true) := e3
      rw [gd k Lk e1 h2] at e3
      exact h.off0 k Lk _ _ _ _ e1 e3

/-- The next block lies over the old one: the cells behind the old one's have been written. -/
theorem Inv.over (h : Inv ρ w0 j H w) {b off m' k n : Nat} {L : Loc} {v v' : Vec} {esz g : Nat} {sh : Bool} {new : List AV} {vs : List Value} (hj : j b = some L) (hm : H.m.get b = some (.cells v esz g none sh true))
    (hoff : off = k * esz) (hlen : off + m' = v.n) (hk : k ≤ L.cap) (hcap : off + m' + new.length ≤ L.cap * esz) (hc : areCells new = true) (hr : RL ρ j new vs) (hn' : v'.n = m' + new.length)
    (hold : ∀ i, i < m' → v'.get i = v.get (off + i)) (hnew : ∀ i (hi : i < new.length), v'.get (m' + i) = new[i]) (P : Program) (hn : n = H.nx) :
    ∃ w', (storeCells ⟨L.blk, L.off + off + m', none⟩ vs).run P w = .ok () w' ∧
      Inv ρ w0 (jset j n ⟨L.blk, L.off + off, L.cap - k⟩) ((H.upd b (.cells v esz g (some (H.nx + 1)) true true)).alloc (.cells v' esz g none true true)) w' := by
  subst hn
  have hcl := (h.closed hj hm (v' := v')).1
  obtain ⟨o, h1, h2⟩ := h.obj b L hj
  rw [hm] at h1; cases h1
  obtain ⟨hbase, hcont⟩ := h2
  rw [if_pos rfl] at hbase
  obtain ⟨arr, e, fr, hb, hs1, hs2, hcells⟩ := hcont rfl
  have hfr := h.fz _ _ hj hbase _ _ _ hb
  subst hfr
  have hlenv := hr.length
  have hs3 := hs2.1
  have hrun := run_storeCells_at (P := P) L.blk (L.off + off + m') e vs 0 arr w hb (by omega) (oneCells hr hc)
  refine ⟨_, hrun, ?_⟩
  generalize harr' : (arr.toList.take (L.off + off + m' + 0) ++ vs ++ arr.toList.drop (L.off + off + m' + 0 + vs.length)).toArray = arr'
  have hsz : arr'.size = arr.size := by rw [← harr']; simp; omega
  have hget : ∀ i, arr'[i]? = if L.off + off + m' ≤ i ∧ i < L.off + off + m' + vs.length then vs[i - (L.off + off + m')]? else arr[i]? := fun i => by
    rw [← harr']
    simp only [Nat.add_zero, List.getElem?_toArray]
    by_cases hi : i < L.off + off + m'
    · rw [if_neg (by omega), List.append_assoc, List.getElem?_append_left (by simp; omega), List.getElem?_take_of_lt hi]; simp
    · by_cases hi2 : i < L.off + off + m' + vs.length
      · rw [if_pos (by omega), List.append_assoc, List.getElem?_append_right (by simp; omega), List.getElem?_append_left (by simp; omega)]
        congr 1; simp; omega
      · rw [if_neg (by omega), List.getElem?_append_right (by simp; omega), List.getElem?_drop]
        simp only [List.length_append, List.length_take, Array.length_toList, Array.getElem?_toList]
        congr 1; omega
  have hset := setRow_heap w L.blk arr arr' e (0, 0) hb
  have hoth : ∀ i, i ≠ L.blk → (w.setRow L.blk arr').heap[i]? = w.heap[i]? := fun i hi => setRow_other w L.blk i arr' hi
  have hfresh := h.fresh
  have hsub := sub_jset (L := ⟨L.blk, L.off + off, L.cap - k⟩) hfresh
  have hback : ∀ q Lq, jset j H.nx ⟨L.blk, L.off + off, L.cap - k⟩ q = some Lq → (q = H.nx ∧ Lq = ⟨L.blk, L.off + off, L.cap - k⟩) ∨ (q ≠ H.nx ∧ j q = some Lq) := fun q Lq e => by
    by_cases hq : q = H.nx
    · subst hq; rw [jset_same] at e; exact .inl ⟨rfl, (Option.some.inj e).symm⟩
    · rw [jset_ne _ _ hq] at e; exact .inr ⟨hq, e⟩
  have hnewobj : ((H.upd b (.cells v esz g (some (H.nx + 1)) true true)).alloc (.cells v' esz g none true true)).m.get H.nx = some (.cells v' esz g none true true) := by
    rw [Heap.alloc_eq, Heap.upd_eq]; exact T.get_set_same _ _ _
  have hbobj : ((H.upd b (.cells v esz g (some (H.nx + 1)) true true)).alloc (.cells v' esz g none true true)).m.get b = some (.cells v esz g (some (H.nx + 1)) true true) := by
    rw [Heap.alloc_eq, Heap.upd_eq]
    show ((H.m.set b _).set H.nx _).get b = _
    rw [T.get_set_ne _ _ (by have := h.dom b L hj; omega), T.get_set_same]
  have hoobj : ∀ q Lq, j q = some Lq → q ≠ b → ((H.upd b (.cells v esz g (some (H.nx + 1)) true true)).alloc (.cells v' esz g none true true)).m.get q = H.m.get q := fun q Lq eq hq => by
    rw [Heap.alloc_eq, Heap.upd_eq]
    show ((H.m.set b _).set H.nx _).get q = _
    rw [T.get_set_ne _ _ (by have := h.dom q Lq eq; omega), T.get_set_ne _ _ hq]
  have hgw : ((H.upd b (.cells v esz g (some (H.nx + 1)) true true)).alloc (.cells v' esz g none true true)).gw = H.gw := by rw [Heap.alloc_eq, Heap.upd_eq]
  have hnx : ((H.upd b (.cells v esz g (some (H.nx + 1)) true true)).alloc (.cells v' esz g none true true)).nx = H.nx + 1 := by rw [Heap.alloc_eq, Heap.upd_eq]
  -- what lies in the same block, and is alive, is closed, and ends where the old one ends
  have hsame : ∀ m Lm, m ≠ b → j m = some Lm → Lm.blk = L.blk → ∃ vm em cm sm, H.m.get m = some (.cells vm em g cm sm true) ∧ (alive H.gw g cm = true → cm ≠ none ∧ Lm.off + vm.n ≤ L.off + v.n) := fun m Lm hmb em hbk => by
    obtain ⟨vn, en, gn', cn, sn, on, vm, em', gm, cm, sm, om, h3, h4, h5, h6⟩ := h.sep b m L Lm (fun hh => hmb hh.symm) hj em hbk.symm
    rw [hm] at h3; cases h3
    subst h5
    obtain ⟨rfl, h7⟩ := h6 rfl
    exact ⟨vm, em', cm, sm, h4, fun ha => (h7 rfl ha rfl).2⟩
  refine ⟨⟨by simp [h.fr.os], by simp [h.fr.out], h.fr.tape, by simp [h.fr.size], fun i hi => ?_⟩, fun q Lq e => ?_, fun q Lq e => ?_, hcl.used, fun q Lq eq => ?_, fun q m Lq Lm hqm e1 e2 hbk => ?_, hcl.tim, hcl.gwt, fun q Lq v2 e2 g2 c sh2 e1 e3 => ?_, fun q Lq hjq hi c e' fr he => ?_, fun q Lq v2 e2 c sh2 e1 e3 => ?_⟩
  · rw [hoth i (by omega)]; exact h.fr.old i hi
  · rcases hback q Lq e with ⟨rfl, _⟩ | ⟨_, e⟩
    · rw [hnx]; omega
    · exact hcl.dom q Lq e
  · rw [setRow_size]
    rcases hback q Lq e with ⟨_, rfl⟩ | ⟨_, e⟩
    · exact h.blk b L hj
    · exact h.blk q Lq e
  · rcases hback q Lq eq with ⟨rfl, rfl⟩ | ⟨_, eq⟩
    · refine ⟨_, hnewobj, by rw [if_pos rfl]; exact hbase, fun _ => ⟨arr', e, (0, 0), hset, ?_, ?_, fun i hi => ?_⟩⟩
      · show L.off + off + v'.n ≤ _
        rw [hsz, hn']; omega
      · have hkm : k * esz ≤ L.cap * esz := Nat.mul_le_mul_right _ hk
        have hs3 := hs2.1
        refine ⟨?_, fun _ => ?_⟩
        · show L.off + off + (L.cap - k) * esz ≤ _
          rw [hsz, hoff, Nat.sub_mul]
          omega
        · show v'.n ≤ (L.cap - k) * esz
          rw [hn', Nat.sub_mul]
          omega
      · show ∃ x, arr'[L.off + off + i]? = some x ∧ R ρ _ (v'.get i) x
        rw [hget]
        by_cases him : i < m'
        · rw [if_neg (by omega), hold i him]
          obtain ⟨x, h3, h4⟩ := hcells (off + i) (by omega)
          exact ⟨x, by rw [← h3]; congr 1; omega, h4.mono hsub⟩
        · rw [if_pos (by omega)]
          obtain ⟨x, h3, h4⟩ := hr.get (i - m') _ (List.getElem?_eq_getElem (by omega))
          refine ⟨x, by rw [← h3]; congr 1; omega, ?_⟩
          have := hnew (i - m') (by omega)
          rw [show m' + (i - m') = i by omega] at this
          rw [this]
          exact h4.mono hsub
    · by_cases hqb : q = b
      · subst hqb
        rw [hj] at eq; cases eq
        refine ⟨_, hbobj, by rw [if_pos rfl]; exact hbase, fun _ => ⟨arr', e, (0, 0), hset, by rw [hsz]; exact hs1, by rw [hsz]; exact hs2, fun i hi => ?_⟩⟩
        rw [hget, if_neg (by omega)]
        obtain ⟨x, h3, h4⟩ := hcells i hi
        exact ⟨x, h3, h4.mono hsub⟩
      · obtain ⟨o', h3, h4⟩ := h.obj q Lq eq
        refine ⟨o', by rw [hoobj q Lq eq hqb]; exact h3, ?_⟩
        rw [hgw]
        by_cases hbk : Lq.blk = L.blk
        · obtain ⟨vm, em, cm, sm, h5, h6⟩ := hsame q Lq hqb eq hbk
          rw [h3] at h5; cases h5
          refine ⟨h4.1, fun ha => ?_⟩
          obtain ⟨_, hext⟩ := h6 ha
          obtain ⟨arr2, e2, fr2, h7, h8, h9, h10⟩ := h4.2 ha
          rw [hbk, hb] at h7; cases h7
          refine ⟨arr', e, (0, 0), by rw [hbk]; exact hset, by rw [hsz]; exact h8, by rw [hsz]; exact h9, fun i hi => ?_⟩
          rw [hget, if_neg (by omega)]
          obtain ⟨x, h11, h12⟩ := h10 i hi
          exact ⟨x, h11, h12.mono hsub⟩
        · exact ObjR.grow hsub (hoth _ hbk) h4
  · rcases hback q Lq e1 with ⟨rfl, rfl⟩ | ⟨hq, e1⟩ <;> rcases hback m Lm e2 with ⟨rfl, rfl⟩ | ⟨hmm, e2⟩
    · exact absurd rfl hqm
    · by_cases hmb : m = b
      · subst hmb
        rw [hj] at e2; cases e2
        refine ⟨_, _, _, _, _, _, _, _, _, _, _, _, hnewobj, hbobj, rfl, fun _ => ⟨rfl, fun _ _ _ => ⟨rfl, by simp, ?_⟩⟩⟩
        show L.off + v.n ≤ L.off + off + v'.n
        omega
      · obtain ⟨vm, em, cm, sm, h5, h6⟩ := hsame m Lm hmb e2 hbk.symm
        refine ⟨_, _, _, _, _, _, vm, em, g, cm, sm, true, hnewobj, by rw [hoobj m Lm e2 hmb]; exact h5, rfl, fun _ => ⟨rfl, fun _ ha _ => ?_⟩⟩
        rw [hgw] at ha
        obtain ⟨h7, h8⟩ := h6 ha
        refine ⟨rfl, h7, ?_⟩
        show Lm.off + vm.n ≤ L.off + off + v'.n
        omega
    · by_cases hqb : q = b
      · subst hqb
        refine ⟨_, _, _, _, _, _, _, _, _, _, _, _, hbobj, hnewobj, rfl, fun _ => ⟨rfl, fun _ _ hc => by cases hc⟩⟩
      · obtain ⟨vm, em, cm, sm, h5, h6⟩ := hsame q Lq hqb e1 hbk
        refine ⟨vm, em, g, cm, sm, true, _, _, _, _, _, _, by rw [hoobj q Lq e1 hqb]; exact h5, hnewobj, rfl, fun _ => ⟨rfl, fun ha _ hc => ?_⟩⟩
        rw [hgw] at ha
        exact absurd hc (h6 ha).1
    · exact hcl.sep q m Lq Lm hqm e1 e2 hbk
  · rcases hback q Lq e1 with ⟨rfl, rfl⟩ | ⟨_, e1⟩
    · rw [hnewobj] at e3; cases e3
      obtain ⟨Lg, hLg⟩ := h.grp b L v esz g none sh hj hm
      exact ⟨Lg, hsub _ _ hLg⟩
    · obtain ⟨Lg, hLg⟩ := hcl.grp q Lq v2 e2 g2 c sh2 e1 e3
      exact ⟨Lg, hsub _ _ hLg⟩
  · by_cases hi2 : Lq.blk = L.blk
    · rw [hi2] at he; rw [hset] at he; cases he; rfl
    · rw [hoth _ hi2] at he
      rcases hback q Lq hjq with ⟨_, rfl⟩ | ⟨_, hjq⟩
      · exact absurd rfl hi2
      · exact h.fz q Lq hjq hi c e' fr he
  · rcases hback q Lq e1 with ⟨rfl, rfl⟩ | ⟨_, e1⟩
    · rw [hnewobj] at e3; cases e3
      obtain ⟨Lg, hLg⟩ := h.grp b L v esz H.nx none sh hj hm
      exact absurd (h.dom _ _ hLg) (Nat.lt_irrefl _)
    · exact hcl.off0 q Lq v2 e2 c sh2 e1 e3

end
end Go.Dw
