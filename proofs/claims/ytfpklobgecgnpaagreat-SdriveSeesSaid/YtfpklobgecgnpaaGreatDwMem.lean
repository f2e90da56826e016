/-
  DwMem: how the abstract heap's changes stand for the model's: new blocks, stores, maps.
-/
import Derived.Test.YtfpklobgecgnpaaGreatDwRel
namespace Go.Dw
set_option linter.unusedSimpArgs false
set_option linter.unusedVariables false

section
variable {ρ : Val} {w0 : World} {j : J} {H : Heap} {w : World}

/-! ### The name that is not used yet -/
/-- One name more, for a block that lies at L. -/
def jset (j : J) (n : Nat) (L : Loc) : J := fun k => if k = n then some L else j k
theorem jset_same (j : J) (n : Nat) (L : Loc) : jset j n L n = some L := by simp [jset]
theorem jset_ne (j : J) {n k : Nat} (L : Loc) (h : k ≠ n) : jset j n L k = j k := by simp [jset, h]
theorem sub_jset {j : J} {n : Nat} {L : Loc} (h : j n = none) : Sub j (jset j n L) := fun k L' e => by
  by_cases hk : k = n
  · subst hk; rw [h] at e; cases e
  · rw [jset_ne j L hk]; exact e

/-- The heap, one block more in it that is not in the world yet. -/
theorem Inv.extend (h : Inv ρ w0 j H w) (o : Obj) (ho : ∀ v e g t sh ow, o = .cells v e g (some t) sh ow → t ≤ H.nx + 1) : Inv ρ w0 j (H.alloc o) w := by
  rw [Heap.alloc_eq]
  have old : ∀ n L, j n = some L → (H.m.set H.nx o).get n = H.m.get n := fun n L e => T.get_set_ne _ _ (by have := h.dom n L e; omega)
  refine ⟨h.fr, fun n L e => Nat.lt_succ_of_lt (h.dom n L e), h.blk, fun n o' e => ?_, fun n L e => ?_, fun n m Ln Lm hne e1 e2 hb => ?_, fun n v e g t sh ow he => ?_, fun g x e => Nat.le_succ_of_le (h.gwt g x e), fun n L v e g c sh e1 e2 => ?_, h.fz, fun n L v e c sh e1 e2 => h.off0 n L v e c sh e1 (by rw [← old n L e1]; exact e2)⟩
  · show n < H.nx + 1
    rw [show (H.m.set H.nx o).get n = if n = H.nx then some o else H.m.get n from T.get_set _ _ _ _] at e
    split at e
    · omega
    · have := h.used n o' e; omega
  · obtain ⟨o', h1, h2⟩ := h.obj n L e
    exact ⟨o', by rw [old n L e]; exact h1, h2⟩
  · obtain ⟨vn, en, gn, cn, sn, on, vm, em, gm, cm, sm, om, h1, h2, h3⟩ := h.sep n m Ln Lm hne e1 e2 hb
    exact ⟨vn, en, gn, cn, sn, on, vm, em, gm, cm, sm, om, by rw [old n Ln e1]; exact h1, by rw [old m Lm e2]; exact h2, h3⟩
  · show t ≤ H.nx + 1
    rw [show (H.m.set H.nx o).get n = if n = H.nx then some o else H.m.get n from T.get_set _ _ _ _] at he
    split at he
    · exact ho _ _ _ _ _ _ (Option.some.inj he)
    · have := h.tim n v e g t sh ow he; omega
  · rw [old n L e1] at e2
    exact h.grp n L v e g c sh e1 e2

theorem St.extend (h : Inv ρ w0 j H w) (o : Obj) : St j H j (H.alloc o) := by
  rw [Heap.alloc_eq]
  refine ⟨Sub.refl j, (fun n L e e' => by rw [e] at e'; cases e'), fun n _ hn => ⟨?_, rfl⟩, Nat.le_succ _⟩
  show (H.m.set H.nx o).get n = _
  exact T.get_set_ne _ _ (by omega)

/-- What a block that was just made must be like. -/
def NewR (ρ : Val) (j : J) (o : Obj) (ob : Go.Obj) (c : Nat) : Prop :=
  match o with
  | .cells v esz _ closed _ own => own = true ∧ closed = none ∧ ∃ arr e, ob = .cells arr e (0, 0) ∧ v.n ≤ arr.size ∧ (c * esz ≤ arr.size ∧ (0 < c → v.n ≤ c * esz)) ∧ ∀ i, i < v.n → ∃ x, arr[i]? = some x ∧ R ρ j (v.get i) x
  | .map es clock => c = 0 ∧ ∃ arr, ob = .map arr clock ∧ RM ρ j es arr.toList
  | .iter m since seen stepped => c = 0 ∧ ∃ m' sa, ob = .mapIter m' since sa stepped ∧ sa.toList = seen ∧ (match m with | none => m' = none | some n => ∃ Lm, j n = some Lm ∧ m' = some Lm.blk)
  | .mapu es => c = 0 ∧ ∃ arr clock es', ob = .map arr clock ∧ es'.Perm es ∧ RK ρ j es' arr.toList

theorem ObjR.grow {o : Obj} {L : Loc} {gw : T Nat} {j' : J} {w' : World} (hs : Sub j j') (hw : w'.heap[L.blk]? = w.heap[L.blk]?) (h : ObjR ρ j w0 w gw L o) : ObjR ρ j' w0 w' gw L o := by
  cases o with
  | cells v esz g closed sh own =>
    obtain ⟨h1, h2⟩ := h
    refine ⟨h1, fun ha => ?_⟩
    obtain ⟨arr, e, fr, h3, h4, h5, h6⟩ := h2 ha
    exact ⟨arr, e, fr, hw ▸ h3, h4, h5, fun i hi => let ⟨x, h7, h8⟩ := h6 i hi; ⟨x, h7, h8.mono hs⟩⟩
  | map es clock =>
    obtain ⟨h1, h2, arr, h3, h4⟩ := h
    exact ⟨h1, h2, arr, hw ▸ h3, h4.mono hs⟩
  | iter m since seen stepped =>
    obtain ⟨h1, h2, m', sa, h3, h4, h5⟩ := h
    refine ⟨h1, h2, m', sa, hw ▸ h3, h4, ?_⟩
    cases m with
    | none => exact h5
    | some n => obtain ⟨Lm, e, x⟩ := h5; exact ⟨Lm, hs _ _ e, x⟩
  | mapu es =>
    obtain ⟨h1, h2, arr, clock, es', h3, h4, h5⟩ := h
    exact ⟨h1, h2, arr, clock, es', hw ▸ h3, h4, h5.mono hs⟩

/-- The world has the block now that the heap had before it. -/
theorem Inv.adopt (h : Inv ρ w0 j H w) {n : Nat} {o : Obj} {ob : Go.Obj} {c : Nat} (hn : H.m.get n = some o) (hj : j n = none) (hnew : NewR ρ j o ob c)
    (hg : ∀ v e g cl sh, o = .cells v e g cl sh true → g = n ∨ ∃ Lg, j g = some Lg) :
    Inv ρ w0 (jset j n ⟨w.heap.size, 0, c⟩) H { w with heap := w.heap.push ob } := by
  have hsub := sub_jset (L := ⟨w.heap.size, 0, c⟩) hj
  have hold : ∀ i, i < w.heap.size → (w.heap.push ob)[i]? = w.heap[i]? := fun i hi => by
    rw [Array.getElem?_push]; rw [if_neg (by omega)]
  have hne : ∀ k L, j k = some L → k ≠ n := fun k L e hk => by subst hk; rw [hj] at e; cases e
  have hback : ∀ k L, jset j n ⟨w.heap.size, 0, c⟩ k = some L → (k = n ∧ L = ⟨w.heap.size, 0, c⟩) ∨ (k ≠ n ∧ j k = some L) := fun k L e => by
    by_cases hk : k = n
    · subst hk; rw [jset_same] at e; exact .inl ⟨rfl, (Option.some.inj e).symm⟩
    · rw [jset_ne _ _ hk] at e; exact .inr ⟨hk, e⟩
  refine ⟨⟨h.fr.os, h.fr.out, h.fr.tape, ?_, fun i hi => ?_⟩, fun k L e => ?_, fun k L e => ?_, h.used, fun k L e => ?_, fun k m Lk Lm hkm e1 e2 hb => ?_, h.tim, h.gwt, fun k L v e g cl sh e1 e2 => ?_, fun k L hjk hi cs e fr he => ?_, fun k L v e cl sh e1 e2 => (hback k L e1).elim (fun x => x.2 ▸ rfl) (fun x => h.off0 k L v e cl sh x.2 e2)⟩
  · show w0.heap.size ≤ (w.heap.push ob).size
    have := h.fr.size; simp; omega
  · show (w.heap.push ob)[i]? = _
    rw [hold i (Nat.lt_of_lt_of_le hi h.fr.size)]; exact h.fr.old i hi
  · rcases hback k L e with ⟨rfl, _⟩ | ⟨_, e⟩
    · exact h.used _ _ hn
    · exact h.dom k L e
  · show L.blk < (w.heap.push ob).size
    rcases hback k L e with ⟨_, rfl⟩ | ⟨_, e⟩
    · simp
    · have := h.blk k L e; simp; omega
  · rcases hback k L e with ⟨rfl, rfl⟩ | ⟨_, e⟩
    · refine ⟨o, hn, ?_⟩
      have hnewb : (w.heap.push ob)[w.heap.size]? = some ob := by simp
      cases o with
      | cells v esz g cl sh own =>
        obtain ⟨ho, _, arr, e', rfl, h1, h2, h3⟩ := hnew
        refine ⟨by rw [if_pos ho]; exact h.fr.size, fun _ => ⟨arr, e', (0, 0), hnewb, by simpa using h1, ⟨by simpa using h2.1, h2.2⟩, fun i hi => ?_⟩⟩
        obtain ⟨x, h4, h5⟩ := h3 i hi
        exact ⟨x, by simpa using h4, h5.mono hsub⟩
      | map es clock =>
        obtain ⟨_, arr, rfl, h1⟩ := hnew
        exact ⟨h.fr.size, rfl, arr, hnewb, h1.mono hsub⟩
      | iter m since seen stepped =>
        obtain ⟨_, m', sa, rfl, h1, h2⟩ := hnew
        refine ⟨h.fr.size, rfl, m', sa, hnewb, h1, ?_⟩
        cases m with
        | none => exact h2
        | some n => obtain ⟨Lm, e, x⟩ := h2; exact ⟨Lm, hsub _ _ e, x⟩
      | mapu es =>
        obtain ⟨_, arr, clock, es', rfl, h1, h2⟩ := hnew
        exact ⟨h.fr.size, rfl, arr, clock, es', hnewb, h1, h2.mono hsub⟩
    · obtain ⟨o', h1, h2⟩ := h.obj k L e
      exact ⟨o', h1, ObjR.grow hsub (hold _ (h.blk k L e)) h2⟩
  · rcases hback k Lk e1 with ⟨rfl, rfl⟩ | ⟨_, e1⟩ <;> rcases hback m Lm e2 with ⟨rfl, rfl⟩ | ⟨_, e2⟩
    · exact absurd rfl hkm
    · rename_i e2; have := h.blk m Lm e2; rw [← hb] at this; exact absurd this (Nat.lt_irrefl _)
    · rename_i e1 _; have := h.blk k Lk (by assumption); rw [hb] at this; exact absurd this (Nat.lt_irrefl _)
    · exact h.sep k m Lk Lm hkm (by assumption) (by assumption) hb
  · rcases hback k L e1 with ⟨rfl, rfl⟩ | ⟨_, e1⟩
    · rw [hn] at e2
      rcases hg _ _ _ _ _ (Option.some.inj e2) with rfl | ⟨Lg, e3⟩
      · exact ⟨_, jset_same _ _ _⟩
      · exact ⟨Lg, hsub _ _ e3⟩
    · obtain ⟨Lg, e3⟩ := h.grp k L v e g cl sh e1 e2
      exact ⟨Lg, hsub _ _ e3⟩
  · have he : (w.heap.push ob)[L.blk]? = some (.cells cs e fr) := he
    rcases hback k L hjk with ⟨rfl, rfl⟩ | ⟨_, hjk⟩
    · rw [show (w.heap.push ob)[w.heap.size]? = some ob by simp] at he
      cases o with
      | cells v esz g cl sh own =>
        obtain ⟨_, _, arr, e', rfl, _⟩ := hnew
        cases he; rfl
      | map es clock => obtain ⟨_, arr, rfl, _⟩ := hnew; cases he
      | iter m since seen stepped => obtain ⟨_, m', sa, rfl, _⟩ := hnew; cases he
      | mapu es => obtain ⟨_, arr, clock, es', rfl, _⟩ := hnew; cases he
    · rw [hold _ (h.blk k L hjk)] at he
      exact h.fz k L hjk hi cs e fr he

/-- A block made now. -/
theorem Inv.alloc (h : Inv ρ w0 j H w) {o : Obj} {ob : Go.Obj} {c : Nat} (hnew : NewR ρ j o ob c)
    (hg : ∀ v e g cl sh, o = .cells v e g cl sh true → g = H.nx ∨ ∃ Lg, j g = some Lg) :
    Inv ρ w0 (jset j H.nx ⟨w.heap.size, 0, c⟩) (H.alloc o) { w with heap := w.heap.push ob } ∧ St j H (jset j H.nx ⟨w.heap.size, 0, c⟩) (H.alloc o) := by
  have hj : j H.nx = none := by
    cases e : j H.nx with
    | none => rfl
    | some L => exact absurd (h.dom _ _ e) (Nat.lt_irrefl _)
  have h1 := h.extend o (fun v e g t sh ow ho => by
    subst ho
    obtain ⟨_, hc, _⟩ := hnew
    cases hc)
  have hn : (H.alloc o).m.get H.nx = some o := by rw [Heap.alloc_eq]; exact T.get_set_same _ _ _
  refine ⟨h1.adopt hn hj hnew hg, sub_jset hj, fun n L e e0 => ?_, (St.extend h o).keep, (St.extend h o).nx⟩
  by_cases hk : n = H.nx
  · omega
  · rw [jset_ne _ _ hk, e0] at e; cases e

/-! ### Rows -/
theorem row_eq {n : Nat} {v : Vec} (h : H.row n = some v) : ∃ e g c sh ow, H.m.get n = some (.cells v e g c sh ow) ∧ alive H.gw g c = true := by
  unfold Heap.row at h
  split at h
  · split at h
    · rename_i hm _ ha; cases h; exact ⟨_, _, _, _, _, hm, ha⟩
    · cases h
  · cases h

/-- What may be read of a row. -/
theorem Inv.row (h : Inv ρ w0 j H w) {n : Nat} {L : Loc} {v : Vec} (hj : j n = some L) (hr : H.row n = some v) :
    ∃ arr e fr, w.heap[L.blk]? = some (.cells arr e fr) ∧ L.off + v.n ≤ arr.size ∧ ∀ i, i < v.n → ∃ x, arr[L.off + i]? = some x ∧ R ρ j (v.get i) x := by
  obtain ⟨e, g, c, sh, ow, hm, ha⟩ := row_eq hr
  obtain ⟨o, h1, h2⟩ := h.obj n L hj
  rw [hm] at h1
  cases h1
  obtain ⟨arr, e, fr, h3, h4, _, h5⟩ := h2.2 ha
  exact ⟨arr, e, fr, h3, h4, h5⟩
theorem Inv.cell (h : Inv ρ w0 j H w) {n off : Nat} {L : Loc} {v : Vec} (hj : j n = some L) (hr : H.row n = some v) (ho : off < v.n) :
    ∃ x, w.cell? ⟨L.blk, L.off + off, none⟩ = some x ∧ R ρ j (v.get off) x := by
  obtain ⟨arr, e, fr, h1, _, h3⟩ := h.row hj hr
  obtain ⟨x, h4, h5⟩ := h3 off ho
  exact ⟨x, by simp [World.cell?, h1, h4], h5⟩

theorem addr_add (b o i : Nat) : (⟨b, o, none⟩ : Addr).add i = ⟨b, o + i, none⟩ := by unfold Addr.add; split <;> simp_all

/-- So many cells of a row, read at once. -/
theorem Inv.loadCells {P : Program} (h : Inv ρ w0 j H w) {n off k : Nat} {L : Loc} {v : Vec} (hj : j n = some L) (hr : H.row n = some v) (ho : off + k ≤ v.n) :
    ∃ xs : List Value, (Go.loadCells ⟨L.blk, L.off + off, none⟩ k).run P w = .ok xs.toArray w ∧ RL ρ j (v.list off k) xs := by
  have hc : ∀ i, i < k → ∃ x, w.cell? ⟨L.blk, L.off + off + i, none⟩ = some x ∧ R ρ j (v.get (off + i)) x := fun i hi => by
    have := h.cell hj hr (off := off + i) (by omega)
    rwa [← Nat.add_assoc] at this
  let f : Nat → Value := fun i => (w.cell? ⟨L.blk, L.off + off + i, none⟩).getD undef
  refine ⟨(List.range k).map f, run_loadCells w _ k f fun i hi => ?_, RL.of_get (by simp [Vec.length_list]) fun i a ha => ?_⟩
  · obtain ⟨x, h1, _⟩ := hc i hi
    rw [addr_add, h1]; simp [f, h1]
  · have hi : i < k := by
      rcases Nat.lt_or_ge i k with h' | h'
      · exact h'
      · rw [List.getElem?_eq_none (by rw [Vec.length_list]; exact h')] at ha; cases ha
    rw [Vec.getElem_list k v off i hi] at ha
    obtain ⟨x, h1, h2⟩ := hc i hi
    refine ⟨x, by simp [hi, f, h1], ?_⟩
    rw [← Option.some.inj ha]; exact h2

/-! ### A store -/
theorem alive_set (gw : T Nat) (g x g' : Nat) (c : Option Nat) (h : alive (gw.set g x) g' c = true) (hx : ∀ y, gw.get g = some y → y ≤ x) : alive gw g' c = true := by
  unfold alive at *
  cases c with
  | none => rfl
  | some t =>
    simp only at *
    by_cases hg : g' = g
    · subst hg
      rw [T.get_set_same] at h
      simp only [Nat.blt_eq] at h
      cases e : gw.get g' with
      | none => rfl
      | some y => simp only [Nat.blt_eq]; have := hx y e; omega
    · rw [T.get_set_ne _ _ hg] at h; exact h

/-- The world behind a store into a row, and the heap behind it. -/
theorem Inv.stored (h : Inv ρ w0 j H w) {n off : Nat} {L : Loc} {v : Vec} {esz g : Nat} {sh : Bool} {l : List AV} {vs : List Value} {gw' : T Nat} (hj : j n = some L)
    (hm : H.m.get n = some (.cells v esz g none sh true)) (hl : off + l.length ≤ v.n) (hc : areCells l = true) (hr : RL ρ j l vs)
    (hA : ∀ g' c, alive gw' g' c = true → alive H.gw g' c = true)
    (hB : ∀ m Lm vm em gm cm sm om, m ≠ n → j m = some Lm → Lm.blk = L.blk → H.m.get m = some (.cells vm em gm cm sm om) → alive gw' gm cm = false)
    (hC : ∀ g x, gw'.get g = some x → x ≤ H.nx) (P : Program) :
    ∃ w', (storeCells ⟨L.blk, L.off + off, none⟩ vs).run P w = .ok () w' ∧ Inv ρ w0 j ⟨H.m.set n (.cells (v.put off l) esz g none false true), H.nx, gw'⟩ w' := by
  obtain ⟨o, h1, h2⟩ := h.obj n L hj
  rw [hm] at h1
  cases h1
  obtain ⟨hbase, hcont⟩ := h2
  rw [if_pos rfl] at hbase
  obtain ⟨arr, e, fr, hb, hs1, hs2, hcells⟩ := hcont rfl
  have hfr := h.fz _ _ hj hbase _ _ _ hb
  subst hfr
  have hlen := hr.length
  have hrun := run_storeCells_at (P := P) L.blk (L.off + off) e vs 0 arr w hb (by omega) (oneCells hr hc)
  refine ⟨_, hrun, ?_⟩
  generalize harr' : (arr.toList.take (L.off + off + 0) ++ vs ++ arr.toList.drop (L.off + off + 0 + vs.length)).toArray = arr'
  have hsz : arr'.size = arr.size := by rw [← harr']; simp; omega
  have hget : ∀ k, arr'[k]? = if L.off + off ≤ k ∧ k < L.off + off + vs.length then vs[k - (L.off + off)]? else arr[k]? := fun k => by
    rw [← harr']
    simp only [Nat.add_zero, List.getElem?_toArray]
    by_cases hk : k < L.off + off
    · rw [if_neg (by omega), List.append_assoc, List.getElem?_append_left (by simp; omega), List.getElem?_take_of_lt hk]; simp
    · by_cases hk2 : k < L.off + off + vs.length
      · rw [if_pos (by omega), List.append_assoc, List.getElem?_append_right (by simp; omega), List.getElem?_append_left (by simp; omega)]
        congr 1; simp; omega
      · rw [if_neg (by omega), List.getElem?_append_right (by simp; omega), List.getElem?_drop]
        simp only [List.length_append, List.length_take, Array.length_toList, Array.getElem?_toList]
        congr 1; omega
  have hset := setRow_heap w L.blk arr arr' e (0, 0) hb
  have hoth : ∀ k, k ≠ L.blk → (w.setRow L.blk arr').heap[k]? = w.heap[k]? := fun k hk => setRow_other w L.blk k arr' hk
  have hold : ∀ k, k ≠ n → (H.m.set n (.cells (v.put off l) esz g none false true)).get k = H.m.get k := fun k hk => T.get_set_ne _ _ hk
  refine ⟨⟨by simp [h.fr.os], by simp [h.fr.out], h.fr.tape, by simp [h.fr.size], fun i hi => ?_⟩, h.dom, fun k Lk e => by simpa using h.blk k Lk e, fun k o' e => ?_, fun k Lk e => ?_, fun k m Lk Lm hkm e1 e2 hbk => ?_, fun k v' e' g' t sh' ow he => ?_, hC, fun k Lk v' e' g' c sh' e1 e2 => ?_, fun k Lk hjk hi c e' fr he => ?_, fun k Lk v' e' c sh' e1 e2 => ?_⟩
  · rw [hoth i (by omega)]; exact h.fr.old i hi
  · by_cases hk : k = n
    · subst hk; exact h.dom _ _ hj
    · rw [hold k hk] at e; exact h.used k o' e
  · by_cases hk : k = n
    · subst hk
      rw [hj] at e; cases e
      refine ⟨_, T.get_set_same _ _ _, by rw [if_pos rfl]; exact hbase, fun _ => ⟨arr', e, (0, 0), hset, by rw [Vec.n_put, hsz]; exact hs1, ⟨by rw [hsz]; exact hs2.1, by rw [Vec.n_put]; exact hs2.2⟩, fun i hi => ?_⟩⟩
      rw [Vec.n_put] at hi
      rw [hget, Vec.get_put]
      by_cases hin : off ≤ i ∧ i < off + l.length
      · rw [if_pos (by omega), dif_pos hin]
        obtain ⟨x, h3, h4⟩ := hr.get (i - off) _ (List.getElem?_eq_getElem (by omega))
        exact ⟨x, by rw [← h3]; congr 1; omega, h4⟩
      · rw [if_neg (by omega), dif_neg hin]
        exact hcells i hi
    · obtain ⟨o', h3, h4⟩ := h.obj k Lk e
      refine ⟨o', by rw [hold k hk]; exact h3, ?_⟩
      by_cases hbk : Lk.blk = L.blk
      · obtain ⟨vn, en, gn, cn, sn, on, vm, em, gm, cm, sm, om, h5, h6, _⟩ := h.sep k n Lk L hk e hj hbk
        rw [h3] at h5; cases h5
        refine ⟨h4.1, fun ha => ?_⟩
        rw [hB k Lk vn en gn cn sn on hk e hbk h3] at ha
        cases ha
      · have hw := hoth _ hbk
        cases o' with
        | cells v' esz' g' c' sh' ow' => exact ⟨h4.1, fun ha => let ⟨a1, a2, a3, a4, a5⟩ := h4.2 (hA _ _ ha); ⟨a1, a2, a3, by rw [hw]; exact a4, a5⟩⟩
        | map es clock => obtain ⟨a1, a2, a3, a4, a5⟩ := h4; exact ⟨a1, a2, a3, by rw [hw]; exact a4, a5⟩
        | iter m since seen stepped => obtain ⟨a1, a2, a3, a4, a5, a6⟩ := h4; exact ⟨a1, a2, a3, a4, by rw [hw]; exact a5, a6⟩
        | mapu es => obtain ⟨a1, a2, a3, a4, a5, a6⟩ := h4; exact ⟨a1, a2, a3, a4, a5, by rw [hw]; exact a6⟩
  · obtain ⟨vn, en, gn, cn, sn, on, vm, em, gm, cm, sm, om, h3, h4, h5, h6⟩ := h.sep k m Lk Lm hkm e1 e2 hbk
    by_cases hk : k = n
    · subst hk
      have hmk : m ≠ k := fun h' => hkm h'.symm
      rw [hj] at e1; cases e1
      rw [hm] at h3; cases h3
      refine ⟨_, _, _, _, _, _, vm, em, gm, cm, sm, om, T.get_set_same _ _ _, by rw [hold m hmk]; exact h4, h5, fun ho => ⟨(h6 ho).1, fun _ ha => ?_⟩⟩
      rw [hB m Lm vm em gm cm sm om hmk e2 hbk.symm h4] at ha
      cases ha
    · by_cases hmn : m = n
      · subst hmn
        rw [hj] at e2; cases e2
        rw [hm] at h4; cases h4
        refine ⟨vn, en, gn, cn, sn, on, _, _, _, _, _, _, by rw [hold k hk]; exact h3, T.get_set_same _ _ _, h5, fun ho => ⟨(h6 ho).1, fun ha => ?_⟩⟩
        rw [hB k Lk vn en gn cn sn on hk e1 hbk h3] at ha
        cases ha
      · exact ⟨vn, en, gn, cn, sn, on, vm, em, gm, cm, sm, om, by rw [hold k hk]; exact h3, by rw [hold m hmn]; exact h4, h5, fun ho => ⟨(h6 ho).1, fun a1 a2 => (h6 ho).2 (hA _ _ a1) (hA _ _ a2)⟩⟩
  · by_cases hk : k = n
    · subst hk; rw [T.get_set_same] at he; cases he
    · rw [hold k hk] at he; exact h.tim k v' e' g' t sh' ow he
  · by_cases hk : k = n
    · subst hk
      rw [T.get_set_same] at e2; cases e2
      exact h.grp k Lk _ _ _ _ _ e1 hm
    · rw [hold k hk] at e2; exact h.grp k Lk v' e' g' c sh' e1 e2
  · by_cases hi2 : Lk.blk = L.blk
    · rw [hi2] at he; rw [hset] at he; cases he; rfl
    · rw [hoth _ hi2] at he; exact h.fz k Lk hjk hi c e' fr he
  · by_cases hk : k = n
    · subst hk
      rw [T.get_set_same] at e2; cases e2
      exact h.off0 _ Lk _ _ _ _ e1 hm
    · rw [hold k hk] at e2; exact h.off0 k Lk v' e' c sh' e1 e2

theorem Inv.store (h : Inv ρ w0 j H w) {n off : Nat} {L : Loc} {l : List AV} {vs : List Value} {H' : Heap} (hst : H.store n off l = some H') (hj : j n = some L) (hr : RL ρ j l vs) (P : Program) :
    ∃ w', (storeCells ⟨L.blk, L.off + off, none⟩ vs).run P w = .ok () w' ∧ Inv ρ w0 j H' w' ∧ St j H j H' := by
  unfold Heap.store at hst
  split at hst
  case h_2 => cases hst
  rename_i v esz g sh hm
  split at hst
  case h_2 => cases hst
  rename_i hle hc
  have hle : off + l.length ≤ v.n := Nat.le_of_ble_eq_true hle
  have hgs := h.grp n L v esz g none sh hj hm
  have hne : ∀ k, j k = none → k ≠ n := fun k e hk => by subst hk; rw [hj] at e; cases e
  split at hst
  · cases hst
    obtain ⟨w', h1, h2⟩ := h.stored hj hm hle hc hr (gw' := H.gw) (fun _ _ x => x) (fun m Lm vm em gm cm sm om hmn e hb hmm => by
      obtain ⟨vn, en, gn, cn, sn, on, vm', em', gm', cm', sm', om', h3, h4, h5, h6⟩ := h.sep n m L Lm (fun h' => hmn h'.symm) hj e hb.symm
      rw [hm] at h3; cases h3
      rw [hmm] at h4; cases h4
      cases ha : alive H.gw gm cm with
      | false => rfl
      | true => exact absurd ((h6 rfl).2 rfl ha rfl).1 (by simp)) h.gwt P
    refine ⟨w', h1, by rw [Heap.upd_eq]; exact h2, ?_⟩
    rw [Heap.upd_eq]
    exact ⟨Sub.refl j, (fun k L e e' => by rw [e] at e'; cases e'), fun k e _ => ⟨T.get_set_ne _ _ (hne k e), rfl⟩, Nat.le_refl _⟩
  · cases hst
    obtain ⟨w', h1, h2⟩ := h.stored hj hm hle hc hr (gw' := H.gw.set g H.nx) (fun g' c x => alive_set _ _ _ _ _ x (fun y hy => h.gwt g y hy)) (fun m Lm vm em gm cm sm om hmn e hb hmm => by
      obtain ⟨vn, en, gn, cn, sn, on, vm', em', gm', cm', sm', om', h3, h4, h5, h6⟩ := h.sep n m L Lm (fun h' => hmn h'.symm) hj e hb.symm
      rw [hm] at h3; cases h3
      rw [hmm] at h4; cases h4
      obtain ⟨rfl, h7⟩ := h6 rfl
      cases cm with
      | none => exact absurd rfl (h7 rfl rfl rfl).2.1
      | some t =>
        have := h.tim m vm em g t sm _ hmm
        simp only [alive, T.get_set_same]
        cases hx : Nat.blt H.nx t with
        | false => rfl
        | true => rw [Nat.blt_eq] at hx; omega)
      (fun g' x e => by
        by_cases hg : g' = g
        · subst hg; rw [T.get_set_same] at e; cases e; exact Nat.le_refl _
        · rw [T.get_set_ne _ _ hg] at e; exact h.gwt g' x e) P
    refine ⟨w', h1, by rw [Heap.wrote_eq, Heap.upd_eq]; exact h2, ?_⟩
    rw [Heap.wrote_eq, Heap.upd_eq]
    obtain ⟨Lg, hLg⟩ := hgs
    exact ⟨Sub.refl j, (fun k L e e' => by rw [e] at e'; cases e'), fun k e _ => ⟨T.get_set_ne _ _ (hne k e), T.get_set_ne _ _ (fun hk => by subst hk; rw [hLg] at e; cases e)⟩, Nat.le_refl _⟩

/-! ### Maps and iterators -/
def notCells : Obj → Bool
  | .cells .. => false
  | _ => true
def notRow : Go.Obj → Bool
  | .cells .. => false
  | _ => true

theorem Inv.setObj (h : Inv ρ w0 j H w) {n : Nat} {L : Loc} {o o' : Obj} {ob : Go.Obj} (hj : j n = some L) (hm : H.m.get n = some o) (ho : notCells o = true) (ho' : notCells o' = true)
    (hob : notRow ob = true) (hR : ∀ w' : World, w'.heap[L.blk]? = some ob → ObjR ρ j w0 w' H.gw L o') :
    Inv ρ w0 j (H.upd n o') { w with heap := w.heap.setIfInBounds L.blk ob } ∧ St j H j (H.upd n o') := by
  rw [Heap.upd_eq]
  obtain ⟨o1, h1, h2⟩ := h.obj n L hj
  rw [hm] at h1; cases h1
  have hbase : w0.heap.size ≤ L.blk := by
    cases o with
    | cells => cases ho
    | map => exact h2.1
    | iter => exact h2.1
    | mapu => exact h2.1
  have hlt := h.blk n L hj
  have hself : (w.heap.setIfInBounds L.blk ob)[L.blk]? = some ob := by simp [hlt]
  have hoth : ∀ k, k ≠ L.blk → (w.heap.setIfInBounds L.blk ob)[k]? = w.heap[k]? := fun k hk => by rw [Array.getElem?_setIfInBounds_ne (Ne.symm hk)]
  have hold : ∀ k, k ≠ n → (H.m.set n o').get k = H.m.get k := fun k hk => T.get_set_ne _ _ hk
  have huniq : ∀ m Lm, m ≠ n → j m = some Lm → Lm.blk ≠ L.blk := fun m Lm hmn e hb => by
    obtain ⟨vn, en, gn, cn, sn, on, vm, em, gm, cm, sm, om, h3, h4, _⟩ := h.sep m n Lm L hmn e hj hb
    rw [hm] at h4; cases h4; cases ho
  have hne : ∀ k, j k = none → k ≠ n := fun k e hk => by subst hk; rw [hj] at e; cases e
  refine ⟨⟨⟨h.fr.os, h.fr.out, h.fr.tape, ?_, fun i hi => ?_⟩, h.dom, fun k Lk e => ?_, fun k o' e => ?_, fun k Lk e => ?_, fun k m Lk Lm hkm e1 e2 hbk => ?_, fun k v' e' g' t sh' ow he => ?_, h.gwt, fun k Lk v' e' g' c sh' e1 e2 => ?_, fun k Lk hjk hi c e' fr he => ?_, fun k Lk v' e' c sh' e1 e2 => ?_⟩,
    Sub.refl j, (fun k L e e' => by rw [e] at e'; cases e'), fun k e _ => ⟨hold k (hne k e), rfl⟩, Nat.le_refl _⟩
  · simpa using h.fr.size
  · show (w.heap.setIfInBounds L.blk ob)[i]? = _
    rw [hoth i (by omega)]; exact h.fr.old i hi
  · show Lk.blk < (w.heap.setIfInBounds L.blk ob).size
    simpa using h.blk k Lk e
  · by_cases hk : k = n
    · subst hk; exact h.dom _ _ hj
    · rw [hold k hk] at e; exact h.used k _ e
  · by_cases hk : k = n
    · subst hk
      rw [hj] at e; cases e
      exact ⟨o', T.get_set_same _ _ _, hR _ hself⟩
    · obtain ⟨o2, h3, h4⟩ := h.obj k Lk e
      exact ⟨o2, by rw [hold k hk]; exact h3, ObjR.grow (Sub.refl j) (hoth _ (huniq k Lk hk e)) h4⟩
  · by_cases hk : k = n
    · subst hk
      rw [hj] at e1; cases e1
      exact absurd hbk.symm (huniq m Lm (fun h' => hkm h'.symm) e2)
    · by_cases hmn : m = n
      · subst hmn
        rw [hj] at e2; cases e2
        exact absurd hbk (huniq k Lk hk e1)
      · obtain ⟨vn, en, gn, cn, sn, on, vm, em, gm, cm, sm, om, h3, h4, h5⟩ := h.sep k m Lk Lm hkm e1 e2 hbk
        exact ⟨vn, en, gn, cn, sn, on, vm, em, gm, cm, sm, om, by rw [hold k hk]; exact h3, by rw [hold m hmn]; exact h4, h5⟩
  · by_cases hk : k = n
    · subst hk; rw [T.get_set_same] at he; cases he; cases ho'
    · rw [hold k hk] at he; exact h.tim k v' e' g' t sh' ow he
  · by_cases hk : k = n
    · subst hk; rw [T.get_set_same] at e2; cases e2; cases ho'
    · rw [hold k hk] at e2; exact h.grp k Lk v' e' g' c sh' e1 e2
  · have he : (w.heap.setIfInBounds L.blk ob)[Lk.blk]? = some (.cells c e' fr) := he
    by_cases hi2 : Lk.blk = L.blk
    · rw [hi2, hself] at he; cases he; cases hob
    · rw [hoth _ hi2] at he; exact h.fz k Lk hjk hi c e' fr he
  · by_cases hk : k = n
    · subst hk; rw [T.get_set_same] at e2; cases e2; cases ho'
    · rw [hold k hk] at e2; exact h.off0 k Lk v' e' c sh' e1 e2

theorem mapAt_eq {n : Nat} {es : List ME} {c : Nat} (h : H.mapAt n = some (es, c)) : H.m.get n = some (.map es c) := by
  unfold Heap.mapAt at h
  split at h
  · rename_i hm; cases h; exact hm
  · cases h

theorem Inv.mapAt (h : Inv ρ w0 j H w) {n : Nat} {L : Loc} {es : List ME} {c : Nat} (hj : j n = some L) (hm : H.mapAt n = some (es, c)) :
    ∃ arr, w.heap[L.blk]? = some (.map arr c) ∧ RM ρ j es arr.toList := by
  obtain ⟨o, h1, h2⟩ := h.obj n L hj
  rw [mapAt_eq hm] at h1; cases h1
  exact h2.2.2

theorem mapuAt_eq {n : Nat} {es : List ME} (h : H.mapuAt n = some es) : H.m.get n = some (.mapu es) := by
  unfold Heap.mapuAt at h
  split at h
  · rename_i hm; cases h; exact hm
  · cases h
theorem Inv.mapuAt (h : Inv ρ w0 j H w) {n : Nat} {L : Loc} {es : List ME} (hj : j n = some L) (hm : H.mapuAt n = some es) :
    ∃ arr clock es', w.heap[L.blk]? = some (.map arr clock) ∧ es'.Perm es ∧ RK ρ j es' arr.toList := by
  obtain ⟨o, h1, h2⟩ := h.obj n L hj
  rw [mapuAt_eq hm] at h1; cases h1
  exact h2.2.2

theorem run_getObj_map (P : Program) {r : Nat} {arr : Array MapEntry} {c : Nat} (h : w.heap[r]? = some (.map arr c)) : (getObj r).run P w = .ok (.map arr c) w := by
  simp [getObj, Sem.run, h]
theorem run_setObj_map (P : Program) {r : Nat} {o o' : Go.Obj} (h : w.heap[r]? = some o) (ho : notRow o = true) : (setObj r o').run P w = .ok () { w with heap := w.heap.setIfInBounds r o' } := by
  cases o <;> first | (cases ho; done) | simp [setObj, Sem.run, h]

theorem Inv.mapped (h : Inv ρ w0 j H w) {n : Nat} {L : Loc} {es es' : List ME} {c c' : Nat} {arr' : Array MapEntry} (hj : j n = some L) (hm : H.mapAt n = some (es, c)) (hr : RM ρ j es' arr'.toList) (P : Program) :
    ∃ w', (Go.setObj L.blk (.map arr' c')).run P w = .ok () w' ∧ Inv ρ w0 j (H.upd n (.map es' c')) w' ∧ St j H j (H.upd n (.map es' c')) := by
  obtain ⟨arr, h1, h2⟩ := h.mapAt hj hm
  obtain ⟨o, h3, h4⟩ := h.obj n L hj
  rw [mapAt_eq hm] at h3; cases h3
  exact ⟨_, run_setObj_map P h1 rfl, h.setObj hj (mapAt_eq hm) rfl rfl rfl fun w' e => ⟨h4.1, h4.2.1, arr', e, hr⟩⟩

end
end Go.Dw
