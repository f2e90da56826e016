import Derived.Test.YtihjjmhkfbcdeaaSecB
import Derived.StillTailTactics
import Derived.Maps.OwnSet
namespace Go.Proofs
open Go.RowKit Go.Maps Go.Sort

theorem Try.Store.set {w : World} {S B M n m : Nat} (h : Try.Store w S B M n m) (i : Nat) (hi : i < n) (vs : List Value) (hl : vs.length = 512) (h1 : ∀ v ∈ vs, v.oneCell' = true) : Try.Store (w.setCells B (i * 512) vs) S B M n m := by
  have hg := Try.setCells_grown B vs (i * 512) w
  have eS := hg.block S h.sl (fun e => h.sb (Option.some.inj e))
  have eM := hg.block M h.ml (fun e => h.bm (Option.some.inj e).symm)
  refine ⟨?_, ?_, fun j hj => ?_, fun j hj => ?_, ?_, h.sb, h.sm, h.bm, Nat.lt_of_lt_of_le h.bl hg.size⟩
  · rw [World.cell?_of_block (a := ⟨S, 0, none⟩) eS]; exact h.s0
  · rw [World.cell?_of_block (a := ⟨S, 1, none⟩) eS]; exact h.s1
  · by_cases hin : i * 512 ≤ j ∧ j < i * 512 + 512
    · obtain ⟨d, rfl⟩ : ∃ d, j = i * 512 + d := ⟨j - i * 512, by omega⟩
      have hd : d < vs.length := by omega
      rw [World.cell?_setCells_in B vs (i * 512) w (fun k hk => (h.there i hi k (by omega)).1) d hd]
      exact ⟨_, rfl, h1 _ (List.getElem_mem hd)⟩
    · rw [World.cell?_setCells_out B vs (i * 512) w ⟨B, j, none⟩ (fun _ _ => by
        show j < i * 512 ∨ i * 512 + vs.length ≤ j
        omega)]
      exact h.full j hj
  · rw [World.frozen?_setCells]; exact h.free j hj
  · obtain ⟨D, es, clock, hb, F, hn, hD⟩ := h.map
    exact ⟨D, es, clock, eM.trans hb, F, hn, hD⟩

theorem Try.Store.put {w w' : World} {S B M n m m' : Nat} {D : DataW Unit} (h : Try.Store w S B M n m) (hg : w.grownBy w' (some M)) (hD : w'.ownsMap Try.prog 3 Try.RR M m' D) : Try.Store w' S B M n m' := by
  have eS := hg.block S h.sl (fun e => h.sm (Option.some.inj e))
  have eB := hg.block B h.bl (fun e => h.bm (Option.some.inj e))
  refine ⟨?_, ?_, fun j hj => ?_, fun j hj => ?_, ⟨D, hD⟩, h.sb, h.sm, h.bm, Nat.lt_of_lt_of_le h.bl hg.size⟩
  · rw [World.cell?_of_block (a := ⟨S, 0, none⟩) eS]; exact h.s0
  · rw [World.cell?_of_block (a := ⟨S, 1, none⟩) eS]; exact h.s1
  · rw [World.cell?_of_block (a := ⟨B, j, none⟩) eB]; exact h.full j hj
  · rw [World.frozen?_of_block (a := ⟨B, j, none⟩) eB]; exact h.free j hj
theorem Try.Store.mono {w : World} {S B M n m m' : Nat} (h : Try.Store w S B M n m) (hm : m ≤ m') : Try.Store w S B M n m' := by
  obtain ⟨D, hD⟩ := h.map
  exact ⟨h.s0, h.s1, h.full, h.free, ⟨D, hD.mono hm⟩, h.sb, h.sm, h.bm, h.bl⟩
theorem Try.range_kept {w w' : World} {b o : Nat} {cs : List Value} (h : w.rangeAt b o cs) (e : w'.heap[b]? = w.heap[b]?) : w'.rangeAt b o cs := fun j v hv => by
  rw [World.cell?_of_block (a := ⟨b, o + j, none⟩) e]; exact h j v hv
theorem Try.info50 : (Try.prog.info? 50).map (fun i => (i.zero, i.size)) = some (some (.agg (Array.replicate 512 (.int .u8 0))), 512) := by kernel_rfl
theorem Try.zeros1 : (Array.replicate 512 (Value.int .u8 0)).all (·.oneCell') = true := Array.all_eq_true_iff_forall_mem.2 (fun v hv => by rw [(Array.mem_replicate.1 hv).2]; rfl)
theorem Try.Store.drew {w : World} {S B M n m : Nat} (h : Try.Store w S B M n m) : Try.Store w.drew S B M n m := h.kept (fun _ _ _ => rfl) (Nat.le_refl _)
theorem Try.keyI : Keyed Try.prog 3 := int_keyed Try.underlying3

/-- A load of many cells in a region that only reads. -/
theorem Try.still_load {P : Program} {ops : Array Oper} {w : World} {Q : Act → Prop} {a : Act} {o : Oper} {rest : List Oper} (hg : o.guard = none) (ty : TypeId) (x : Operand) (ho : o.op = .load ty x)
    (b off : Nat) (hx : a.eval x = .pointer (some ⟨b, off, none⟩)) (cs : List Value) (d : TypeDesc) (hc : w.rangeAt b off cs)
    (hu : P.underlying ty = some d) (hd : d.isRow = true) (hi : (P.info? ty).map (·.size) = some cs.length) (h : wpStill P ops w Q rest (a.put o.dst (.agg cs.toArray))) : wpStill P ops w Q (o :: rest) a := by
  refine wpStill_step fun K hK => ?_
  simp only [Region.wanted, hg, if_true]
  unfold Oper.still execOp
  simp only [ho, hx, Instr.loadAt, Instr.sureAddr, Sem.run_bind, Sem.run_pure, Result.andThen_ok, run_loadVar_mid w b off ty cs d hc hu hd hi]
  exact ⟨rfl, hK _ h⟩

set_option maxRecDepth 100000 in
set_option maxHeartbeats 1000000 in
theorem Try.put_any (S B M n m i : Nat) (cs : Array Value) (w : World) (st : Try.Store w S B M n m) (hi : i < n) (hn : n ≤ 4096) (hm : m ≤ 1000000) (hcs : cs.size = 512) (h1 : cs.all (·.oneCell') = true) :
    Calls Try.prog 21 #[.pointer (some ⟨S, 0, none⟩), .int .i64 i, .agg cs] w fun e w' => e = .returned (.tuple #[]) ∧ Try.Store w' S B M n (m + 1) ∧ Try.Moved B M w w' := by
  obtain ⟨hz, hsz⟩ := zero_of_info Try.info50
  have h1' : ∀ v ∈ cs.toList, v.oneCell' = true := fun v hv => (Array.all_eq_true_iff_forall_mem.1 h1) v (by simpa using hv)
  go_enter Try.func21, Try.ntmps21
  have st1 := st.kept (w' := w.alloc (.cells cs 50)) (fun k hk _ => Below.heap_alloc w _ k hk) (by simp)
  have c0 := st1.s0
  have c1 := st1.s1
  obtain ⟨D, hD⟩ := st1.map
  have hkey : keyOf Try.prog 3 (.int .i64 i) = some (.int .i64 i) := keyOf_int_mk Try.underlying3 (by simp [Lit.wf, IntKind.min, IntKind.max, IntKind.signed, IntKind.bits]; omega)
  have hst : ∀ vs : Array Value, vs.size = 512 → (vs.all (·.oneCell')) = true → (storeCells ⟨w.heap.size + 1, 0, none⟩ vs.toList).run Try.prog ((w.alloc (.cells cs 50)).alloc (.cells (Array.replicate 512 (.int .u8 0)) 50)) = .ok () ((w.alloc (.cells cs 50)).alloc (.cells vs 50)) := fun vs h2 h3 => by
    have := run_storeCells_new (P := Try.prog) (w.alloc (.cells cs 50)) 50 (Array.replicate 512 (.int .u8 0)) vs (by rw [hsz, h2]) (by simp [h2]) h3
    simpa using this
  go_wp2_with (first
    | (at_lookup; go_loud (refine wpList_lookup_own_ok _ rfl _ _ 46 rfl 3 50 Try.keyI Try.underlying46 Try.RR (hz _) .nil [] (Try.RR_mk (by simp) Try.zeros1) M m D rfl hD _ _ rfl hkey ?_); intro v ps hv; obtain ⟨vs, rfl, hvs, hv1⟩ := Try.RR_inv hv)
    | go_in)
  have hst1 := hst vs hvs hv1
  rw [hst1]
  simp only [Result.andThen_ok]
  have st2 := st1.kept (w' := (w.alloc (.cells cs 50)).alloc (.cells vs 50)) (fun k hk _ => Below.heap_alloc _ _ k hk) (by simp)
  have mv2 : Try.Moved B M w ((w.alloc (.cells cs 50)).alloc (.cells vs 50)) := ((Try.Moved.refl B M w).alloc _).alloc _
  have bx2 : ((w.alloc (.cells cs 50)).alloc (.cells vs 50)).rangeAt w.heap.size 0 cs.toList := by
    intro j v hv
    have e : ((w.alloc (.cells cs 50)).alloc (.cells vs 50)).heap[w.heap.size]? = some (.cells cs 50 (0, 0)) := by
      rw [Below.heap_alloc (w.alloc (.cells cs 50)) _ w.heap.size (by simp)]
      exact heap_alloc_last w _
    rw [cell_of_row _ w.heap.size (0 + j) cs 50 (0, 0) e]
    simpa using hv
  clear hst hst1 c0 c1 hD hv st1
  generalize hwq : (w.alloc (.cells cs 50)).alloc (.cells vs 50) = w2 at st2 mv2 bx2 ⊢
  clear hwq
  go_wp2
  · have c0 := st2.s0
    have c1 := st2.s1
    obtain ⟨us, hus, hru, hu1⟩ := st2.range i hi
    go_still_tail 12, (by kernel_rfl)
    refine Try.still_load rfl 50 _ rfl B (i * 512) rfl us (.array 512 5) hru Try.underlying50 rfl (by rw [hsz, hus]) ?_
    refine wpStill_nil ?_
    change wpList _ _ _ _ _ w2.drew
    obtain ⟨D2, hD2⟩ := st2.map
    refine wpList_mapUpdate_own _ rfl _ _ _ 46 rfl 3 50 Try.keyI Try.underlying46 Try.RR M m D2 rfl hD2.drew (by unfold maxLen; omega) _ _ _ rfl rfl hkey .nil [] (Try.RR_mk (by simp [hus]) (all_oneCell_toArray hu1)) ?_
    intro w3 hown3 hg3
    have st3 := st2.put (w' := w3) (m' := m + 1) ⟨hg3.os, hg3.tape, hg3.output, hg3.size, hg3.block⟩ hown3
    have mv3 := mv2.drew.grown hg3 (Or.inr (Or.inl rfl))
    have bx3 : w3.rangeAt w.heap.size 0 cs.toList := Try.range_kept bx2 (hg3.block _ (World.block_lt_of_cell? w2 _ (bx2 0 (cs[0]'(by omega)) (by simp))) (fun e => by have := Option.some.inj e; have := st.ml; omega))
    clear hown3 hg3 hD2 c0 c1 hru hus hu1 st2 mv2 bx2
    have c0 := st3.s0
    have c1 := st3.s1
    go_wp2
    go_frame
    go_still_tail 7, (by kernel_rfl)
    refine Try.still_load rfl 50 _ rfl w.heap.size 0 rfl cs.toList (.array 512 5) bx3 Try.underlying50 rfl (by simp [hsz, hcs]) ?_
    still_step
    refine wpStill_nil ?_
    change wpList _ _ _ _ _ w3.drew
    refine wpList_store_mid rfl 50 _ _ rfl B (i * 512) cs rfl rfl ?_ (by rw [hsz, hcs]) h1 ?_
    · rw [hcs]; simpa using st3.there i hi
    go_wp2
    go_end0
    exact ⟨rfl, (st3.drew.set i hi cs.toList (by simp [hcs]) h1'), (mv3.drew).grown (Try.setCells_grown _ _ _ _) (Or.inl rfl)⟩
  · have c0 := st2.s0
    have c1 := st2.s1
    go_still_tail 7, (by kernel_rfl)
    refine Try.still_load rfl 50 _ rfl w.heap.size 0 rfl cs.toList (.array 512 5) bx2 Try.underlying50 rfl (by simp [hsz, hcs]) ?_
    still_step
    refine wpStill_nil ?_
    change wpList _ _ _ _ _ w2.drew
    refine wpList_store_mid rfl 50 _ _ rfl B (i * 512) cs rfl rfl ?_ (by rw [hsz, hcs]) h1 ?_
    · rw [hcs]; simpa using st2.there i hi
    go_wp2
    go_end0
    have st3 := st2.drew.mono (Nat.le_succ m)
    exact ⟨rfl, (st3.set i hi cs.toList (by simp [hcs]) h1'), (mv2.drew).grown (Try.setCells_grown _ _ _ _) (Or.inl rfl)⟩
end Go.Proofs
