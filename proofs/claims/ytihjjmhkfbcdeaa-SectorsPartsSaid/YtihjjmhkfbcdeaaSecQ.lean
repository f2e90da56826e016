import Derived.Test.YtihjjmhkfbcdeaaSecP
namespace Go.Proofs
open Go.RowKit Go.Maps Go.Sort

theorem Try.has_put {D : DataW Unit} {K : Int → Bool} {i : Nat} (hD : IsMap D) (hK : ∀ x : Int, has D (.int .i64 x) = K x) (x : Int) : has (D.put (.int .i64 i) .nil) (.int .i64 x) = Try.keysAt K i 1 x := by
  unfold Try.keysAt
  by_cases hx : x = (i : Int)
  · rw [hx, has_put_same hD (by trivial), decide_eq_true (by omega), Bool.or_true]
  · rw [has_put_other (fun e => hx (by simpa using e)), hK, decide_eq_false (by omega), Bool.or_false]

set_option maxRecDepth 100000 in
set_option maxHeartbeats 1000000 in
theorem Try.put_whole (S B M n m i : Nat) (v : Int) (f : Nat → Int) (K : Int → Bool) (w : World) (st : Try.Whole w S B M n m f K) (hi : i < n) (hn : n ≤ 4096) (hm : m ≤ 1000000) :
    Calls Try.prog 21 #[.pointer (some ⟨S, 0, none⟩), .int .i64 i, .agg (Array.replicate 512 (.int .u8 v))] w fun e w' => e = .returned (.tuple #[]) ∧ Try.Whole w' S B M n (m + 1) (Try.fillAt f i 1 v) (Try.keysAt K i 1) ∧ Try.Moved B M w w' := by
  obtain ⟨cs, hcv⟩ : ∃ cs, Array.replicate 512 (Value.int .u8 v) = cs := ⟨_, rfl⟩
  have hcs : cs.size = 512 := by rw [← hcv]; exact Array.size_replicate
  have h1 : cs.all (·.oneCell') = true := by rw [← hcv]; exact Array.all_eq_true_iff_forall_mem.2 (fun u hu => by rw [(Array.mem_replicate.1 hu).2]; rfl)
  have hlv : (fun _ : Unit => cs.toList) = fun _ => List.replicate 512 (.int .u8 v) := by rw [← hcv, Array.toList_replicate]
  rw [hcv]
  clear hcv
  obtain ⟨hz, hsz⟩ := zero_of_info Try.info50
  have h1' : ∀ v ∈ cs.toList, v.oneCell' = true := fun v hv => (Array.all_eq_true_iff_forall_mem.1 h1) v (by simpa using hv)
  go_enter Try.func21, Try.ntmps21
  have st1 := st.kept (w' := w.alloc (.cells cs 50)) (fun k hk _ => Below.heap_alloc w _ k hk) (by simp)
  have c0 := st1.s0
  have c1 := st1.s1
  obtain ⟨D, hD, hDK0⟩ := st1.map
  have hDK : (fun x : Int => has D (.int .i64 x)) = K := funext hDK0
  clear hDK0
  have hkey : keyOf Try.prog 3 (.int .i64 i) = some (.int .i64 i) := keyOf_int_mk Try.underlying3 (by simp [Lit.wf, IntKind.min, IntKind.max, IntKind.signed, IntKind.bits]; omega)
  have hst : ∀ vs : Array Value, vs.size = 512 → (vs.all (·.oneCell')) = true → (storeCells ⟨w.heap.size + 1, 0, none⟩ vs.toList).run Try.prog ((w.alloc (.cells cs 50)).alloc (.cells (Array.replicate 512 (.int .u8 0)) 50)) = .ok () ((w.alloc (.cells cs 50)).alloc (.cells vs 50)) := fun vs h2 h3 => by
    have := run_storeCells_new (P := Try.prog) (w.alloc (.cells cs 50)) 50 (Array.replicate 512 (.int .u8 0)) vs (by rw [hsz, h2]) (by simp [h2]) h3
    simpa using this
  go_wp2_with (first
    | (at_lookup; go_loud (refine wpList_lookup_own_ok _ rfl _ _ 46 rfl 3 50 Try.keyI Try.underlying46 Try.RR (hz _) .nil [] (Try.RR_mk (by simp) Try.zeros1) M m D rfl hD _ _ rfl hkey ?_); intro v ps hv; obtain ⟨vs, rfl, hvs, hv1⟩ := Try.RR_inv hv)
    | go_in)
  have hst1 := hst vs hvs hv1
  rw [hst1]
  simp only [Result.andThen_ok]
  have st2 := st1.kept (w' := (w.alloc (.cells cs 50)).alloc (.cells vs 50)) (fun k hk _ => Below.heap_alloc _ _ k hk) (by simp)
  have mv2 : Try.Moved B M w ((w.alloc (.cells cs 50)).alloc (.cells vs 50)) := ((Try.Moved.refl B M w).alloc _).alloc _
  have bx2 : ((w.alloc (.cells cs 50)).alloc (.cells vs 50)).rangeAt w.heap.size 0 cs.toList := by
    intro j v hv
    have e : ((w.alloc (.cells cs 50)).alloc (.cells vs 50)).heap[w.heap.size]? = some (.cells cs 50 (0, 0)) := by
      rw [Below.heap_alloc (w.alloc (.cells cs 50)) _ w.heap.size (by simp)]
      exact heap_alloc_last w _
    rw [cell_of_row _ w.heap.size (0 + j) cs 50 (0, 0) e]
    simpa using hv
  clear hst hst1 c0 c1 hD hv st1
  generalize hwq : (w.alloc (.cells cs 50)).alloc (.cells vs 50) = w2 at st2 mv2 bx2 ⊢
  clear hwq
  go_wp2
  · have c0 := st2.s0
    have c1 := st2.s1
    obtain ⟨us, hus, hru, hu1⟩ := st2.store.range i hi
    have hKi : K i = false := by
      have h := ‹(!has D (.int .i64 i)) = true›
      rw [← congrFun hDK i]
      simpa using h
    go_still_tail 12, (by kernel_rfl)
    refine Try.still_load rfl 50 _ rfl B (i * 512) rfl us (.array 512 5) hru Try.underlying50 rfl (by rw [hsz, hus]) ?_
    refine wpStill_nil ?_
    change wpList _ _ _ _ _ w2.drew
    obtain ⟨D2, hD2, hK2⟩ := st2.map
    refine wpList_mapUpdate_own _ rfl _ _ _ 46 rfl 3 50 Try.keyI Try.underlying46 Try.RR M m D2 rfl hD2.drew (by unfold maxLen; omega) _ _ _ rfl rfl hkey .nil [] (Try.RR_mk (by simp [hus]) (all_oneCell_toArray hu1)) ?_
    intro w3 hown3 hg3
    have st3 := st2.put (w' := w3) (m' := m + 1) ⟨hg3.os, hg3.tape, hg3.output, hg3.size, hg3.block⟩ hown3 (K' := Try.keysAt K i 1) (Try.has_put hD2.isMap hK2)
    have mv3 := mv2.drew.grown hg3 (Or.inr (Or.inl rfl))
    have bx3 : w3.rangeAt w.heap.size 0 cs.toList := Try.range_kept bx2 (hg3.block _ (World.block_lt_of_cell? w2 _ (bx2 0 (cs[0]'(by omega)) (by simp))) (fun e => by have := Option.some.inj e; have := st.store.ml; omega))
    clear hown3 hg3 hD2 c0 c1 hru hus hu1 st2 mv2 bx2
    have c0 := st3.s0
    have c1 := st3.s1
    go_wp2
    go_frame
    go_still_tail 7, (by kernel_rfl)
    refine Try.still_load rfl 50 _ rfl w.heap.size 0 rfl cs.toList (.array 512 5) bx3 Try.underlying50 rfl (by simp [hsz, hcs]) ?_
    still_step
    refine wpStill_nil ?_
    change wpList _ _ _ _ _ w3.drew
    refine wpList_store_mid rfl 50 _ _ rfl B (i * 512) cs rfl rfl ?_ (by rw [hsz, hcs]) h1 ?_
    · rw [hcs]; simpa using st3.store.there i hi
    go_wp2
    go_end0
    exact ⟨rfl, by rw [congrFun hlv ()]; exact st3.drew.set i hi v, (mv3.drew).grown (Try.setCells_grown _ _ _ _) (Or.inl rfl)⟩
  · have c0 := st2.s0
    have c1 := st2.s1
    go_still_tail 7, (by kernel_rfl)
    refine Try.still_load rfl 50 _ rfl w.heap.size 0 rfl cs.toList (.array 512 5) bx2 Try.underlying50 rfl (by simp [hsz, hcs]) ?_
    still_step
    refine wpStill_nil ?_
    change wpList _ _ _ _ _ w2.drew
    refine wpList_store_mid rfl 50 _ _ rfl B (i * 512) cs rfl rfl ?_ (by rw [hsz, hcs]) h1 ?_
    · rw [hcs]; simpa using st2.store.there i hi
    go_wp2
    go_end0
    have hKi : K i = true := by
      first
        | (have h := ‹has D (.int .i64 i) = true›; rw [← congrFun hDK i]; exact h)
        | (have h := ‹(!has D (.int .i64 i)) = false›; rw [← congrFun hDK i]; simpa using h)
    have st3 := (st2.drew.mono (Nat.le_succ m)).congr (K' := Try.keysAt K i 1) (fun _ _ => rfl) (fun x => by
      unfold Try.keysAt
      by_cases hx : x = (i : Int)
      · rw [hx, hKi]; rfl
      · rw [decide_eq_false (by omega), Bool.or_false])
    exact ⟨rfl, by rw [congrFun hlv ()]; exact st3.set i hi v, (mv2.drew).grown (Try.setCells_grown _ _ _ _) (Or.inl rfl)⟩
end Go.Proofs
