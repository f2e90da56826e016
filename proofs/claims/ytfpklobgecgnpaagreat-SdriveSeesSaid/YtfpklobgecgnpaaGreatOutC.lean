/-
  The contract of the split driver's 'Out', at this dump: the tokens of the chains that are out, sorted, in whatever order the map yields them. Condition: some chain is out, and each chain's token can be read.
-/
import Derived.Test.YtfpklobgecgnpaaGreatOrc
import Derived.Test.YtfpklobgecgnpaaGreatDwOut
import Derived.Sort.OwnSortedInts
import Derived.Maps.RangeWalk
import Derived.Maps.AppendAt
import Derived.Lib.SlKeysI
import Derived.WalkKit
namespace Go.Proofs
open Go.RowKit Go.Maps Go.Sort Go.Dw

theorem Tryz.infoI : (Tryz.prog.info? 3).map (fun i => (i.zero, i.size, i.bytes)) = some (some (.int .i64 0), 1, 8) := by kernel_rfl
theorem Tryz.lawI : Keyed Tryz.prog 3 := int_keyed Tryz.underlying3

set_option maxRecDepth 100000 in
theorem Tryz.made_any (Bd off b : Nat) (w : World) (hcell : w.cell? ⟨Bd, off + 12, none⟩ = some (.map (some b))) :
    Calls Tryz.prog 71 #[.pointer (some ⟨Bd, off, none⟩)] w fun e w' => e = .returned (.bool true) ∧ w' = w := by
  have hne : (binOp .neq 112 (.map (some b)) (.map none)).run Tryz.prog w = .ok (.bool true) w := by
    show (do pure (Value.bool (!(← Op.equal 112 (.map (some b)) (.map none)))) : Sem Value).run Tryz.prog w = _
    unfold Op.equal Op.maxDepth Op.equalIn
    simp only [Sem.run_bind, run_underlying Tryz.underlying112, Result.andThen_ok, Sem.run_pure]
    rfl
  go_enter Tryz.func71, Tryz.ntmps71
  go_wp2
  go_ret
  exact ⟨rfl, rfl⟩

set_option maxRecDepth 100000 in
set_option maxHeartbeats 1000000 in
theorem Tryz.out_any (Bd off b n : Nat) (D0 : DataW Unit) (w : World) (hcell : w.cell? ⟨Bd, off + 12, none⟩ = some (.map (some b))) (hown : w.ownsMap Tryz.prog 3 (rdTok w) b n D0) (hmax : Maps.size D0 ≤ 1000000) (hpos : 0 < Maps.size D0) :
    Calls Tryz.prog 59 #[.pointer (some ⟨Bd, off, none⟩)] w fun e w' => ∃ (g cap : Nat) (ss : List Int), e = .returned (.slice (some ⟨g, 0, none⟩) ss.length cap) ∧ ss.Perm (intKeys D0) ∧
      w'.ownsRow w.heap.size 3 1 (.slice (some ⟨g, 0, none⟩) ss.length cap) ss.length (((ss.map (tokOf D0)).mergeSort leI).map encZ) ∧ Below w.heap.size w w' := by
  obtain ⟨i0, hi, hz0, hz1, hzb⟩ := info_parts Tryz.infoI
  have hbl := hown.lt
  go_enter Tryz.func59, Tryz.ntmps59
  go_wp2_with (first
    | (go_at_call 71; refine (Tryz.made_any Bd off b w hcell).mono ?_; rintro e w' ⟨rfl, hw⟩; have hw := hw.symm; subst hw)
    | (at_range; go_loud (refine wpList_range_own _ rfl _ 112 rfl 3 114 Tryz.lawI Tryz.underlying112 (rdTok w) b n D0 rfl hown ?_); intro w0 hrg0 hg0 hs0)
    | go_in)
  go_frame
  go_loopw [2] (fun v wr => ∃ (left : Lit → Bool) (cnt : Nat) (ss : List Int), wr.ranges Tryz.prog 3 (rdTok w) b w.heap.size n D0 left cnt ∧ ss.length + cnt ≤ Maps.size D0 ∧
      wr.ownsRow w.heap.size 3 1 v ss.length ((ss.map (tokOf D0)).map encZ) ∧ (v = .slice none 0 0 ↔ ss = []) ∧ CollectedI D0 left ss ∧ Below w.heap.size w wr)
    (fun _ wr => wr.rangeLeft b w.heap.size)
  case atStart =>
    exact ⟨_, _, [], hrg0, by simp, World.ownsRow_nil _ _ _ _, by simp, CollectedI.start D0, (Below.refl _ _).grown hg0 (Nat.le_refl _) (fun j hj => by cases hj)⟩
  case round =>
    obtain ⟨left, cnt, ss, hrg, hcs, hrow, hnil, hC, hnx⟩ := hrel
    go_wp2_with (first
      | (at_next; refine wpList_next_ranges _ rfl _ rfl 3 Tryz.lawI (rdTok w) (Value.int .i64) (fun p : Nat × Nat => Value.pointer (some ⟨p.1, p.2, none⟩)) (fun key kl hk => by obtain ⟨x, hx, _⟩ := Maps.keyOf_i64 Tryz.underlying3 hk; exact ⟨x, hx⟩) (fun v y hv => by obtain ⟨a, z, rfl, _⟩ := rdTok_inv hv; exact ⟨a, rfl⟩) b w.heap.size n _ _ _ rfl hrg ?_ ?_)
      | go_in)
    · -- nothing is left: the slice is sorted and handed back
      intro hc0 hl0
      have hperm := hC.perm (hown.mono (Nat.le_refl _)) Tryz.lawI Tryz.underlying3 hl0
      rcases hrow.2 with ⟨hv0, _⟩ | ⟨g, cap, cur, rfl, hbase, hb, h1, h2, h3, h4⟩
      · exfalso
        have hs0 := hnil.1 hv0
        subst hs0
        have hl := hperm.length_eq
        have hsz := size_keys hown
        simp at hl
        omega
      have hlen : (ss.map (tokOf D0)).length = ss.length := by simp
      have hH : Holds (Value.int .i64) wr g 0 (ss.map (tokOf D0)).toArray := holds_of_blockI hb (by rw [hlen]; simpa using h4)
      have hgl : g < wr.heap.size := (Array.getElem?_eq_some_iff.1 hb).1
      have hc := AnyM.slices_Sort_int Tryz.sortA g 0 cap (ss.map (tokOf D0)) wr hH hgl (by rw [hlen]; omega)
      rw [hlen] at hc
      have hc : Calls Tryz.prog 99 #[.slice (some ⟨g, 0, none⟩) ss.length cap] wr _ := hc
      go_wp2_with (first
        | (go_at_call 99; refine hc.mono ?_; rintro e w' ⟨rfl, nn, os, rfl⟩)
        | go_in)
      go_ret
      refine ⟨g, cap, ss, rfl, hperm, ?_, hnx.grown (grownBy_sortedI _) hnx.size (fun j hj => by cases hj; exact hbase)⟩
      have := ownsRow_sortedI (w := wr) (n := nn) (os := os) (ts := (ss.map (tokOf D0)).mergeSort fun x y => decide (x ≤ y)) (ss := ss) (e := 3) (by simp) hbase hb h1 h2 h3
      exact this
    · -- an entry has come: its token goes to the slice's end
      intro x cB cO kl yd yp w2 cnt2 hkey hlk hv hat hrg2 hlt hg2 hs2 hen
      obtain ⟨x', ex, rfl, _⟩ := Maps.keyOf_i64 Tryz.underlying3 hkey
      obtain rfl : x = x' := encZ_inj ex
      obtain ⟨ad, z, ea, hz, ey⟩ := rdTok_inv hv
      cases ey
      have hz2 : w2.cell? ⟨cB, cO, none⟩ = some (.int .i64 z) := by
        have ea' : (⟨cB, cO, none⟩ : Addr) = ⟨ad.1, ad.2, none⟩ := by simpa using ea
        rw [ea']
        have hlt1 : ad.1 < w.heap.size := by
          cases hbk : w.heap[ad.1]? with
          | none => simp [World.cell?, hbk] at hz
          | some o => exact (Array.getElem?_eq_some_iff.1 hbk).1
        have e1 : w2.heap[ad.1]? = w.heap[ad.1]? := by rw [hg2.block _ (Nat.lt_of_lt_of_le hlt1 hnx.size) (fun e => by have := Option.some.inj e; omega), hnx.block _ hlt1]
        have : w2.cell? ⟨ad.1, ad.2, none⟩ = w.cell? ⟨ad.1, ad.2, none⟩ := by simp [World.cell?, e1]
        rw [this]
        exact hz
      have htok : tokOf D0 x = z := by unfold tokOf; rw [hat]; rfl
      have hrow2 := hrow.kept hg2 (Or.inr (row_ne_iter hrow hrg).symm)
      clear hs2
      go_wp2_with (first
        | (at_builtin; go_loud (refine wpList_append_own _ rfl _ _ 79 rfl w.heap.size 3 i0 (.int .i64 0) 1 8 Tryz.underlying79 hi hz0 hz1 hzb rfl (by decide) _ _ _ rfl (hrow2.alloc _) ⟨w2.heap.size, 0, none⟩ 1 1 [encZ z] rfl rfl (cell_one_new _ _ _) (by simp [Value.oneCell', encZ]) (by unfold maxLen at *; omega) (by omega) (by have := hnx.size; have := hg2.size; simp; omega) ?_); intro v' w3 hown' hg3 hnil3; go_frame)
        | go_in)
      have hrg3 := (hrg2.alloc _).kept hg3 (row_ne_low hrow2 hbl) (row_ne_iter hrow2 hrg2)
      refine ⟨⟨_, cnt2, ss ++ [x], hrg3, by simp; omega, by simpa [htok] using hown', ⟨fun hv' => ?_, fun h0 => ?_⟩, hC.step hlk hat, ?_⟩, ?_⟩
      · have := (hnil3.1 hv').2
        cases this
      · simp at h0
      · exact ((hnx.grown hg2 hnx.size (fun j hj => by cases hj; exact Nat.le_refl _)).alloc (by have := hnx.size; have := hg2.size; omega) _).grown hg3 (by have := hnx.size; have := hg2.size; simp; omega) (fun j hj => (hrow2.lt j hj).1)
      · rw [hrg3.left_eq, hrg.left_eq]
        exact hlt
theorem Tryz.outOk : Dw.OutOk Tryz.prog 59 12 :=
  ⟨⟨Tryz.f59, _, Tryz.func59, rfl, by decide⟩, fun w Bd off b es clock ks ts hcell hb hst hkeys hwf hlen hpos hts => by
    obtain ⟨D0, hown, hperm, hsize⟩ := Dw.ownsMap_tok (P := Tryz.prog) Tryz.underlying3 hb hst hkeys hwf hlen hts
    refine (Tryz.out_any Bd off b es.size D0 w hcell hown (by omega) (by omega)).mono fun e w' ⟨g, cap, ss, he, hss, hrow, hbl⟩ => ?_
    have hl : ss.length = ks.length := by rw [hss.length_eq, Dw.size_keys hown, hsize]
    have hm : (ss.map (tokOf D0)).mergeSort leI = ts.mergeSort leI := mergeSort_of_perm_i ((hss.map (tokOf D0)).trans hperm)
    rw [hm, hl] at hrow
    rw [hl] at he
    exact ⟨g, cap, 3, he, hrow, hbl⟩⟩
#print axioms Tryz.outOk
end Go.Proofs
