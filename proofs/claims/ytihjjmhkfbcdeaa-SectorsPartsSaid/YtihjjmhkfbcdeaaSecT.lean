import Derived.Test.YtihjjmhkfbcdeaaSecS
namespace Go.Proofs
open Go.RowKit Go.Maps Go.Sort

set_option maxRecDepth 100000 in
theorem Try.count_any (S n : Nat) (bs : Option Addr) (w : World) (hs : w.cell? ⟨S, 0, none⟩ = some (.slice bs n n)) :
    Calls Try.prog 19 #[.pointer (some ⟨S, 0, none⟩)] w fun e w' => e = .returned (.int .i64 n) ∧ w' = w := by
  go_enter Try.func19, Try.ntmps19
  go_wp2
  go_ret
  exact ⟨rfl, rfl⟩

/-- What the cells hold, as a row. -/
def Try.image (f : Nat → Int) (n : Nat) : List Value := (List.range n).map fun j => .int .u8 (f j)
theorem Try.image_step (f : Nat → Int) (i : Nat) : Try.image f (i * 512) ++ ((List.range 512).map fun j => Value.int .u8 (f (i * 512 + j))) = Try.image f ((i + 1) * 512) := by
  unfold Try.image
  rw [show (i + 1) * 512 = i * 512 + 512 by omega, List.range_add, List.map_append, List.map_map]
  rfl

set_option maxRecDepth 100000 in
set_option maxHeartbeats 1000000 in
theorem Try.read_image (S B M n m : Nat) (f : Nat → Int) (K : Int → Bool) (w : World) (st : Try.Whole w S B M n m f K) (hn : n ≤ 80) :
    Calls Try.prog 10 #[.pointer (some ⟨S, 0, none⟩), .int .u64 0, .int .i64 n] w fun e w' => ∃ v, e = .returned (.tuple #[v, .int .i64 0]) ∧ w'.ownsRow w.heap.size 5 1 v (n * 512) (Try.image f (n * 512)) ∧ Below w.heap.size w w' := by
  obtain ⟨hz, hsz⟩ := zero_of_info Try.info50
  obtain ⟨i0, hi0, hz0, hz1, hzb⟩ := info_parts Try.infoB2
  have hc := Try.has_yes S n _ 0 n w st.s0 (by omega) (by omega) (by omega)
  have hwk := Try.wrap_u64 n (by omega)
  go_enter Try.func10, Try.ntmps10
  go_wp2_with (first
    | (go_at_call 9; refine hc.mono ?_; rintro e w' ⟨rfl, hw⟩; have hw := hw.symm; subst hw)
    | go_in)
  go_loopw [8, 24] (fun v c wr => ∃ i : Nat, i ≤ n ∧ c = .int .i64 i ∧ wr.ownsRow w.heap.size 5 1 v (i * 512) (Try.image f (i * 512)) ∧ Below w.heap.size w wr) (fun _ c _ => n - (RowKit.intOf c).toNat)
  case atStart => exact ⟨0, Nat.zero_le _, rfl, World.ownsRow_nil _ _ _ _, Below.refl _ _⟩
  case round =>
    obtain ⟨i, hi, rfl, hrow, hnx⟩ := hrel
    have st' := st.kept (w' := wr) (fun j hj _ => hnx.block j hj) hnx.size
    by_cases hik : i < n
    · have hur := st'.range i hik
      have hu0 := Try.image_step f i
      obtain ⟨us, hus⟩ : ∃ us, (List.range 512).map (fun j => Value.int .u8 (f (i * 512 + j))) = us := ⟨_, rfl⟩
      have hul : us.length = 512 := by rw [← hus, List.length_map, List.length_range]
      have hu1 : ∀ v ∈ us, v.oneCell' = true := fun v hv => by
        rw [← hus] at hv
        obtain ⟨j, _, rfl⟩ := List.mem_map.1 hv
        rfl
      rw [hus] at hur hu0
      clear hus
      have c0 := st'.s0
      go_wp2_with (first
        | (at_builtin; go_loud (refine wpList_append_own _ rfl _ _ 30 rfl w.heap.size 5 i0 (.int .u8 0) 1 1 Try.underlying30 hi0 hz0 hz1 hzb rfl (by decide) _ _ _ rfl hrow ⟨B, i * 512, none⟩ 512 512 us rfl (by rw [hul]) (fun j v hv => by rw [Addr.add_mid]; exact hur j v hv) hu1 (by unfold maxLen; omega) (by omega) hnx.size ?_); intro v' w3 hown' hg3 hnil3; go_frame)
        | go_in)
      rw [hu0] at hown'
      refine ⟨⟨i + 1, by omega, by push_cast; rfl, by rw [show (i + 1) * 512 = i * 512 + 512 by omega] at hown' ⊢; exact hown', hnx.grown hg3 hnx.size (fun j hj => (hrow.lt j hj).1)⟩, by simp only [RowKit.intOf]; omega⟩
    · have hik' : i = n := by omega
      subst hik'
      go_wp2
      go_ret2
      exact ⟨u8, rfl, hrow, hnx⟩

set_option maxRecDepth 100000 in
set_option maxHeartbeats 1000000 in
theorem Try.image_any (S B M n m : Nat) (f : Nat → Int) (K : Int → Bool) (w : World) (st : Try.Whole w S B M n m f K) (hn : n ≤ 80) :
    Calls Try.prog 14 #[.pointer (some ⟨S, 0, none⟩)] w fun e w' => ∃ v, e = .returned v ∧ w'.ownsRow w.heap.size 5 1 v (n * 512) (Try.image f (n * 512)) ∧ Below w.heap.size w w' := by
  go_enter Try.func14, Try.ntmps14
  go_wp2_with (first
    | (go_at_call 19; refine (Try.count_any S n _ _ st.s0).mono ?_; rintro e w' ⟨rfl, hw⟩; have hw := hw.symm; subst hw)
    | (go_at_call 10; refine (Try.read_image S B M n m f K _ st hn).mono ?_; rintro e w' ⟨v, rfl, hrow, hb⟩)
    | go_in)
  go_ret
  exact ⟨v, rfl, hrow, hb⟩
end Go.Proofs
