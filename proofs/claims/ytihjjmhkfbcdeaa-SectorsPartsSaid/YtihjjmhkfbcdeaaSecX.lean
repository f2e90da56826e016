import Derived.Test.YtihjjmhkfbcdeaaSecW
import Derived.Deep.CutBlock
namespace Go.Proofs
open Go.RowKit Go.Maps Go.Sort

set_option maxRecDepth 100000 in
set_option maxHeartbeats 2000000 in
theorem Try.parts_out (hl : ∀ w, Calls Try.prog 6 #[] w fun e w' => e = .returned (.bool true) ∧ Below w.heap.size w w') (x0 p x2 v : Int) (r0 k q : Nat) (w : World) (hr0 : r0 < 40) (hk : k < 40) (hq60 : q < 60) (hin : ¬ q + k ≤ r0 + 1)
    (c0 : ∀ w : World, Calls Try.prog 7 #[.int .i64 x0, .int .i64 40] w fun e w' => e = .returned (.int .i64 r0) ∧ w' = w) (c2 : ∀ w : World, Calls Try.prog 7 #[.int .i64 x2, .int .i64 40] w fun e w' => e = .returned (.int .i64 k) ∧ w' = w)
    (hq : p.tmod 60 = (q : Int)) :
    Calls Try.prog 4 #[.int .i64 x0, .int .u64 p, .int .i64 x2, .int .u8 v] w fun e w' => e = .returned (.bool true) ∧ Below w.heap.size w w' := by
  obtain ⟨n, hn⟩ : ∃ n, n = r0 + 1 := ⟨_, rfl⟩
  have hnew := fun w => Try.new_whole n w (by omega) (by omega)
  rw [show (n : Int) = 1 + (r0 : Int) by omega] at hnew
  have hn1 : n ≤ r0 + 1 := by omega
  have hn2 : r0 + 1 ≤ n := by omega
  clear hn
  have hwk := Try.wrap_u64 k (by omega)
  have hwq := Try.wrap_u64 q (by omega)
  go_enter Try.func4, Try.ntmps4
  go_upto_block 0 with (first
    | (go_at_call 6; refine (hl _).mono ?_; rintro e w1 ⟨rfl, hb1⟩)
    | (go_at_call_has 7 x0; refine (c0 _).mono ?_; rintro e w1' ⟨rfl, hw⟩; have hw := hw.symm; subst hw)
    | (go_at_call_has 7 x2; refine (c2 _).mono ?_; rintro e w1' ⟨rfl, hw⟩; have hw := hw.symm; subst hw)
    | (go_at_call 8; have hh := hbc; clear hh; refine (hnew _).mono ?_; rintro e wd ⟨Sd, Bd, Md, rfl, std, hbd, hSd, hBd, hMd⟩)
    | (go_at_call 8; have hh := hbb; clear hh; refine (hnew _).mono ?_; rintro e wc ⟨Sc, Bc, Mc, rfl, stc, hbc, hSc, hBc, hMc⟩)
    | (go_at_call 8; have hh := hba; clear hh; refine (hnew _).mono ?_; rintro e wb ⟨Sb, Bb, Mb, rfl, stb, hbb, hSb, hBb, hMb⟩)
    | (go_at_call 8; refine (hnew _).mono ?_; rintro e wa ⟨Sa, Ba, Ma, rfl, sta, hba, hSa, hBa, hMa⟩)
    | (go_at_call_has 12 (Value.int .i64 (k : Int)); refine (Try.row_uni k v _ (by omega)).mono ?_; rintro e w5 ⟨sa5, cap5, rfl, hc5, hd5, hb5⟩; have sta5 := ((((sta.below hbb).below hbc).below hbd).below hb5))
    | (go_at_call 11; refine (Try.write_out Sa n k cap5 sa5 _ q _ sta5.s0 (by omega) (by omega) (by omega) (by omega)).mono ?_; rintro e w6 ⟨rfl, hw⟩; have hw := hw.symm; subst hw)
    | go_in)
  have la1 := sta.store.sl
  have la2 := sta.bl
  have la3 := sta.store.ml
  have lb1 := stb.store.sl
  have lb2 := stb.bl
  have lb3 := stb.store.ml
  have lc1 := stc.store.sl
  have lc2 := stc.bl
  have lc3 := stc.store.ml
  have ld1 := std.store.sl
  have ld2 := std.bl
  have ld3 := std.store.ml
  have z1 := hba.size
  have z2 := hbb.size
  have z3 := hbc.size
  have z4 := hbd.size
  have z5 := hb5.size
  have stb6 := ((stb.below hbc).below hbd).below hb5
  have stc6 := (stc.below hbd).below hb5
  have std6 := std.below hb5
  have e1 := hb1.size
  have e6 : Below w.heap.size w w5 := (((((hb1.trans (hba.mono e1)).trans (hbb.mono (by omega))).trans (hbc.mono (by omega))).trans (hbd.mono (by omega))).trans (hb5.mono (by omega)))
  clear hd5 hnew
  go_cut [18] from 19 to 87 (fun s18 wx => (s18 = .int .i64 5 ∨ (s18 = .int .i64 0 ∧ k = 0)) ∧ Try.Moved Bb Mb w5 wx)
  case first =>
    go_wp2_with fail
    go_loopw [18, 19] (fun pv c wr => ∃ i : Nat, i ≤ k ∧ c = .int .i64 i ∧ ((pv = .int .i64 0 ∧ (i = 0 ∨ q + i ≤ n) ∧ Try.Whole wr Sb Bb Mb n i (Try.fillAt Try.noughts q i v) (Try.keysAt Try.noKeys q i)) ∨ pv = .int .i64 5) ∧ Try.Moved Bb Mb w5 wr) (fun _ c _ => k - (RowKit.intOf c).toNat)
    case atStart => exact ⟨0, Nat.zero_le _, rfl, Or.inl ⟨rfl, Or.inl rfl, stb6.congr (fun j _ => Try.fill_none _ q v j) (fun x => Try.keys_none _ q x)⟩, Try.Moved.refl _ _ _⟩
    case round =>
      obtain ⟨i, hi, rfl, hcase, mv⟩ := hrel
      rcases hcase with ⟨rfl, hqi, st'⟩ | rfl
      · by_cases hik : i < k
        · have hwi := Try.wrap_u64 i (by omega)
          have hwqi := Try.wrap_u64 (q + i) (by omega)
          rw [show ((q + i : Nat) : Int) = (q : Int) + i by push_cast; rfl] at hwqi
          have lb := st'.bl
          have lm := st'.store.ml
          by_cases hfit : q + i + 1 ≤ n
          · go_wp2_with (first
              | (go_at_call 12; refine (Try.row_one v _).mono ?_; rintro e w7 ⟨R, cap, rfl, hcap, hR, hr, hb7⟩; have st7 := st'.below hb7)
              | (go_at_call 11; have hw1 := Try.write_one Sb Bb Mb n i (q + i) cap R v _ _ _ st7 (by omega) (by omega) (by omega) hcap (by omega) (by omega) hr; rw [show ((q + i : Nat) : Int) = (q : Int) + i by push_cast; rfl] at hw1; refine hw1.mono ?_; clear hw1; rintro e w8 ⟨rfl, st8, mv8⟩)
              | go_in)
            exact ⟨⟨i + 1, by omega, by push_cast; rfl, Or.inl ⟨rfl, Or.inr (by omega), st8.congr (fun j _ => Try.fill_step _ q i v j) (fun x => Try.keys_step _ q i x)⟩, (mv.trans (Try.Moved.of_below hb7)).trans mv8⟩, by simp only [RowKit.intOf]; omega⟩
          · go_wp2_with (first
              | (go_at_call 12; refine (Try.row_one v _).mono ?_; rintro e w7 ⟨R, cap, rfl, hcap, hR, hr, hb7⟩; have st7 := st'.below hb7)
              | (go_at_call 11; have hw1 := Try.write_out Sb n 1 cap (some ⟨R, 0, none⟩) _ (q + i) _ st7.s0 (by omega) (by omega) (by omega) (by omega); rw [show ((q + i : Nat) : Int) = (q : Int) + i by push_cast; rfl] at hw1; refine hw1.mono ?_; clear hw1; rintro e w8 ⟨rfl, hw⟩; subst hw)
              | go_in)
            exact ⟨⟨i + 1, by omega, by push_cast; rfl, Or.inr rfl, mv.trans (Try.Moved.of_below hb7)⟩, by simp only [RowKit.intOf]; omega⟩
        · go_wp2
          go_meet
          exact ⟨Or.inr ⟨rfl, by omega⟩, mv⟩
      · by_cases hik : i < k
        · go_wp2
          go_meet
          exact ⟨Or.inl rfl, mv⟩
        · go_wp2
          go_meet
          exact ⟨Or.inl rfl, mv⟩
  case rest =>
    obtain ⟨h18, mv⟩ := hcut
    have z7 := mv.size
    have sta7 := (sta5.moved mv (by omega) (by omega)).congr (K' := Try.keysAt Try.noKeys q 0) (fun _ _ => rfl) (fun x => Try.keys_none _ q x)
    have stc7 := (stc6.moved mv (by omega) (by omega)).congr (K' := Try.keysAt Try.noKeys q 0) (fun _ _ => rfl) (fun x => Try.keys_none _ q x)
    have std7 := (std6.moved mv (by omega) (by omega)).congr (K' := Try.keysAt Try.noKeys q 0) (fun _ _ => rfl) (fun x => Try.keys_none _ q x)
    go_wp2_with (first
      | (go_at_call 13; refine (Try.zero_out Sc n k _ q _ stc7.s0 (by omega) (by omega)).mono ?_; rintro e w8 ⟨rfl, hw⟩; have hw := hw.symm; subst hw)
      | (go_at_call 12; refine (Try.row_uni k 0 _ (by omega)).mono ?_; rintro e w9 ⟨sa9, cap9, rfl, hc9, hd9, hb9⟩; have std9 := std7.below hb9)
      | (go_at_call 11; refine (Try.write_out Sd n k cap9 sa9 _ q _ std9.s0 (by omega) (by omega) (by omega) (by omega)).mono ?_; rintro e w10 ⟨rfl, hw⟩; have hw := hw.symm; subst hw)
      | go_in)
    have stc9 := stc7.below hb9
    have sta9 := sta7.below hb9
    have e9 := (e6.trans (mv.below (by omega) (by omega) e6.size)).trans (hb9.mono (Nat.le_trans e6.size z7))
    clear hb1 hba hbb hbc hbd hb5 mv hb9 e6 sta stb stc std sta5 stb6 stc6 std6 sta7 stc7 std7 hd9 hc9 hc5 hSa hSb hSc hSd hBa hBb hBc hBd hMa hMb hMc hMd la1 la2 la3 lb1 lb2 lb3 lc1 lc2 lc3 ld1 ld2 ld3 z1 z2 z3 z4 z5 z7 c0 c2 hl
    obtain ⟨s, hs⟩ := Try.image_string Try.noughts (n * 512) (by omega)
    go_cut [117] from 98 to 117 (fun s wx => s = .bool false ∧ Below w9.heap.size w9 wx)
    case first =>
      go_region_with (first
        | (go_at_call_has 14 (Value.pointer (some ⟨Sc, 0, none⟩)); refine (Try.image_any Sc Bc Mc n 0 Try.noughts (Try.keysAt Try.noKeys q 0) _ ?_ (by omega)).mono ?_; exact stc9.kept (fun _ _ _ => rfl) (Nat.le_refl _); rintro e w11 ⟨v1, rfl, hr1, hb11⟩; obtain ⟨g1, cp1, rfl, hcv1⟩ := hs _ _ _ hr1; have hcv1a := hcv1 _ (Below.refl _ _))
        | (go_at_call_has 14 (Value.pointer (some ⟨Sd, 0, none⟩)); refine (Try.image_any Sd Bd Md n 0 Try.noughts (Try.keysAt Try.noKeys q 0) _ ?_ (by omega)).mono ?_; exact std9.drew.below hb11; rintro e w12 ⟨v2, rfl, hr2, hb12⟩; obtain ⟨g2, cp2, rfl, hcv2⟩ := hs _ _ _ hr2; have hcv2a := hcv2 _ (Below.refl _ _); have hcv1b := hcv1 _ hb12)
        | (go_at_call_has 16 (Value.pointer (some ⟨Sc, 0, none⟩)); refine (Try.fresh_run Sc Bc Mc n 0 q 0 Try.noughts _ ?_ (by omega)).mono ?_; exact (stc9.drew.below hb11).below hb12; rintro e w13 ⟨sa3, cp3, t3, rfl, hr3, hb13⟩)
        | (go_at_call_has 16 (Value.pointer (some ⟨Sd, 0, none⟩)); refine (Try.fresh_run Sd Bd Md n 0 q 0 Try.noughts _ ?_ (by omega)).mono ?_; exact ((std9.drew.below hb11).below hb12).below hb13; rintro e w14 ⟨sa4, cp4, t4, rfl, hr4, hb14⟩)
        | (go_at_call 15; refine (Try.ints_any t3 t4 _ _ _ _ (Try.runs q 0) _ (Try.row_kept hr3 hb14) hr4 (by rw [Try.runs_length]; omega)).mono ?_; rintro e w15 ⟨rfl, q15, rfl⟩))
      all_goals (go_wp2_with fail; go_meet)
      all_goals exact ⟨rfl, Try.below_drewN (((((Below.refl _ w9).drew.trans hb11).trans (hb12.mono hb11.size)).trans (hb13.mono (Nat.le_trans hb11.size hb12.size))).trans (hb14.mono (Nat.le_trans (Nat.le_trans hb11.size hb12.size) hb13.size))) q15⟩
    case rest =>
      obtain ⟨rfl, hbx⟩ := hcut
      have sta10 := sta9.below hbx
      rcases h18 with rfl | ⟨rfl, rfl⟩
      · go_wp2_with (first
          | (go_at_call 16; refine (Try.fresh_run Sa Ba Ma n 0 q 0 Try.noughts _ sta10 (by omega)).mono ?_; rintro e w20 ⟨sa6, cp6, t6, rfl, hr6, hb20⟩)
          | go_in)
        go_ret
        exact ⟨rfl, e9.trans ((hbx.trans (hb20.mono hbx.size)).mono e9.size)⟩
      · go_wp2_with (first
          | (go_at_call 16; refine (Try.fresh_run Sa Ba Ma n 0 q 0 Try.noughts _ sta10 (by omega)).mono ?_; rintro e w20 ⟨sa6, cp6, t6, rfl, hr6, hb20⟩)
          | go_in)
        go_ret
        exact ⟨rfl, e9.trans ((hbx.trans (hb20.mono hbx.size)).mono e9.size)⟩
end Go.Proofs
