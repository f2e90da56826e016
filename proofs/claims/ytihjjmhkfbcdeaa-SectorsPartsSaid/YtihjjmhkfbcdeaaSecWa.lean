import Derived.Test.YtihjjmhkfbcdeaaSecW
namespace Go.Proofs
open Go.RowKit Go.Maps Go.Sort

set_option maxRecDepth 100000 in
set_option maxHeartbeats 12000000 in
theorem Try.parts_in (hl : ∀ w, Calls Try.prog 6 #[] w fun e w' => e = .returned (.bool true) ∧ Below w.heap.size w w') (x0 p x2 v : Int) (r0 k q : Nat) (w : World) (hr0 : r0 < 40) (hk : k < 40) (hq60 : q < 60) (hin : q + k ≤ r0 + 1)
    (c0 : ∀ w : World, Calls Try.prog 7 #[.int .i64 x0, .int .i64 40] w fun e w' => e = .returned (.int .i64 r0) ∧ w' = w) (c2 : ∀ w : World, Calls Try.prog 7 #[.int .i64 x2, .int .i64 40] w fun e w' => e = .returned (.int .i64 k) ∧ w' = w)
    (hq : p.tmod 60 = (q : Int)) :
    Calls Try.prog 4 #[.int .i64 x0, .int .u64 p, .int .i64 x2, .int .u8 v] w fun e w' => e = .returned (.bool true) ∧ Below w.heap.size w w' := by
  obtain ⟨n, hn⟩ : ∃ n, n = r0 + 1 := ⟨_, rfl⟩
  have hnew := fun w => Try.new_whole n w (by omega) (by omega)
  rw [show (n : Int) = 1 + (r0 : Int) by omega] at hnew
  have hn1 : n ≤ r0 + 1 := by omega
  have hn2 : r0 + 1 ≤ n := by omega
  clear hn
  have hwk := Try.wrap_u64 k (by omega)
  have hwq := Try.wrap_u64 q (by omega)
  go_enter Try.func4, Try.ntmps4
  go_wp2_with (first
    | (go_at_call 6; refine (hl _).mono ?_; rintro e w1 ⟨rfl, hb1⟩)
    | (go_at_call_has 7 x0; refine (c0 _).mono ?_; rintro e w1' ⟨rfl, hw⟩; have hw := hw.symm; subst hw)
    | (go_at_call_has 7 x2; refine (c2 _).mono ?_; rintro e w1' ⟨rfl, hw⟩; have hw := hw.symm; subst hw)
    | (go_at_call 8; have hh := hbc; clear hh; refine (hnew _).mono ?_; rintro e wd ⟨Sd, Bd, Md, rfl, std, hbd, hSd, hBd, hMd⟩)
    | (go_at_call 8; have hh := hbb; clear hh; refine (hnew _).mono ?_; rintro e wc ⟨Sc, Bc, Mc, rfl, stc, hbc, hSc, hBc, hMc⟩)
    | (go_at_call 8; have hh := hba; clear hh; refine (hnew _).mono ?_; rintro e wb ⟨Sb, Bb, Mb, rfl, stb, hbb, hSb, hBb, hMb⟩)
    | (go_at_call 8; refine (hnew _).mono ?_; rintro e wa ⟨Sa, Ba, Ma, rfl, sta, hba, hSa, hBa, hMa⟩)
    | (go_at_call_has 12 (Value.int .i64 (k : Int)); refine (Try.row_uni k v _ (by omega)).mono ?_; rintro e w5 ⟨sa5, cap5, rfl, hc5, hd5, hb5⟩; have sta5 := ((((sta.below hbb).below hbc).below hbd).below hb5))
    | (go_at_call 11; refine (Try.write_in Sa Ba Ma n 0 k q cap5 v sa5 _ _ _ sta5 (by omega) (by omega) (by omega) (by omega) hc5 (fun i hi => by
          obtain ⟨R, h1, h2, h3⟩ := hd5 i hi
          have hb := (((sta.below hbb).below hbc).below hbd).bl
          have hm := (((sta.below hbb).below hbc).below hbd).store.ml
          exact ⟨R, h1, by omega, by omega, h3⟩)).mono ?_; rintro e w6 ⟨rfl, sta6, mv6⟩)
    | go_in)
  have la1 := sta.store.sl
  have la2 := sta.bl
  have la3 := sta.store.ml
  have lb1 := stb.store.sl
  have lb2 := stb.bl
  have lb3 := stb.store.ml
  have lc1 := stc.store.sl
  have lc2 := stc.bl
  have lc3 := stc.store.ml
  have ld1 := std.store.sl
  have ld2 := std.bl
  have ld3 := std.store.ml
  have z1 := hba.size
  have z2 := hbb.size
  have z3 := hbc.size
  have z4 := hbd.size
  have z5 := hb5.size
  have z6 := mv6.size
  have stb6 := (((stb.below hbc).below hbd).below hb5).moved mv6 (by omega) (by omega)
  have stc6 := ((stc.below hbd).below hb5).moved mv6 (by omega) (by omega)
  have std6 := (std.below hb5).moved mv6 (by omega) (by omega)
  have e1 := hb1.size
  have e6 : Below w.heap.size w w6 := ((((((hb1.trans (hba.mono e1)).trans (hbb.mono (by omega))).trans (hbc.mono (by omega))).trans (hbd.mono (by omega))).trans (hb5.mono (by omega))).trans (mv6.below (by omega) (by omega) (by omega)))
  clear sta5 hd5 hnew
  go_loopw [18, 19] (fun pv c wr => ∃ i : Nat, i ≤ k ∧ c = .int .i64 i ∧ pv = .int .i64 0 ∧ Try.Whole wr Sb Bb Mb n i (Try.fillAt Try.noughts q i v) (Try.keysAt Try.noKeys q i) ∧ Try.Moved Bb Mb w6 wr) (fun _ c _ => k - (RowKit.intOf c).toNat)
  case atStart => exact ⟨0, Nat.zero_le _, rfl, rfl, stb6.congr (fun j _ => Try.fill_none _ q v j) (fun x => Try.keys_none _ q x), Try.Moved.refl _ _ _⟩
  case round =>
    obtain ⟨i, hi, rfl, rfl, st', mv⟩ := hrel
    by_cases hik : i < k
    · have hwi := Try.wrap_u64 i (by omega)
      have hwqi := Try.wrap_u64 (q + i) (by omega)
      rw [show ((q + i : Nat) : Int) = (q : Int) + i by push_cast; rfl] at hwqi
      have lb := st'.bl
      have lm := st'.store.ml
      go_wp2_with (first
        | (go_at_call 12; refine (Try.row_one v _).mono ?_; rintro e w7 ⟨R, cap, rfl, hcap, hR, hr, hb7⟩; have st7 := st'.below hb7)
        | (go_at_call 11; have hw1 := Try.write_one Sb Bb Mb n i (q + i) cap R v _ _ _ st7 (by omega) (by omega) (by omega) hcap (by omega) (by omega) hr; rw [show ((q + i : Nat) : Int) = (q : Int) + i by push_cast; rfl] at hw1; refine hw1.mono ?_; clear hw1; rintro e w8 ⟨rfl, st8, mv8⟩)
        | go_in)
      exact ⟨⟨i + 1, by omega, by push_cast; rfl, rfl, st8.congr (fun j _ => Try.fill_step _ q i v j) (fun x => Try.keys_step _ q i x), (mv.trans (Try.Moved.of_below hb7)).trans mv8⟩, by simp only [RowKit.intOf]; omega⟩
    · have hik' : i = k := by omega
      subst hik'
      have z7 := mv.size
      have stc7 := stc6.moved mv (by omega) (by omega)
      go_wp2_with (first
        | (go_at_call 13; refine (Try.zero_in Sc Bc Mc n 0 i q _ _ _ stc7 (by omega) (by omega) (by omega) (by omega)).mono ?_; rintro e w8 ⟨rfl, stc8, mv8⟩)
        | (go_at_call 12; refine (Try.row_uni i 0 _ (by omega)).mono ?_; rintro e w9 ⟨sa9, cap9, rfl, hc9, hd9, hb9⟩; have z8 := mv8.size; have z9 := hb9.size; have std9 := ((std6.moved mv (by omega) (by omega)).moved mv8 (by omega) (by omega)).below hb9)
        | (go_at_call 11; refine (Try.write_in Sd Bd Md n 0 i q cap9 0 sa9 _ _ _ std9 (by omega) (by omega) (by omega) (by omega) hc9 (fun j hj => by
            obtain ⟨R, h1, h2, h3⟩ := hd9 j hj
            exact ⟨R, h1, by omega, by omega, h3⟩)).mono ?_; rintro e w10 ⟨rfl, std10, mv10⟩)
        | go_in)
      have z10 := mv10.size
      have stc10 := (stc8.below hb9).moved mv10 (by omega) (by omega)
      have sta10 := (((sta6.moved mv (by omega) (by omega)).moved mv8 (by omega) (by omega)).below hb9).moved mv10 (by omega) (by omega)
      have stb10 := ((st'.moved mv8 (by omega) (by omega)).below hb9).moved mv10 (by omega) (by omega)
      have e10 := (((e6.trans (mv.below (by omega) (by omega) e6.size)).trans (mv8.below (by omega) (by omega) (by omega))).trans (hb9.mono (by omega))).trans (mv10.below (by omega) (by omega) (by omega))
      clear hb1 hba hbb hbc hbd hb5 mv6 mv mv8 hb9 mv10 e6 sta stb stc std sta6 stb6 stc6 std6 st' stc7 stc8 std9 hd9 hc9 hc5 hSa hSb hSc hSd hBa hBb hBc hBd hMa hMb hMc hMd la1 la2 la3 lb1 lb2 lb3 lc1 lc2 lc3 ld1 ld2 ld3 z1 z2 z3 z4 z5 z6 z7 z8 z9 z10 c0 c2 hl
      obtain ⟨s, hs⟩ := Try.image_string (Try.fillAt Try.noughts q i 0) (n * 512) (by omega)
      go_cut [117] from 98 to 117 (fun s wx => s = .bool false ∧ Below w10.heap.size w10 wx)
      case first =>
        go_region_with (first
          | (go_at_call_has 14 (Value.pointer (some ⟨Sc, 0, none⟩)); refine (Try.image_any Sc Bc Mc n (0 + i) (Try.fillAt Try.noughts q i 0) (Try.keysAt Try.noKeys q i) _ ?_ (by omega)).mono ?_; exact stc10.kept (fun _ _ _ => rfl) (Nat.le_refl _); rintro e w11 ⟨v1, rfl, hr1, hb11⟩; obtain ⟨g1, cp1, rfl, hcv1⟩ := hs _ _ _ hr1; have hcv1a := hcv1 _ (Below.refl _ _))
          | (go_at_call_has 14 (Value.pointer (some ⟨Sd, 0, none⟩)); refine (Try.image_any Sd Bd Md n (0 + i) (Try.fillAt Try.noughts q i 0) (Try.keysAt Try.noKeys q i) _ ?_ (by omega)).mono ?_; exact std10.drew.below hb11; rintro e w12 ⟨v2, rfl, hr2, hb12⟩; obtain ⟨g2, cp2, rfl, hcv2⟩ := hs _ _ _ hr2; have hcv2a := hcv2 _ (Below.refl _ _); have hcv1b := hcv1 _ hb12)
          | (go_at_call_has 16 (Value.pointer (some ⟨Sc, 0, none⟩)); refine (Try.fresh_run Sc Bc Mc n (0 + i) q i (Try.fillAt Try.noughts q i 0) _ ?_ (by omega)).mono ?_; exact (stc10.drew.below hb11).below hb12; rintro e w13 ⟨sa3, cp3, t3, rfl, hr3, hb13⟩)
          | (go_at_call_has 16 (Value.pointer (some ⟨Sd, 0, none⟩)); refine (Try.fresh_run Sd Bd Md n (0 + i) q i (Try.fillAt Try.noughts q i 0) _ ?_ (by omega)).mono ?_; exact ((std10.drew.below hb11).below hb12).below hb13; rintro e w14 ⟨sa4, cp4, t4, rfl, hr4, hb14⟩)
          | (go_at_call 15; refine (Try.ints_any t3 t4 _ _ _ _ (Try.runs q i) _ (Try.row_kept hr3 hb14) hr4 (by rw [Try.runs_length]; omega)).mono ?_; rintro e w15 ⟨rfl, q15, rfl⟩))
        all_goals (go_wp2_with fail; go_meet)
        all_goals exact ⟨rfl, Try.below_drewN (((((Below.refl _ w10).drew.trans hb11).trans (hb12.mono hb11.size)).trans (hb13.mono (Nat.le_trans hb11.size hb12.size))).trans (hb14.mono (Nat.le_trans (Nat.le_trans hb11.size hb12.size) hb13.size))) q15⟩
      case rest =>
        obtain ⟨rfl, hbx⟩ := hcut
        have sta11 := sta10.below hbx
        have stb11 := stb10.below hbx
        have e11 := e10.trans (hbx.mono e10.size)
        clear sta10 stb10 stc10 std10 hs hbx e10
        obtain ⟨s2, hs2⟩ := Try.image_string (Try.fillAt Try.noughts q i v) (n * 512) (by omega)
        go_wp2
        go_cut [8, 160] from 136 to 160 (fun s8 s160 wx => s8 = .bool true ∧ Below wc.heap.size wc wx)
        case first =>
          go_region_with (first
            | (go_at_call_has 14 (Value.pointer (some ⟨Sa, 0, none⟩)); refine (Try.image_any Sa Ba Ma n (0 + i) (Try.fillAt Try.noughts q i v) (Try.keysAt Try.noKeys q i) _ ?_ (by omega)).mono ?_; exact sta11.drew; rintro e w21 ⟨v1, rfl, hr1, hb21⟩; obtain ⟨g1, cp1, rfl, hcv1⟩ := hs2 _ _ _ hr1; have hcv1a := hcv1 _ (Below.refl _ _))
            | (go_at_call_has 14 (Value.pointer (some ⟨Sb, 0, none⟩)); refine (Try.image_any Sb Bb Mb n i (Try.fillAt Try.noughts q i v) (Try.keysAt Try.noKeys q i) _ ?_ (by omega)).mono ?_; exact stb11.drew.below hb21; rintro e w22 ⟨v2, rfl, hr2, hb22⟩; obtain ⟨g2, cp2, rfl, hcv2⟩ := hs2 _ _ _ hr2; have hcv2a := hcv2 _ (Below.refl _ _); have hcv1b := hcv1 _ hb22)
            | (go_at_call_has 16 (Value.pointer (some ⟨Sa, 0, none⟩)); have hh := mark25; clear hh; refine (Try.fresh_run Sa Ba Ma n (0 + i) q i (Try.fillAt Try.noughts q i v) _ ?_ (by omega)).mono ?_; exact ((((sta11.drew.below hb21).below hb22).below hb23).below hb24).kept (fun _ _ _ => rfl) (Nat.le_refl _); rintro e w26 ⟨sa6, cp6, t6, rfl, hr6, hb26⟩)
            | (go_at_call_has 16 (Value.pointer (some ⟨Sa, 0, none⟩)); refine (Try.fresh_run Sa Ba Ma n (0 + i) q i (Try.fillAt Try.noughts q i v) _ ?_ (by omega)).mono ?_; exact (sta11.drew.below hb21).below hb22; rintro e w23 ⟨sa3, cp3, t3, rfl, hr3, hb23⟩)
            | (go_at_call_has 16 (Value.pointer (some ⟨Sb, 0, none⟩)); refine (Try.fresh_run Sb Bb Mb n i q i (Try.fillAt Try.noughts q i v) _ ?_ (by omega)).mono ?_; exact ((stb11.drew.below hb21).below hb22).below hb23; rintro e w24 ⟨sa4, cp4, t4, rfl, hr4, hb24⟩)
            | (go_at_call 15; refine (Try.ints_any t3 t4 _ _ _ _ (Try.runs q i) _ (Try.row_kept hr3 hb24) hr4 (by rw [Try.runs_length]; omega)).mono ?_; rintro e w25 ⟨rfl, q25, rfl⟩; have mark25 : True := trivial))
          all_goals (go_wp2_with fail; go_meet)
          all_goals exact ⟨rfl, ((Try.below_drewN (((((Below.refl _ wc).drew.trans hb21).trans (hb22.mono hb21.size)).trans (hb23.mono (Nat.le_trans hb21.size hb22.size))).trans (hb24.mono (Nat.le_trans (Nat.le_trans hb21.size hb22.size) hb23.size))) q25).trans (hb26.mono (Nat.le_trans (Nat.le_trans (Nat.le_trans hb21.size hb22.size) hb23.size) hb24.size)))⟩
        case rest =>
          obtain ⟨rfl, hby⟩ := hcut
          go_wp2
          go_ret
          exact ⟨rfl, e11.trans (hby.mono e11.size)⟩
end Go.Proofs
