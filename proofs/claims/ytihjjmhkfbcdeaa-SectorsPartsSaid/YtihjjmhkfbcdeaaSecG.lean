import Derived.Test.YtihjjmhkfbcdeaaSec
import Derived.Test.YtihjjmhkfbcdeaaSecF
import Derived.Sort.AtCall
namespace Go.Proofs
open Go.RowKit Go.Maps Go.Sort

theorem Try.row_any2 (k : Nat) (v : Int) (w : World) (hk : k ≤ 80) :
    Calls Try.prog 12 #[.int .i64 k, .int .u8 v, .bool false] w fun e w' => ∃ sa cap, e = .returned (.slice sa (k * 512) cap) ∧ k * 512 ≤ cap ∧
      (∀ i, i < k → ∃ R, sa = some ⟨R, 0, none⟩ ∧ w.heap.size ≤ R ∧ ∃ us : List Value, us.length = 512 ∧ w'.rangeAt R (i * 512) us ∧ ∀ v ∈ us, v.oneCell' = true) ∧ Below w.heap.size w w' := by
  refine (Try.row_any k v w hk).mono ?_
  rintro e w' ⟨x, rfl, hrow, hb⟩
  rcases hrow.2 with ⟨rfl, h0⟩ | ⟨g, cap, cur, rfl, hbase, hblk, hcap, hmax, hsz, htk⟩
  · have hk0 : k = 0 := by omega
    subst hk0
    exact ⟨none, 0, rfl, by omega, fun i hi => absurd hi (by omega), hb⟩
  · refine ⟨some ⟨g, 0, none⟩, cap, rfl, hcap, fun i hi => ⟨g, rfl, hbase, List.replicate 512 (.int .u8 v), List.length_replicate, fun j u hu => ?_, fun u hu => by rw [(List.mem_replicate.1 hu).2]; rfl⟩, hb⟩
    have hj : j < 512 := by have := (List.getElem?_eq_some_iff.1 hu).1; rwa [List.length_replicate] at this
    have hu' : u = .int .u8 v := by
      rw [List.getElem?_replicate, if_pos hj] at hu
      exact (Option.some.inj hu).symm
    subst hu'
    rw [cell_of_row w' g (i * 512 + j) cur 5 (0, 0) hblk]
    have e1 := congrArg (fun l : List Value => l[i * 512 + j]?) htk
    simp only [List.getElem?_take, List.getElem?_replicate, Nat.mul_one] at e1
    have hlt : i * 512 + j < k * 512 := by omega
    rw [if_pos hlt, if_pos hlt] at e1
    simpa using e1

theorem Try.okWide_intR {P : Program} {w : World} {r : Reach} {base : Nat} {t : TypeId} {k : IntKind} {v : Value} (ht : P.underlying t = some (.int k)) (h : Value.okWide P w r base t v) : ∃ n, v = .int k n ∧ k.min ≤ n ∧ n ≤ k.max := by
  simp only [Value.okWide, ht, Cell.okWide] at h
  cases v <;> simp_all [Cell.ok, IntKind.has]

theorem Try.has_yes (S N : Nat) (sl : Option Addr) (p n : Int) (w : World) (hs : w.cell? ⟨S, 0, none⟩ = some (.slice sl N N)) (hN : N ≤ 4096) (hp : 0 ≤ p) (h : p ≤ N ∧ n ≤ N - p) :
    Calls Try.prog 9 #[.pointer (some ⟨S, 0, none⟩), .int .u64 p, .int .u64 n] w fun e w' => e = .returned (.bool true) ∧ w' = w := by
  have hc := Try.has_any S N sl p n w hs hN hp
  rwa [decide_eq_true h] at hc
theorem Try.has_not (S N : Nat) (sl : Option Addr) (p n : Int) (w : World) (hs : w.cell? ⟨S, 0, none⟩ = some (.slice sl N N)) (hN : N ≤ 4096) (hp : 0 ≤ p) (h : ¬ (p ≤ N ∧ n ≤ N - p)) :
    Calls Try.prog 9 #[.pointer (some ⟨S, 0, none⟩), .int .u64 p, .int .u64 n] w fun e w' => e = .returned (.bool false) ∧ w' = w := by
  have hc := Try.has_any S N sl p n w hs hN hp
  rwa [decide_eq_false h] at hc
theorem Try.Store.below {w w' : World} {S B M n m : Nat} (h : Try.Store w S B M n m) (hb : Below w.heap.size w w') : Try.Store w' S B M n m := h.kept (fun k hk _ => hb.block k hk) hb.size

set_option maxRecDepth 100000 in
set_option maxHeartbeats 1000000 in
theorem Try.has_walk (hl : ∀ w, Calls Try.prog 6 #[] w fun e w' => e = .returned (.bool true) ∧ Below w.heap.size w w') (x0 p x2 x3 : Int) (hp : 0 ≤ p) (w : World) :
    Calls Try.prog 3 #[.int .i64 x0, .int .u64 p, .int .i64 x2, .int .i64 x3] w fun e w' => e = .returned (.bool true) ∧ Below w.heap.size w w' := by
  obtain ⟨r0, hr0, c0⟩ := Try.pick_any x0 40 (by omega) (by omega)
  obtain ⟨k, hk, c2⟩ := Try.pick_any x2 80 (by omega) (by omega)
  obtain ⟨j, hj, c3⟩ := Try.pick_any x3 (k + 1) (by omega) (by omega)
  rw [show ((k + 1 : Nat) : Int) = (k : Int) + 1 by push_cast; rfl] at c3
  rw [show ((40 : Nat) : Int) = 40 from rfl] at c0
  rw [show ((80 : Nat) : Int) = 80 from rfl] at c2
  obtain ⟨n, hn⟩ : ∃ n, n = r0 + 1 := ⟨_, rfl⟩
  have hnew := fun w => Try.new_any n w (by omega) (by omega)
  rw [show (n : Int) = 1 + (r0 : Int) by omega] at hnew
  have hwk := Try.wrap_u64 k (by omega)
  have hwj := Try.wrap_u64 j (by omega)
  by_cases hin : p ≤ n ∧ (k : Int) ≤ n - p
  · obtain ⟨q, rfl⟩ := Int.eq_ofNat_of_zero_le hp
    have hin0 : q ≤ n ∧ k ≤ n - q := by omega
    have hw1 := Try.wrap_u64 (q + j) (by omega)
    have hw2 := Try.wrap_u64 (q + k) (by omega)
    have hw3 := Try.wrap_u64 (k - j) (by omega)
    rw [show ((q + j : Nat) : Int) = (q : Int) + j by push_cast; rfl] at hw1
    rw [show ((q + k : Nat) : Int) = (q : Int) + k by push_cast; rfl] at hw2
    rw [show ((k - j : Nat) : Int) = (k : Int) - j by omega] at hw3
    go_enter Try.func3, Try.ntmps3
    go_wp2_with (first
      | (go_at_call 6; refine (hl _).mono ?_; rintro e w1 ⟨rfl, hb1⟩)
      | (go_at_call_has 7 x0; refine (c0 _).mono ?_; rintro e w1' ⟨rfl, hw⟩; have hw := hw.symm; subst hw)
      | (go_at_call_has 7 x2; refine (c2 _).mono ?_; rintro e w1' ⟨rfl, hw⟩; have hw := hw.symm; subst hw)
      | (go_at_call_has 7 x3; refine (c3 _).mono ?_; rintro e w1' ⟨rfl, hw⟩; have hw := hw.symm; subst hw)
      | (go_at_call 8; refine (hnew _).mono ?_; rintro e w2 ⟨S, B, M, rfl, st, hb2, hS, hB, hM⟩)
      | (go_at_call_has 9 (Value.int .u64 (k : Int)); refine (Try.has_yes S n _ _ k _ st.s0 (by omega) hp hin).mono ?_; rintro e w1' ⟨rfl, hw⟩; have hw := hw.symm; subst hw)
      | (go_at_call_has 9 (Value.int .u64 (j : Int)); refine (Try.has_yes S n _ _ j _ st6.s0 (by omega) hp (by omega)).mono ?_; rintro e w1' ⟨rfl, hw⟩; have hw := hw.symm; subst hw)
      | (go_at_call_has 9 (Value.int .u64 ((k : Int) - j)); refine (Try.has_yes S n _ _ _ _ st6.s0 (by omega) (by omega) (by omega)).mono ?_; rintro e w1' ⟨rfl, hw⟩; have hw := hw.symm; subst hw)
      | (go_at_call_has 9 (Value.int .u64 0); refine (Try.has_yes S n _ _ 0 _ st6.s0 (by omega) (by omega) (by omega)).mono ?_; rintro e w1' ⟨rfl, hw⟩; have hw := hw.symm; subst hw)
      | (go_at_call 10; have hrd := Try.read_any S B M n 0 k _ _ st (by omega) (by omega) hp; rw [if_pos hin] at hrd; refine hrd.mono ?_; clear hrd; rintro e w3 ⟨sa, L, cap, rfl, hL, st3, hb3⟩)
      | (go_at_call 12; refine (Try.row_any2 k 3 _ (by omega)).mono ?_; rintro e w4 ⟨sa4, cap4, rfl, hc4, hd4, hb4⟩; have st4 := st3.below hb4)
      | (go_at_call 11; have hwr := Try.write_any S B M n 0 k cap4 sa4 _ _ st4 (by omega) (by omega) (by omega) hp hc4 (fun i hi => by
          obtain ⟨R, h1, h2, h3⟩ := hd4 i hi
          have hb := st3.bl
          have hm := st3.ml
          exact ⟨R, h1, by omega, by omega, h3⟩); rw [if_pos hin] at hwr; refine hwr.mono ?_; clear hwr; rintro e w5 ⟨rfl, m5, hm5, st5, mv5⟩)
      | (go_at_call 13; have hzr := Try.zero_any S B M n m5 k _ _ st5 (by omega) (by omega) (by omega) hp; rw [if_pos hin] at hzr; refine hzr.mono ?_; clear hzr; rintro e w6 ⟨rfl, m6, hm6, st6, mv6⟩)
      | go_in)
    obtain rfl := hL hin
    go_ret
    have e2 := hb1.trans (hb2.mono hb1.size)
    have e3 := e2.trans (hb3.mono e2.size)
    have e4 := e3.trans (hb4.mono e3.size)
    have e5 := e4.trans (mv5.below (Nat.le_trans hb1.size hB) (Nat.le_trans hb1.size hM) e4.size)
    exact ⟨rfl, e5.trans (mv6.below (Nat.le_trans hb1.size hB) (Nat.le_trans hb1.size hM) e5.size)⟩
  · go_enter Try.func3, Try.ntmps3
    go_wp2_with (first
      | (go_at_call 6; refine (hl _).mono ?_; rintro e w1 ⟨rfl, hb1⟩)
      | (go_at_call_has 7 x0; refine (c0 _).mono ?_; rintro e w1' ⟨rfl, hw⟩; have hw := hw.symm; subst hw)
      | (go_at_call_has 7 x2; refine (c2 _).mono ?_; rintro e w1' ⟨rfl, hw⟩; have hw := hw.symm; subst hw)
      | (go_at_call_has 7 x3; refine (c3 _).mono ?_; rintro e w1' ⟨rfl, hw⟩; have hw := hw.symm; subst hw)
      | (go_at_call 8; refine (hnew _).mono ?_; rintro e w2 ⟨S, B, M, rfl, st, hb2, hS, hB, hM⟩)
      | (go_at_call_has 9 (Value.int .u64 (k : Int)); refine (Try.has_not S n _ _ k _ st.s0 (by omega) hp hin).mono ?_; rintro e w1' ⟨rfl, hw⟩; have hw := hw.symm; subst hw)
      | (go_at_call 10; have hrd := Try.read_any S B M n 0 k _ _ st (by omega) (by omega) hp; rw [if_neg hin] at hrd; refine hrd.mono ?_; clear hrd; rintro e w3 ⟨sa, L, cap, rfl, hL, st3, hb3⟩)
      | (go_at_call 12; refine (Try.row_any2 k 3 _ (by omega)).mono ?_; rintro e w4 ⟨sa4, cap4, rfl, hc4, hd4, hb4⟩; have st4 := st3.below hb4)
      | (go_at_call 11; have hwr := Try.write_any S B M n 0 k cap4 sa4 _ _ st4 (by omega) (by omega) (by omega) hp hc4 (fun i hi => by
          obtain ⟨R, h1, h2, h3⟩ := hd4 i hi
          have hb := st3.bl
          have hm := st3.ml
          exact ⟨R, h1, by omega, by omega, h3⟩); rw [if_neg hin] at hwr; refine hwr.mono ?_; clear hwr; rintro e w5 ⟨rfl, m5, hm5, st5, mv5⟩)
      | (go_at_call 13; have hzr := Try.zero_any S B M n m5 k _ _ st5 (by omega) (by omega) (by omega) hp; rw [if_neg hin] at hzr; refine hzr.mono ?_; clear hzr; rintro e w6 ⟨rfl, m6, hm6, st6, mv6⟩)
      | go_in)
    go_ret
    have e2 := hb1.trans (hb2.mono hb1.size)
    have e3 := e2.trans (hb3.mono e2.size)
    have e4 := e3.trans (hb4.mono e3.size)
    have e5 := e4.trans (mv5.below (Nat.le_trans hb1.size hB) (Nat.le_trans hb1.size hM) e4.size)
    exact ⟨rfl, e5.trans (mv6.below (Nat.le_trans hb1.size hB) (Nat.le_trans hb1.size hM) e5.size)⟩
end Go.Proofs
