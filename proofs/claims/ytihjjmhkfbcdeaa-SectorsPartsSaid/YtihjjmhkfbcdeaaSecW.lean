import Derived.Test.YtihjjmhkfbcdeaaSecV
import Derived.Sort.AtCall
import Derived.Deep.RegionWith
import Derived.Deep.CutRange
namespace Go.Proofs
open Go.RowKit Go.Maps Go.Sort

theorem Try.Moved.of_below {B M : Nat} {w w' : World} (h : Below w.heap.size w w') : Try.Moved B M w w' := ⟨h.os, h.tape, h.output, h.size, fun k hk _ _ => h.block k hk⟩
theorem Try.Whole.below {w w' : World} {S B M n m : Nat} {f : Nat → Int} {K : Int → Bool} (h : Try.Whole w S B M n m f K) (hb : Below w.heap.size w w') : Try.Whole w' S B M n m f K := h.kept (fun k hk _ => hb.block k hk) hb.size
/-- A store that lies apart from what has moved. -/
theorem Try.Whole.moved {w w' : World} {S B M n m B' M' : Nat} {f : Nat → Int} {K : Int → Bool} (h : Try.Whole w S B M n m f K) (hm : Try.Moved B' M' w w') (h1 : S ≠ B' ∧ B ≠ B' ∧ M ≠ B') (h2 : S ≠ M' ∧ B ≠ M' ∧ M ≠ M') : Try.Whole w' S B M n m f K :=
  h.kept (fun k hk hk3 => hm.block k hk (by rcases hk3 with e | e | e <;> rw [e]; exact h1.1; exact h1.2.1; exact h1.2.2) (by rcases hk3 with e | e | e <;> rw [e]; exact h2.1; exact h2.2.1; exact h2.2.2)) hm.size

theorem Try.below_drewN {B : Nat} {a w : World} (h : Below B a w) (q : Nat) : Below B a (w.drewN q) := ⟨h.os, h.tape, h.output, h.size, h.block⟩
theorem Try.row_one (v : Int) (w : World) : Calls Try.prog 12 #[.int .i64 1, .int .u8 v, .bool false] w fun e w' => ∃ R cap, e = .returned (.slice (some ⟨R, 0, none⟩) 512 cap) ∧ 512 ≤ cap ∧
    w.heap.size ≤ R ∧ w'.rangeAt R 0 (List.replicate 512 (.int .u8 v)) ∧ Below w.heap.size w w' := by
  refine (Try.row_uni 1 v w (by omega)).mono ?_
  rintro e w' ⟨sa, cap, rfl, hcap, hd, hb⟩
  obtain ⟨R, rfl, hR, hr⟩ := hd 0 (by omega)
  exact ⟨R, cap, rfl, hcap, hR, hr, hb⟩
theorem Try.write_one (S B M n m q cap R : Nat) (v : Int) (f : Nat → Int) (K : Int → Bool) (w : World) (st : Try.Whole w S B M n m f K) (hn : n ≤ 4096) (hm : m ≤ 900000) (hin : q + 1 ≤ n) (hcap : 512 ≤ cap)
    (hRB : R ≠ B) (hRM : R ≠ M) (hr : w.rangeAt R 0 (List.replicate 512 (.int .u8 v))) :
    Calls Try.prog 11 #[.pointer (some ⟨S, 0, none⟩), .int .u64 q, .slice (some ⟨R, 0, none⟩) 512 cap] w fun e w' => e = .returned (.int .i64 0) ∧ Try.Whole w' S B M n (m + 1) (Try.fillAt f q 1 v) (Try.keysAt K q 1) ∧ Try.Moved B M w w' :=
  Try.write_in S B M n m 1 q cap v (some ⟨R, 0, none⟩) f K w st hn hm (by omega) hin hcap (fun i hi => ⟨R, rfl, hRB, hRM, by
    have : i = 0 := by omega
    subst this
    exact hr⟩)

/-- The keys of a run, as the store's 'Fresh' tells them. -/
def Try.runs (q k : Nat) : List Int := (Try.run q k).mergeSort leI
theorem Try.runs_length (q k : Nat) : (Try.runs q k).length = k := by unfold Try.runs; rw [List.length_mergeSort, Try.run_length]
theorem Try.fresh_run (S B M n m q k : Nat) (f : Nat → Int) (w : World) (st : Try.Whole w S B M n m f (Try.keysAt Try.noKeys q k)) (hm : m ≤ 1000000) :
    Calls Try.prog 16 #[.pointer (some ⟨S, 0, none⟩)] w fun e w' => ∃ sa cap t, e = .returned (.slice sa k cap) ∧ w'.ownsRow w.heap.size t 1 (.slice sa k cap) (Try.runs q k).length ((Try.runs q k).map encZ) ∧ Below w.heap.size w w' := by
  refine (Try.fresh_any S B M n m f _ w st hm (Try.run q k) (Try.run_nodup q k) (Try.run_mem q k)).mono ?_
  rintro e w' ⟨v, t, rfl, hr, hb⟩
  have hr' : w'.ownsRow w.heap.size t 1 v (Try.runs q k).length ((Try.runs q k).map encZ) := by
    rw [Try.runs_length]
    rw [Try.run_length] at hr
    exact hr
  obtain ⟨sa, cap, rfl, _⟩ := Try.row_look hr'
  rw [Try.runs_length] at hr' ⊢
  exact ⟨sa, cap, t, rfl, hr', hb⟩

end Go.Proofs
