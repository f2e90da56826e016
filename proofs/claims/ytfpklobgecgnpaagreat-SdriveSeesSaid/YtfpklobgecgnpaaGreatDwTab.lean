import Derived.Test.YtfpklobgecgnpaaGreatDwVal
/-
  An oracle by a table: calls of pure functions with closed arguments, whose answers the machine itself has shown. No condition.
-/
namespace Go.Dw
set_option linter.unusedSimpArgs false
set_option linter.unusedVariables false
noncomputable section
open Go.RowKit

mutual
theorem clo_R {ρ : Val} {j : J} : ∀ {a : AV} {x : Value}, clo a = some x → R ρ j a x
  | .bool (.lit b), x, h => by cases h; rfl
  | .int k (.lit n), x, h => by cases h; rfl
  | .nilp, x, h => by cases h; rfl
  | .nils, x, h => by cases h; rfl
  | .agg l, x, h => by
    rw [clo] at h
    cases hl : cloL l with
    | none => rw [hl] at h; cases h
    | some m' => rw [hl] at h; cases h; exact ⟨m', rfl, cloL_R hl⟩
  | .tup l, x, h => by
    rw [clo] at h
    cases hl : cloL l with
    | none => rw [hl] at h; cases h
    | some m' => rw [hl] at h; cases h; exact ⟨m', rfl, cloL_R hl⟩
theorem cloL_R {ρ : Val} {j : J} : ∀ {l : List AV} {m : List Value}, cloL l = some m → RL ρ j l m
  | [], m, h => by cases h; rfl
  | a :: l, m, h => by
    rw [cloL] at h
    cases ha : clo a with
    | none => rw [ha] at h; cases h
    | some x =>
      cases hl : cloL l with
      | none => rw [ha, hl] at h; cases h
      | some y => rw [ha, hl] at h; cases h; exact ⟨x, y, rfl, clo_R ha, cloL_R hl⟩
end

def tabOrc (F : FuncId → List AV → Option AV) (f : FuncId) (args : List AV) (H : Heap) : Option (List (AV × Heap)) :=
  match F f args with
  | some x => some [(x, H)]
  | none => none
structure TabAt (P : Program) (f : FuncId) (args : List AV) (x : AV) : Prop where
  enters : Enters P f
  runs : ∃ ms u, cloL args = some ms ∧ clo x = some u ∧ ∀ w, Calls P f ms.toArray w fun e w' => e = .returned u ∧ Below w.heap.size w w'
theorem tabAt {P : Program} (hmo : P.follows .mixedOrders = true) {n : Nat} {f : FuncId} {args : List AV} {ms : List Value} {x : AV} {u : Value} (hm : cloL args = some ms) (hx : clo x = some u)
    (h : (ev P noOrc n (.call f args heap0 (isAV x))).good = true) : TabAt P f args x :=
  ⟨((ev_good (P := P) (ρ := ⟨fun _ => 0, fun _ => false⟩) (w0 := someWorld) (orc := noOrc) noOrc_ok (fun n rec hg => planOk hmo hg) n).call f args heap0 (isAV x) (Ob.den_of_good h)).1, ms, u, hm, hx, fun w => run_val hmo hx (cloL_R hm) h w⟩
theorem tabOrc_ok {P : Program} {ρ : Val} {w0 : World} {F : FuncId → List AV → Option AV} (h : ∀ f args x, F f args = some x → TabAt P f args x) : OrcOk P ρ w0 (tabOrc F) := by
  intro f args H l hl
  unfold tabOrc at hl
  split at hl
  case h_2 => cases hl
  rename_i x hx
  cases hl
  have ho := h f args x hx
  refine ⟨ho.enters, fun k hk j w vals hi hv => ?_⟩
  obtain ⟨ms, u, hms, hu, hr⟩ := ho.runs
  have e : vals = ms := cloL_sound hms hv
  subst e
  refine Calls.mono (hr w) fun e w' ⟨he, hb⟩ => ⟨u, he, x, H, j, clo_R hu, hi.behind hb, St.refl j H, hk⟩

/-- Where an element of a split ring is: a pure function of the ring's size (its parts from 4096 on), the element's kind and its number. -/
def rdrv (n : Nat) : Nat := Nat.add 4096 (Nat.mul 16 n)
def rdvc (n : Nat) : Nat := Nat.mul (Nat.div (Nat.add (Nat.add (rdrv n) (Nat.mul 2 n)) 9) 4) 4
def ringAV (n : Nat) : AV := .agg [.bool (.lit false), .int .i64 (.lit (.ofNat n)), .int .u64 (.lit 4096), .int .u64 (.lit (.ofNat (rdrv n))), .int .u64 (.lit (.ofNat (rdvc n)))]
def whereAV (n what i : Nat) : Option AV :=
  match what with
  | 2 => some (.tup [.int .u64 (.lit (.ofNat (rdrv n))), .int .i64 (.lit 2), .int .i64 (.lit 0)])
  | 3 => some (.tup [.int .u64 (.lit (.ofNat (Nat.add (rdrv n) 2))), .int .i64 (.lit 2), .int .i64 (.lit 0)])
  | 4 => some (.tup [.int .u64 (.lit (.ofNat (Nat.add (Nat.add (rdrv n) 4) (Nat.mul 2 i)))), .int .i64 (.lit 2), .int .i64 (.lit 0)])
  | 5 => some (.tup [.int .u64 (.lit (.ofNat (Nat.add (Nat.add (rdrv n) 4) (Nat.mul 2 n)))), .int .i64 (.lit 2), .int .i64 (.lit 0)])
  | 6 => some (.tup [.int .u64 (.lit (.ofNat (rdvc n))), .int .i64 (.lit 2), .int .i64 (.lit 0)])
  | 7 => some (.tup [.int .u64 (.lit (.ofNat (Nat.add (rdvc n) 2))), .int .i64 (.lit 2), .int .i64 (.lit 0)])
  | 8 => some (.tup [.int .u64 (.lit (.ofNat (Nat.add (Nat.add (rdvc n) 4) (Nat.mul 8 i)))), .int .i64 (.lit 8), .int .i64 (.lit 0)])
  | 9 => some (.tup [.int .u64 (.lit (.ofNat (Nat.add (Nat.add (rdvc n) 4) (Nat.mul 8 n)))), .int .i64 (.lit 2), .int .i64 (.lit 0)])
  | _ => none
/-- Is a number one of that kind? -/
def idxOk (n what i : Nat) : Bool :=
  match what with
  | 4 => Nat.blt i n
  | 8 => Nat.blt i n
  | _ => Nat.beq i 0
def ringF (ws cs : List Nat) (n : Nat) (f : FuncId) (args : List AV) : Option AV :=
  match memN f ws with
  | true => match args with
    | [r, .int .i64 (.lit (.ofNat what)), .int .i64 (.lit (.ofNat i))] => match idxOk n what i with
      | true => match eqAV r (ringAV n) with
        | true => whereAV n what i
        | false => none
      | false => none
    | _ => none
  | false => match memN f cs with
    | true => match args with
      | [r] => match eqAV r (ringAV n) with
        | true => some (.int .i64 (.lit 0))
        | false => none
      | _ => none
    | false => none

def whereGood (P : Program) (f n what i : Nat) : Bool :=
  match whereAV n what i with
  | some x => (ev P noOrc 100000 (.call f [ringAV n, .int .i64 (.lit (.ofNat what)), .int .i64 (.lit (.ofNat i))] heap0 (isAV x))).good
  | none => true
def checkGood (P : Program) (f n : Nat) : Bool := (ev P noOrc 100000 (.call f [ringAV n] heap0 (isAV (.int .i64 (.lit 0))))).good
def ringGood (P : Program) (ws cs : List Nat) (n : Nat) : Bool :=
  (ws.all fun f => ([2, 3, 5, 6, 7, 9].all fun what => whereGood P f n what 0) && ([4, 8].all fun what => (List.range n).all fun i => whereGood P f n what i)) && (cs.all fun f => checkGood P f n)
theorem whereAV_clo (n what i : Nat) {x : AV} (h : whereAV n what i = some x) : ∃ u, clo x = some u := by
  unfold whereAV at h
  split at h <;> first | (cases h; exact ⟨_, rfl⟩) | cases h
theorem ringF_ok {P : Program} (hmo : P.follows .mixedOrders = true) {ws cs : List Nat} {n : Nat} (h : ringGood P ws cs n = true) : ∀ f args x, ringF ws cs n f args = some x → TabAt P f args x := by
  intro f args x hx
  unfold ringGood at h
  rw [Bool.and_eq_true] at h
  unfold ringF at hx
  split at hx
  · rename_i hm
    split at hx
    · rename_i r what i
      split at hx
      · rename_i hi
        split at hx
        · rename_i hr
          have hr' := eqAV_eq hr
          subst hr'
          have h1 := List.all_eq_true.1 h.1 f (memN_mem hm)
          rw [Bool.and_eq_true] at h1
          obtain ⟨u, hu⟩ := whereAV_clo n what i hx
          have hg : whereGood P f n what i = true := by
            unfold idxOk at hi
            split at hi
            · exact List.all_eq_true.1 (List.all_eq_true.1 h1.2 4 (by simp)) i (List.mem_range.2 (Nat.blt_eq ▸ hi))
            · exact List.all_eq_true.1 (List.all_eq_true.1 h1.2 8 (by simp)) i (List.mem_range.2 (Nat.blt_eq ▸ hi))
            · have hi0 : i = 0 := Nat.eq_of_beq_eq_true hi
              subst hi0
              rename_i h4 h8
              have hw : what = 2 ∨ what = 3 ∨ what = 5 ∨ what = 6 ∨ what = 7 ∨ what = 9 := by
                unfold whereAV at hx
                split at hx <;> first | (cases hx; done) | (simp; done) | (exact absurd rfl h4) | (exact absurd rfl h8) | skip
              exact List.all_eq_true.1 h1.1 what (by simpa using hw)
          unfold whereGood at hg
          rw [hx] at hg
          exact tabAt hmo (ms := [_, _, _]) rfl hu hg
        · cases hx
      · cases hx
    · cases hx
  · split at hx
    · rename_i hm
      split at hx
      · rename_i r
        split at hx
        · rename_i hr
          have hr' := eqAV_eq hr
          subst hr'
          cases hx
          exact tabAt hmo (ms := [_]) rfl rfl (List.all_eq_true.1 h.2 f (memN_mem hm))
        · cases hx
      · cases hx
    · cases hx
end
end Go.Dw
