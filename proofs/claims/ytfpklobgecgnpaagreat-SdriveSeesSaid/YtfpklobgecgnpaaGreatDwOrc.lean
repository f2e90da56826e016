/-
  DwOrc: functions that are met by a contract: slices.Sorted over maps.Keys at int keys; closed functions that return true.
-/
import Derived.Test.YtfpklobgecgnpaaGreatDwEnd
import Derived.Shelf.SlIterI.Nil
import Derived.Shelf.SlIterI.Sorted
import Derived.Lib.SlKeysI
namespace Go.Dw
set_option linter.unusedSimpArgs false
set_option linter.unusedVariables false
noncomputable section

/-! ### What the machine says of the call -/
def memN (n : Nat) : List Nat → Bool
  | [] => false
  | m :: l => match Nat.beq n m with | true => true | false => memN n l
/-- A key and its bounds. -/
abbrev KE := SE × Nat × Nat
/-- The keys, natural ones. -/
def keyNats : List ME → Option (List KE)
  | [] => some []
  | e :: l => match e.key with
    | .int .i64 x => (match bnd x with
      | some (p, q) => (match Nat.blt q 9223372036854775808, keyNats l with
        | true, some m => some ((x, p, q) :: m)
        | _, _ => none)
      | none => none)
    | _ => none
def insK (n : KE) : List KE → Option (List KE)
  | [] => some [n]
  | m :: l => match Nat.blt n.2.2 m.2.1 with
    | true => some (n :: m :: l)
    | false => match Nat.blt m.2.2 n.2.1 with
      | true => (match insK n l with | some k => some (m :: k) | none => none)
      | false => none
/-- Sorted; none: two of which it is not known. -/
def sortK : List KE → Option (List KE)
  | [] => some []
  | n :: l => match sortK l with | some m => insK n m | none => none
def insN (n : Nat) : List Nat → Option (List Nat)
  | [] => some [n]
  | m :: l => match Nat.blt n m with
    | true => some (n :: m :: l)
    | false => match Nat.blt m n with
      | true => (match insN n l with | some k => some (m :: k) | none => none)
      | false => none
/-- Sorted; none: one stands there twice. -/
def sortN : List Nat → Option (List Nat)
  | [] => some []
  | n :: l => match sortN l with | some m => insN n m | none => none
def bornsOf : List ME → List Nat
  | [] => []
  | e :: l => e.born :: bornsOf l
def allLt (c : Nat) : List Nat → Bool
  | [] => true
  | n :: l => match Nat.blt n c with | true => allLt c l | false => false
def natAVs : List KE → List AV
  | [] => []
  | n :: l => .int .i64 n.1 :: natAVs l
def sortedKeys (es : List ME) (clock : Nat) : Option (List KE) :=
  match keyNats es with
  | none => none
  | some ks => match sortN (bornsOf es), allLt clock (bornsOf es), Nat.ble ks.length 1000000 with
    | some _, true, true => sortK ks
    | _, _, _ => none
/-- A box's cell. -/
def boxAt (H : Heap) (b : Nat) : Option AV :=
  match H.m.get b with
  | some (.cells v _ g closed _ own) => (match Nat.beq g b, alive H.gw g closed, own, Nat.ble 1 v.n with
    | true, true, true, true => some (v.get 0)
    | _, _, _, _ => none)
  | _ => none
def sortedAns (H : Heap) (l : List KE) : List (AV × Heap) :=
  match l with
  | [] => [(.nils, H)]
  | n :: l => match H with | ⟨hm, nx, gw⟩ => [(.sl nx 0 (Nat.succ l.length) (.upto 0), Heap.alloc ⟨hm, nx, gw⟩ (newCells (natAVs (n :: l)) 1 nx))]
def sortedOrc (c : FuncId) (gs : List Nat) (f : FuncId) (args : List AV) (H : Heap) : Option (List (AV × Heap)) :=
  match Nat.beq f c with
  | false => none
  | true => match args with
    | [.func g [] [.ptr b 0]] => (match memN g gs, boxAt H b with
      | true, some .nilm => some [(.nils, H)]
      | true, some (.map m) => (match H.mapAt m with
        | some (es, clock) => (match sortedKeys es clock with
          | some l => some (sortedAns H l)
          | none => none)
        | none => none)
      | _, _ => none)
    | _ => none
/-- Closed functions that return true, whatever lies in memory. -/
def trueOrc (fs : List Nat) (f : FuncId) (args : List AV) (H : Heap) : Option (List (AV × Heap)) :=
  match memN f fs, args with
  | true, [] => some [(.bool (.lit true), H)]
  | _, _ => none
def orcOr (o o' : FuncId → List AV → Heap → Option (List (AV × Heap))) (f : FuncId) (args : List AV) (H : Heap) : Option (List (AV × Heap)) :=
  match o f args H with
  | some l => some l
  | none => o' f args H

section
variable {P : Program} {ρ : Val} {w0 : World} {j : J} {H : Heap} {w w' : World}

theorem orcOr_ok {o o' : FuncId → List AV → Heap → Option (List (AV × Heap))} (h : OrcOk P ρ w0 o) (h' : OrcOk P ρ w0 o') : OrcOk P ρ w0 (orcOr o o') := by
  intro f args H l hl
  unfold orcOr at hl
  split at hl
  · cases hl; rename_i ho; exact h f args H _ ho
  · exact h' f args H l hl

theorem memN_mem {n : Nat} : ∀ {l : List Nat}, memN n l = true → n ∈ l
  | [], h => by cases h
  | m :: l, h => by
    unfold memN at h
    split at h
    · rename_i hb; rw [natBeq hb]; exact List.mem_cons_self ..
    · exact List.mem_cons_of_mem _ (memN_mem h)

/-! ### A world that has more behind what was there -/
theorem Inv.behind (h : Inv ρ w0 j H w) (hb : RowKit.Below w.heap.size w w') : Inv ρ w0 j H w' := by
  have hold : ∀ n L, j n = some L → w'.heap[L.blk]? = w.heap[L.blk]? := fun n L e => hb.block _ (h.blk n L e)
  refine ⟨h.fr.trans ⟨hb.os, hb.output, hb.tape, hb.size, hb.block⟩, h.dom, fun n L e => Nat.lt_of_lt_of_le (h.blk n L e) hb.size, h.used, fun n L e => ?_, h.sep, h.tim, h.gwt, h.grp, fun n L e hn c t fr he => ?_, h.off0⟩
  · obtain ⟨o, h1, h2⟩ := h.obj n L e
    exact ⟨o, h1, ObjR.grow (Sub.refl j) (hold n L e) h2⟩
  · rw [hold n L e] at he
    exact h.fz n L e hn c t fr he

/-- A block of the world, of nobody's till now, is the heap's. -/
theorem Inv.adoptAt (h : Inv ρ w0 j H w) {n gb : Nat} {o : Obj} {ob : Go.Obj} {c : Nat} (hn : H.m.get n = some o) (hj : j n = none) (hnew : NewR ρ j o ob c)
    (hg : ∀ v e g cl sh, o = .cells v e g cl sh true → g = n ∨ ∃ Lg, j g = some Lg) (hgb : w.heap[gb]? = some ob) (h0 : w0.heap.size ≤ gb) (hfree : ∀ k L, j k = some L → L.blk ≠ gb) :
    Inv ρ w0 (jset j n ⟨gb, 0, c⟩) H w := by
  have hsub := sub_jset (L := ⟨gb, 0, c⟩) hj
  have hback : ∀ k L, jset j n ⟨gb, 0, c⟩ k = some L → (k = n ∧ L = ⟨gb, 0, c⟩) ∨ (k ≠ n ∧ j k = some L) := fun k L e => by
    by_cases hk : k = n
    · subst hk; rw [jset_same] at e; exact .inl ⟨rfl, (Option.some.inj e).symm⟩
    · rw [jset_ne _ _ hk] at e; exact .inr ⟨hk, e⟩
  refine ⟨h.fr, fun k L e => ?_, fun k L e => ?_, h.used, fun k L e => ?_, fun k m Lk Lm hkm e1 e2 hb => ?_, h.tim, h.gwt, fun k L v e g cl sh e1 e2 => ?_, fun k L hjk hi cs e fr he => ?_, fun k L v e cl sh e1 e2 => (hback k L e1).elim (fun x => x.2 ▸ rfl) (fun x => h.off0 k L v e cl sh x.2 e2)⟩
  · rcases hback k L e with ⟨rfl, _⟩ | ⟨_, e⟩
    · exact h.used _ _ hn
    · exact h.dom k L e
  · rcases hback k L e with ⟨_, rfl⟩ | ⟨_, e⟩
    · exact (Array.getElem?_eq_some_iff.1 hgb).1
    · exact h.blk k L e
  · rcases hback k L e with ⟨rfl, rfl⟩ | ⟨_, e⟩
    · refine ⟨o, hn, ?_⟩
      cases o with
      | cells v esz g cl sh own =>
        obtain ⟨ho, _, arr, e', rfl, h1, h2, h3⟩ := hnew
        refine ⟨by rw [if_pos ho]; exact h0, fun _ => ⟨arr, e', (0, 0), hgb, by simpa using h1, ⟨by simpa using h2.1, h2.2⟩, fun i hi => ?_⟩⟩
        obtain ⟨x, h4, h5⟩ := h3 i hi
        exact ⟨x, by simpa using h4, h5.mono hsub⟩
      | map es clock =>
        obtain ⟨_, arr, rfl, h1⟩ := hnew
        exact ⟨h0, rfl, arr, hgb, h1.mono hsub⟩
      | iter m since seen stepped =>
        obtain ⟨_, m', sa, rfl, h1, h2⟩ := hnew
        refine ⟨h0, rfl, m', sa, hgb, h1, ?_⟩
        cases m with
        | none => exact h2
        | some n => obtain ⟨Lm, e, x⟩ := h2; exact ⟨Lm, hsub _ _ e, x⟩
      | mapu es =>
        obtain ⟨_, arr, clock, es', rfl, h1, h2⟩ := hnew
        exact ⟨h0, rfl, arr, clock, es', hgb, h1, h2.mono hsub⟩
    · obtain ⟨o', h1, h2⟩ := h.obj k L e
      exact ⟨o', h1, ObjR.grow hsub rfl h2⟩
  · rcases hback k Lk e1 with ⟨rfl, rfl⟩ | ⟨_, e1⟩ <;> rcases hback m Lm e2 with ⟨rfl, rfl⟩ | ⟨_, e2⟩
    · exact absurd rfl hkm
    · rename_i e2; exact absurd hb.symm (hfree m Lm e2)
    · rename_i e1 _; exact absurd hb (hfree k Lk (by assumption))
    · exact h.sep k m Lk Lm hkm (by assumption) (by assumption) hb
  · rcases hback k L e1 with ⟨rfl, rfl⟩ | ⟨_, e1⟩
    · rw [hn] at e2
      rcases hg _ _ _ _ _ (Option.some.inj e2) with rfl | ⟨Lg, e3⟩
      · exact ⟨_, jset_same _ _ _⟩
      · exact ⟨Lg, hsub _ _ e3⟩
    · obtain ⟨Lg, e3⟩ := h.grp k L v e g cl sh e1 e2
      exact ⟨Lg, hsub _ _ e3⟩
  · rcases hback k L hjk with ⟨rfl, rfl⟩ | ⟨_, hjk⟩
    · rw [hgb] at he
      cases o with
      | cells v esz g cl sh own =>
        obtain ⟨_, _, arr, e', rfl, _⟩ := hnew
        cases he; rfl
      | map es clock => obtain ⟨_, arr, rfl, _⟩ := hnew; cases he
      | iter m since seen stepped => obtain ⟨_, m', sa, rfl, _⟩ := hnew; cases he
      | mapu es => obtain ⟨_, arr, clock, es', rfl, _⟩ := hnew; cases he
    · exact h.fz k L hjk hi cs e fr he

/-! ### Closed functions -/
structure TrueOk (P : Program) (f : FuncId) : Prop where
  enters : Enters P f
  runs : ∀ w, Calls P f #[] w fun e w' => e = .returned (.bool true) ∧ RowKit.Below w.heap.size w w'
theorem trueOrc_ok {fs : List Nat} (h : ∀ f ∈ fs, TrueOk P f) : OrcOk P ρ w0 (trueOrc fs) := by
  intro f args H l hl
  unfold trueOrc at hl
  split at hl
  case h_2 => cases hl
  rename_i hm
  cases hl
  have ho := h f (memN_mem hm)
  refine ⟨ho.enters, fun k hk j w vals hi hv => ?_⟩
  have e : vals = [] := hv
  subst e
  refine Calls.mono (ho.runs w) fun e w' ⟨he, hb⟩ => ⟨_, he, .bool (.lit true), H, j, rfl, hi.behind hb, St.refl j H, hk⟩

def someWorld : World := default
theorem run_enters {P : Program} (hmo : P.follows .mixedOrders = true) {orc : FuncId → List AV → Heap → Option (List (AV × Heap))} (hor : ∀ w, OrcOk P ⟨fun _ => 0, fun _ => false⟩ w orc) {n : Nat} {f : FuncId} (h : (ev P orc n (.call f [] heap0 isTrue)).good = true) : TrueOk P f :=
  ⟨((ev_good (ρ := ⟨fun _ => 0, fun _ => false⟩) (w0 := someWorld) (hor someWorld) (fun n rec hg => planOk hmo hg) n).call f [] heap0 isTrue (Ob.den_of_good h)).1,
   fun w => calls_true (ρ := ⟨fun _ => 0, fun _ => false⟩) hmo (hor w) (inv0 w) RL.nil (Ob.den_of_good h)⟩

theorem run_true_orc {P : Program} (hmo : P.follows .mixedOrders = true) {orc : FuncId → List AV → Heap → Option (List (AV × Heap))} (hor : ∀ w, OrcOk P ⟨fun _ => 0, fun _ => false⟩ w orc) {n : Nat} {f : FuncId} (h : (ev P orc n (.call f [] heap0 isTrue)).good = true) (w : World) :
    Calls P f #[] w fun e w' => e = .returned (.bool true) ∧ RowKit.Below w.heap.size w w' :=
  calls_true (ρ := ⟨fun _ => 0, fun _ => false⟩) hmo (hor w) (inv0 w) RL.nil (Ob.den_of_good h)

/-! ### slices.Sorted over maps.Keys -/
structure SortedOk (P : Program) (c g : FuncId) : Prop where
  enters : Enters P c
  sorted : ∀ (w : World) (Bm b : Nat) (es : Array MapEntry) (clock : Nat) (ks : List Int), Bm < w.heap.size → w.cell? ⟨Bm, 0, none⟩ = some (.map (some b)) → w.heap[b]? = some (.map es clock) → MapKept.Stamped es clock →
    es.toList.map (·.key) = ks.map encZ → (∀ x ∈ ks, (Lit.int .i64 x).wf = true) → ks.length ≤ 1000000 →
    Calls P c #[.func (.func g) #[] #[.pointer (some ⟨Bm, 0, none⟩)]] w fun e w' => ∃ v ss t, e = .returned v ∧ ss.Perm ks ∧ w'.ownsRow w.heap.size t 1 v ss.length ((ss.mergeSort leI).map encZ) ∧ (v = .slice none 0 0 ↔ ss = []) ∧ RowKit.Below w.heap.size w w'
  nil : ∀ (w : World) (Bm : Nat), Bm < w.heap.size → w.cell? ⟨Bm, 0, none⟩ = some (.map none) →
    Calls P c #[.func (.func g) #[] #[.pointer (some ⟨Bm, 0, none⟩)]] w fun e w' => e = .returned (.slice none 0 0) ∧ RowKit.Below w.heap.size w w'

/-- What a key stands for. -/
def denK (ρ : Val) (n : KE) : Int := n.1.den ρ
def okK (ρ : Val) (n : KE) : Prop := ∃ x : Nat, denK ρ n = Int.ofNat x ∧ n.2.1 ≤ x ∧ x ≤ n.2.2 ∧ n.2.2 < 9223372036854775808
theorem keyNats_eq : ∀ {es : List ME} {ks : List KE} {xs : List MapEntry}, keyNats es = some ks → RM ρ j es xs → xs.map (·.key) = (ks.map (denK ρ)).map encZ ∧ (∀ n ∈ ks, okK ρ n)
  | [], ks, xs, h, hr => by
    have e : xs = [] := hr
    subst e
    unfold keyNats at h; cases h
    exact ⟨rfl, by simp⟩
  | e :: es, ks, xs, h, hr => by
    obtain ⟨x, xs, rfl, hk, _, _, hr⟩ := hr
    unfold keyNats at h
    split at h
    case h_2 => cases h
    rename_i n hkey
    split at h
    case h_2 => cases h
    rename_i p q hb
    split at h
    case h_2 => cases h
    rename_i m hlt hm
    cases h
    obtain ⟨h1, h2⟩ := keyNats_eq hm hr
    rw [hkey] at hk
    have hk : x.key = .int .i64 (n.den ρ) := hk
    rw [Nat.blt_eq] at hlt
    obtain ⟨y, e1, e2, e3⟩ := bnd_den (ρ := ρ) hb
    refine ⟨by simp only [List.map_cons, h1, hk]; rfl, fun z hz => ?_⟩
    rcases List.mem_cons.1 hz with rfl | hz
    · exact ⟨y, e1, e2, e3, hlt⟩
    · exact h2 z hz
theorem okK_wf {n : KE} (h : okK ρ n) : (Lit.int .i64 (denK ρ n)).wf = true := by
  obtain ⟨x, e, _, h2, h3⟩ := h
  rw [e]
  simp [Lit.wf, IntKind.min, IntKind.max, IntKind.signed, IntKind.bits]
  omega
theorem bornsOf_eq : ∀ {es : List ME} {xs : List MapEntry}, RM ρ j es xs → xs.map (·.born) = bornsOf es
  | [], xs, hr => by have e : xs = [] := hr; subst e; rfl
  | e :: es, xs, hr => by
    obtain ⟨x, xs, rfl, _, _, hb, hr⟩ := hr
    simp only [List.map_cons, bornsOf, bornsOf_eq hr, hb]
theorem allLt_at {c : Nat} : ∀ {l : List Nat}, allLt c l = true → ∀ x ∈ l, x < c
  | [], _, x, hx => by cases hx
  | n :: l, h, x, hx => by
    unfold allLt at h
    split at h
    · rename_i hb
      rw [Nat.blt_eq] at hb
      rcases List.mem_cons.1 hx with rfl | hx
      · exact hb
      · exact allLt_at h x hx
    · cases h
theorem insN_spec {n : Nat} : ∀ {l m : List Nat}, insN n l = some m → l.Pairwise (· < ·) → m.Pairwise (· < ·) ∧ m.Perm (n :: l)
  | [], m, h, _ => by unfold insN at h; cases h; exact ⟨List.pairwise_singleton _ _, List.Perm.refl _⟩
  | x :: l, m, h, hl => by
    unfold insN at h
    obtain ⟨h1, h2⟩ := List.pairwise_cons.1 hl
    split at h
    · rename_i hb
      rw [Nat.blt_eq] at hb
      cases h
      refine ⟨List.pairwise_cons.2 ⟨fun y hy => ?_, hl⟩, List.Perm.refl _⟩
      rcases List.mem_cons.1 hy with rfl | hy
      · exact hb
      · have := h1 y hy; omega
    · split at h
      · rename_i hb
        rw [Nat.blt_eq] at hb
        split at h
        · rename_i k hk
          cases h
          obtain ⟨h3, h4⟩ := insN_spec hk h2
          refine ⟨List.pairwise_cons.2 ⟨fun y hy => ?_, h3⟩, (List.Perm.cons x h4).trans (List.Perm.swap n x l)⟩
          rcases List.mem_cons.1 (h4.mem_iff.1 hy) with rfl | hy
          · exact hb
          · exact h1 y hy
        · cases h
      · cases h
theorem sortN_spec : ∀ {l m : List Nat}, sortN l = some m → m.Pairwise (· < ·) ∧ m.Perm l
  | [], m, h => by unfold sortN at h; cases h; exact ⟨List.Pairwise.nil, List.Perm.refl _⟩
  | n :: l, m, h => by
    unfold sortN at h
    split at h
    · rename_i k hk
      obtain ⟨h1, h2⟩ := sortN_spec hk
      obtain ⟨h3, h4⟩ := insN_spec h h1
      exact ⟨h3, h4.trans (List.Perm.cons n h2)⟩
    · cases h
theorem sortN_nodup {l m : List Nat} (h : sortN l = some m) : l.Nodup := by
  obtain ⟨h1, h2⟩ := sortN_spec h
  exact (h2.nodup_iff).1 (h1.imp fun hlt => by omega)
theorem insK_spec {n : KE} (hn : okK ρ n) : ∀ {l m : List KE}, insK n l = some m → (∀ k ∈ l, okK ρ k) → (l.map (denK ρ)).Pairwise (· < ·) → (m.map (denK ρ)).Pairwise (· < ·) ∧ m.Perm (n :: l)
  | [], m, h, _, _ => by unfold insK at h; cases h; exact ⟨List.pairwise_singleton _ _, List.Perm.refl _⟩
  | x :: l, m, h, hk, hl => by
    unfold insK at h
    obtain ⟨h1, h2⟩ := List.pairwise_cons.1 (show (denK ρ x :: l.map (denK ρ)).Pairwise (· < ·) from hl)
    obtain ⟨a, ea, a1, a2, _⟩ := hn
    obtain ⟨b, eb, b1, b2, _⟩ := hk x (List.mem_cons_self ..)
    have hk' : ∀ k ∈ l, okK ρ k := fun k h => hk k (List.mem_cons_of_mem _ h)
    split at h
    · rename_i hb
      rw [Nat.blt_eq] at hb
      cases h
      have hlt : denK ρ n < denK ρ x := by rw [ea, eb]; exact Int.ofNat_lt.2 (by omega)
      refine ⟨List.pairwise_cons.2 ⟨fun y hy => ?_, hl⟩, List.Perm.refl _⟩
      rcases List.mem_cons.1 hy with rfl | hy
      · exact hlt
      · exact Int.lt_trans hlt (h1 y hy)
    · split at h
      · rename_i hb
        rw [Nat.blt_eq] at hb
        split at h
        · rename_i k hkk
          cases h
          obtain ⟨h3, h4⟩ := insK_spec ⟨a, ea, a1, a2, by assumption⟩ hkk hk' h2
          have hlt : denK ρ x < denK ρ n := by rw [ea, eb]; exact Int.ofNat_lt.2 (by omega)
          refine ⟨List.pairwise_cons.2 ⟨fun y hy => ?_, h3⟩, (List.Perm.cons x h4).trans (List.Perm.swap n x l)⟩
          rcases List.mem_cons.1 ((h4.map (denK ρ)).mem_iff.1 hy) with rfl | hy
          · exact hlt
          · exact h1 y hy
        · cases h
      · cases h
theorem sortK_spec : ∀ {l m : List KE}, sortK l = some m → (∀ k ∈ l, okK ρ k) → (m.map (denK ρ)).Pairwise (· < ·) ∧ m.Perm l
  | [], m, h, _ => by unfold sortK at h; cases h; exact ⟨List.Pairwise.nil, List.Perm.refl _⟩
  | n :: l, m, h, hk => by
    unfold sortK at h
    split at h
    · rename_i k hkk
      obtain ⟨h1, h2⟩ := sortK_spec hkk (fun x hx => hk x (List.mem_cons_of_mem _ hx))
      obtain ⟨h3, h4⟩ := insK_spec (hk n (List.mem_cons_self ..)) h (fun x hx => hk x (List.mem_cons_of_mem _ (h2.mem_iff.1 hx))) h1
      exact ⟨h3, h4.trans (List.Perm.cons n h2)⟩
    · cases h
theorem sortK_nodup {l m : List KE} (h : sortK l = some m) (hk : ∀ k ∈ l, okK ρ k) : (l.map (denK ρ)).Nodup := by
  obtain ⟨h1, h2⟩ := sortK_spec (ρ := ρ) h hk
  exact ((h2.map (denK ρ)).nodup_iff).1 (h1.imp fun hlt => by omega)
theorem sortK_sorts {l m : List KE} (h : sortK l = some m) (hk : ∀ k ∈ l, okK ρ k) {ss : List Int} (hp : ss.Perm (l.map (denK ρ))) : ss.mergeSort leI = m.map (denK ρ) := by
  obtain ⟨h1, h2⟩ := sortK_spec (ρ := ρ) h hk
  have tr : ∀ a b c : Int, leI a b = true → leI b c = true → leI a c = true := fun a b c h1 h2 => by simp only [leI, decide_eq_true_eq] at *; exact Int.le_trans h1 h2
  have to : ∀ a b : Int, (leI a b || leI b a) = true := fun a b => by simp only [leI, Bool.or_eq_true, decide_eq_true_eq]; exact Int.le_total a b
  refine List.Perm.eq_of_pairwise (le := fun a b => leI a b = true) (fun a b _ _ h1 h2 => ?_) (List.pairwise_mergeSort tr to ss) ?_ (((List.mergeSort_perm ss leI).trans hp).trans (h2.map (denK ρ)).symm)
  · simp only [leI, decide_eq_true_eq] at h1 h2
    exact Int.le_antisymm h1 h2
  · refine h1.imp fun hlt => ?_
    simp only [leI, decide_eq_true_eq]
    exact Int.le_of_lt hlt
theorem natAVs_R : ∀ (l : List KE), RL ρ j (natAVs l) ((l.map (denK ρ)).map encZ)
  | [] => rfl
  | n :: l => ⟨_, _, rfl, rfl, natAVs_R l⟩
theorem natAVs_length : ∀ (l : List KE), (natAVs l).length = l.length
  | [] => rfl
  | n :: l => by simp [natAVs, natAVs_length l]

/-- A map of int keys reads as a datum. -/
theorem ownsMap_of {k : TypeId} (hk : P.underlying k = some (.int .i64)) {b : Nat} {es : Array MapEntry} {clock : Nat} {ks : List Int} (hb : w.heap[b]? = some (.map es clock)) (hst : MapKept.Stamped es clock)
    (hkeys : es.toList.map (·.key) = ks.map encZ) (hwf : ∀ x ∈ ks, (Lit.int .i64 x).wf = true) (hlen : ks.length ≤ 1000000) :
    ∃ D0 : DataW Unit, w.ownsMap P k (fun _ => some (.nil, [])) b es.size D0 ∧ (intKeys D0).Perm ks ∧ Maps.size D0 = ks.length := by
  have hl : es.toList.length = ks.length := by have := congrArg List.length hkeys; simpa using this
  have hkey : ∀ x ∈ es.toList, ∃ a, x.key = encZ a ∧ (Lit.int .i64 a).wf = true := fun x hx => by
    have : x.key ∈ ks.map encZ := by rw [← hkeys]; exact List.mem_map_of_mem hx
    obtain ⟨a, ha, e⟩ := List.mem_map.1 this
    exact ⟨a, e.symm, hwf a ha⟩
  have hrd : ∀ x ∈ es.toList, ∀ a, x.key = encZ a → (Lit.int .i64 a).wf = true → WideElems.rd P k (fun _ => some ((.nil : DataW Unit), [])) x = some (.int .i64 a, .nil) := fun x _ a e hw => by
    unfold WideElems.rd
    rw [e, Maps.keyOf_int_mk hk hw]
    rfl
  refine ⟨_, ⟨es, clock, hb, ⟨?_, hst, fun x hx => ?_⟩, Nat.le_refl _, rfl⟩, ?_, ?_⟩
  · rw [← Array.length_toList, hl]
    unfold maxLen
    omega
  · obtain ⟨a, e, hw⟩ := hkey x hx
    exact ⟨_, hrd x hx a e hw⟩
  · have e : (es.toList.map (WideElems.rg P k (fun _ => some ((.nil : DataW Unit), [])))).map (fun p => Go.intOf p.1) = ks := by
      have unz : ∀ l : List Int, (l.map encZ).map RowKit.intOf = l := fun l => by
        rw [List.map_map]
        conv => rhs; rw [← List.map_id l]
        rfl
      rw [← unz ks, ← hkeys, List.map_map, List.map_map]
      refine List.map_congr_left fun x hx => ?_
      obtain ⟨a, e, hw⟩ := hkey x hx
      simp only [Function.comp_apply, WideElems.rg, hrd x hx a e hw, Option.getD_some, e]
      rfl
    have h := (WideShapes.sorted_perm (es.toList.map (WideElems.rg P k (fun _ => some ((.nil : DataW Unit), []))))).map (fun p => Go.intOf p.1)
    rw [e] at h
    exact h
  · show List.length _ = _
    rw [(WideShapes.sorted_perm _).length_eq, List.length_map, hl]

theorem sortedOrc_ok {c : FuncId} {gs : List Nat} (h : ∀ g ∈ gs, SortedOk P c g) : OrcOk P ρ w0 (sortedOrc c gs) := by
  intro f args H l hl
  unfold sortedOrc at hl
  split at hl
  · cases hl
  rename_i hfc
  have hfc := natBeq hfc
  subst hfc
  split at hl
  case h_2 => cases hl
  rename_i g b
  have start : ∀ {k : K} {j : J} {w : World} {vals : List Value} {x : AV}, Inv ρ w0 j H w → RL ρ j [.func g [] [.ptr b 0]] vals → boxAt H b = some x →
      ∃ L u, j b = some L ∧ vals = [.func (.func g) #[] #[.pointer (some ⟨L.blk, 0, none⟩)]] ∧ L.blk < w.heap.size ∧ w.cell? ⟨L.blk, 0, none⟩ = some u ∧ R ρ j x u := by
    intro k j w vals x hi hv hbox
    obtain ⟨u, m, rfl, hu, hm⟩ := hv
    have e : m = [] := hm
    subst e
    obtain ⟨l', m', rfl, hl', hm'⟩ := hu
    have e : l' = [] := hl'
    subst e
    obtain ⟨p, m2, rfl, hp, hm2⟩ := hm'
    have e : m2 = [] := hm2
    subst e
    obtain ⟨L, hj, rfl⟩ := hp
    unfold boxAt at hbox
    split at hbox
    case h_2 => cases hbox
    rename_i v esz g' closed sh own hget
    split at hbox
    case h_2 => cases hbox
    rename_i hg hal hone
    cases hbox
    have hg := natBeq hg
    subst hg
    have hoff := hi.off0 _ L v esz closed sh hj hget
    obtain ⟨o, h1, h2⟩ := hi.obj _ L hj
    rw [hget] at h1; cases h1
    obtain ⟨arr, e, fr, h3, _, _, h5⟩ := h2.2 hal
    obtain ⟨y, h6, h7⟩ := h5 0 (Nat.le_of_ble_eq_true hone)
    rw [hoff] at h6
    refine ⟨L, y, hj, by rw [hoff], (Array.getElem?_eq_some_iff.1 h3).1, ?_, h7⟩
    simp [World.cell?, h3]
    simpa using h6
  split at hl
  · rename_i hm hbox
    cases hl
    have ho := h g (memN_mem hm)
    refine ⟨ho.enters, fun k hk j w vals hi hv => ?_⟩
    obtain ⟨L, u, hj, rfl, hlt, hcell, hu⟩ := start (k := k) hi hv hbox
    have e : u = .map none := hu
    subst e
    refine Calls.mono (ho.nil w L.blk hlt hcell) fun e w' ⟨he, hb⟩ => ⟨_, he, .nils, H, j, rfl, hi.behind hb, St.refl j H, hk⟩
  · rename_i m hm hbox
    have ho := h g (memN_mem hm)
    split at hl
    case h_2 => cases hl
    rename_i es clock hmap
    split at hl
    case h_2 => cases hl
    rename_i ls hsorted
    cases hl
    refine ⟨ho.enters, fun k hk j w vals hi hv => ?_⟩
    obtain ⟨L, u, hj, rfl, hlt, hcell, hu⟩ := start (k := k) hi hv hbox
    obtain ⟨Lm, hjm, rfl⟩ := hu
    obtain ⟨arr, harr, hrm⟩ := hi.mapAt hjm hmap
    unfold sortedKeys at hsorted
    split at hsorted
    · cases hsorted
    rename_i ks hks
    split at hsorted
    case h_2 => cases hsorted
    rename_i bs hbs hall hlen
    obtain ⟨hkeys, hok⟩ := keyNats_eq hks hrm
    have hwf : ∀ x ∈ ks.map (denK ρ), (Lit.int .i64 x).wf = true := fun x hx => by
      obtain ⟨k, hk, rfl⟩ := List.mem_map.1 hx
      exact okK_wf (hok k hk)
    have hborn := bornsOf_eq hrm
    have hnd := sortK_nodup (ρ := ρ) hsorted hok
    have hst : MapKept.Stamped arr clock := by
      refine ⟨fun x hx => allLt_at hall _ (by rw [← hborn]; exact List.mem_map_of_mem hx), by rw [hborn]; exact sortN_nodup hbs, ?_⟩
      rw [hkeys]
      exact List.pairwise_map.2 (hnd.imp fun hne e => hne (encZ_inj e))
    refine Calls.mono (ho.sorted w L.blk Lm.blk arr clock (ks.map (denK ρ)) hlt hcell harr hst hkeys hwf (by simpa using Nat.le_of_ble_eq_true hlen)) fun e w' ⟨v, ss, t, he, hperm, hrow, hnil, hb⟩ => ?_
    refine ⟨v, he, ?_⟩
    have hsort := sortK_sorts (ρ := ρ) hsorted hok hperm
    have hsslen : ss.length = ls.length := by rw [hperm.length_eq, List.length_map, (sortK_spec (ρ := ρ) hsorted hok).2.length_eq]
    rw [hsort, hsslen] at hrow
    have hi' := hi.behind hb
    cases ls with
    | nil =>
      have e : v = .slice none 0 0 := hnil.2 (List.eq_nil_of_length_eq_zero (by rw [hsslen]; rfl))
      subst e
      exact ⟨.nils, H, j, rfl, hi', St.refl j H, hk⟩
    | cons n l =>
      rcases hrow.2 with ⟨_, h0⟩ | ⟨gb, cap, cur, rfl, hbase, hgb, r1, r2, r3, r4⟩
      · simp at h0
      have hk : Ob.den ρ (k (.sl H.nx 0 (Nat.succ l.length) (.upto 0)) (H.alloc (newCells (natAVs (n :: l)) 1 H.nx))) := hk
      have hj0 : j H.nx = none := hi.fresh
      have hlenN : (natAVs (n :: l)).length = l.length + 1 := by rw [natAVs_length]; rfl
      simp only [List.length_cons, Nat.mul_one] at r1 r3 r4
      have hext : Inv ρ w0 j (H.alloc (newCells (natAVs (n :: l)) 1 H.nx)) w' := hi'.extend _ (fun v e g t sh ow hob => by unfold newCells at hob; cases hob)
      have hget : (H.alloc (newCells (natAVs (n :: l)) 1 H.nx)).m.get H.nx = some (newCells (natAVs (n :: l)) 1 H.nx) := by rw [Heap.alloc_eq]; exact T.get_set_same _ _ _
      have hnew : NewR ρ j (newCells (natAVs (n :: l)) 1 H.nx) (.cells cur t (0, 0)) cap := by
        refine ⟨rfl, rfl, cur, t, rfl, by rw [Vec.n_ofList, hlenN]; omega, ⟨by omega, fun _ => by rw [Vec.n_ofList, hlenN]; omega⟩, fun i hin => ?_⟩
        rw [Vec.n_ofList] at hin
        rw [Vec.get_ofList _ i hin]
        obtain ⟨x, h1, h2⟩ := (natAVs_R (ρ := ρ) (j := j) (n :: l)).get i _ (List.getElem?_eq_getElem hin)
        refine ⟨x, ?_, h2⟩
        rw [← r4, List.getElem?_take_of_lt (by omega)] at h1
        simpa using h1
      refine ⟨.sl H.nx 0 (Nat.succ l.length) (.upto 0), _, jset j H.nx ⟨gb, 0, cap⟩, ⟨_, jset_same _ _ _, ⟨by show 0 + (l.length + 1) ≤ cap; omega, by show 0 < cap; omega⟩, rfl⟩,
        hext.adoptAt hget hj0 hnew (fun v e g cl sh hob => by unfold newCells at hob; cases hob; exact .inl rfl) hgb (Nat.le_trans hi.fr.size hbase) (fun q Lq e he => by have := hi.blk q Lq e; omega),
        ⟨sub_jset hj0, fun q Lq e e0 => ?_, (St.extend hi' _).keep, (St.extend hi' _).nx⟩, hk⟩
      by_cases hq : q = H.nx
      · omega
      · rw [jset_ne _ _ hq, e0] at e; cases e
  · cases hl

end
end
end Go.Dw
