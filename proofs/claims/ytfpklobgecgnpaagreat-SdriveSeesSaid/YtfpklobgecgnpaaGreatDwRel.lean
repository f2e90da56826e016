/-
  DwRel: how abstract values and heaps stand for the model's: the relation, and what keeps it.
-/
import Derived.Test.YtfpklobgecgnpaaGreatDwLaw
import Derived.Laws.Cells
import Derived.Laws.CopyRow
import Derived.Laws.AppendOwn
import Derived.LoopN
import Derived.RowKit3
import Derived.Below
namespace Go.Dw
set_option linter.unusedSimpArgs false
set_option linter.unusedVariables false

/-- Where a block lies: the model's block, the first cell's place, how many elements from there to its end. -/
structure Loc where
  blk : Nat
  off : Nat
  cap : Nat
abbrev J := Nat → Option Loc

def capOf (L : Loc) : CapI → Nat
  | .known c => c
  | .upto k => L.cap - k
def capOk (L : Loc) (len : Nat) : CapI → Prop
  | .known c => len ≤ c
  | .upto k => k + len ≤ L.cap ∧ 0 < L.cap

mutual
def R (ρ : Val) (j : J) : AV → Value → Prop
  | .bool b, v => v = .bool (b.den ρ)
  | .int k n, v => v = .int k (n.den ρ)
  | .str s, v => (∀ b ∈ s, b < 256) ∧ v = .string ⟨(s.map UInt8.ofNat).toArray⟩
  | .nilp, v => v = .pointer none
  | .ptr n o, v => ∃ L, j n = some L ∧ v = .pointer (some ⟨L.blk, L.off + o, none⟩)
  | .nils, v => v = .slice none 0 0
  | .sl n o len cap, v => ∃ L, j n = some L ∧ capOk L len cap ∧ v = .slice (some ⟨L.blk, L.off + o, none⟩) len (capOf L cap)
  | .emp, v => ∃ a c, v = .slice (some a) 0 c
  | .slu n, v => ∃ b l c, v = .slice b l c ∧ Int.ofNat l = n.den ρ
  | .sla, v => ∃ a l c, v = .slice (some a) l c
  | .nilm, v => v = .map none
  | .map n, v => ∃ L, j n = some L ∧ v = .map (some L.blk)
  | .func f first cap, v => ∃ l m, v = .func (.func f) l.toArray m.toArray ∧ RL ρ j first l ∧ RL ρ j cap m
  | .nilf, v => v = .nilFunc
  | .nili, v => v = .nilIface
  | .iface t x, v => ∃ y, v = .iface t y ∧ R ρ j x y
  | .agg l, v => ∃ m, v = .agg m.toArray ∧ RL ρ j l m
  | .tup l, v => ∃ m, v = .tuple m.toArray ∧ RL ρ j l m
def RL (ρ : Val) (j : J) : List AV → List Value → Prop
  | [], l => l = []
  | a :: l, m => ∃ v m', m = v :: m' ∧ R ρ j a v ∧ RL ρ j l m'
end

/-- One says all that the other says. -/
def Sub (j j' : J) : Prop := ∀ n L, j n = some L → j' n = some L
theorem Sub.refl (j : J) : Sub j j := fun _ _ h => h
theorem Sub.trans {j j' j'' : J} (h : Sub j j') (h' : Sub j' j'') : Sub j j'' := fun n L e => h' n L (h n L e)

mutual
theorem R.mono {ρ : Val} {j j' : J} (h : Sub j j') : ∀ {a : AV} {v : Value}, R ρ j a v → R ρ j' a v
  | .bool _, _, r => r
  | .int _ _, _, r => r
  | .str _, _, r => r
  | .nilp, _, r => r
  | .ptr _ _, _, r => let ⟨L, e, x⟩ := r; ⟨L, h _ _ e, x⟩
  | .nils, _, r => r
  | .sl _ _ _ _, _, r => let ⟨L, e, x⟩ := r; ⟨L, h _ _ e, x⟩
  | .emp, _, r => r
  | .slu _, _, r => r
  | .sla, _, r => r
  | .nilm, _, r => r
  | .map _, _, r => let ⟨L, e, x⟩ := r; ⟨L, h _ _ e, x⟩
  | .func _ _ _, _, r => let ⟨l, m, e, x, y⟩ := r; ⟨l, m, e, RL.mono h x, RL.mono h y⟩
  | .nilf, _, r => r
  | .nili, _, r => r
  | .iface _ _, _, r => let ⟨y, e, x⟩ := r; ⟨y, e, R.mono h x⟩
  | .agg _, _, r => let ⟨m, e, x⟩ := r; ⟨m, e, RL.mono h x⟩
  | .tup _, _, r => let ⟨m, e, x⟩ := r; ⟨m, e, RL.mono h x⟩
theorem RL.mono {ρ : Val} {j j' : J} (h : Sub j j') : ∀ {a : List AV} {v : List Value}, RL ρ j a v → RL ρ j' a v
  | [], _, r => r
  | _ :: _, _, r => let ⟨v, m, e, x, y⟩ := r; ⟨v, m, e, R.mono h x, RL.mono h y⟩
end

section
variable {ρ : Val} {j : J}
theorem RL.length : ∀ {l : List AV} {m : List Value}, RL ρ j l m → m.length = l.length
  | [], m, r => by have e : m = [] := r; rw [e]; rfl
  | _ :: l, _, r => by obtain ⟨v, m, rfl, _, y⟩ := r; simp [RL.length y]
theorem RL.get : ∀ {l : List AV} {m : List Value}, RL ρ j l m → ∀ (i : Nat) (a : AV), l[i]? = some a → ∃ v, m[i]? = some v ∧ R ρ j a v
  | [], _, _, _, _, h => by simp at h
  | _ :: l, _, r, 0, a, h => by obtain ⟨v, m, rfl, x, _⟩ := r; simp at h; subst h; exact ⟨v, rfl, x⟩
  | _ :: l, _, r, i + 1, a, h => by obtain ⟨v, m, rfl, _, y⟩ := r; simp at h; simpa using RL.get y i a h
theorem RL.of_get : ∀ {l : List AV} {m : List Value}, m.length = l.length → (∀ (i : Nat) (a : AV), l[i]? = some a → ∃ v, m[i]? = some v ∧ R ρ j a v) → RL ρ j l m
  | [], m, h, _ => by have e : m = [] := by simpa using h
                      exact e
  | a :: l, [], h, _ => by simp at h
  | a :: l, v :: m, h, hg => by
    refine ⟨v, m, rfl, ?_, RL.of_get (by simpa using h) fun i b hb => by simpa using hg (i + 1) b (by simpa using hb)⟩
    obtain ⟨v', h1, h2⟩ := hg 0 a rfl
    simp at h1; subst h1; exact h2
theorem RL.append : ∀ {l l' : List AV} {m m' : List Value}, RL ρ j l m → RL ρ j l' m' → RL ρ j (l ++ l') (m ++ m')
  | [], _, _, _, r, r' => by rw [show _ = [] from r]; exact r'
  | _ :: l, _, _, _, r, r' => by obtain ⟨v, m, rfl, x, y⟩ := r; exact ⟨v, _, rfl, x, RL.append y r'⟩
theorem RL.cons {a : AV} {v : Value} {l : List AV} {m : List Value} (h : R ρ j a v) (h' : RL ρ j l m) : RL ρ j (a :: l) (v :: m) := ⟨v, m, rfl, h, h'⟩
theorem RL.nil : RL ρ j [] [] := rfl
theorem RL.one {a : AV} {v : Value} (h : R ρ j a v) : RL ρ j [a] [v] := ⟨v, [], rfl, h, rfl⟩
theorem RL.two {a b : AV} {v u : Value} (h : R ρ j a v) (h' : R ρ j b u) : RL ρ j [a, b] [v, u] := .cons h (.one h')
end

/-! ### What a constant reads as -/
theorem uByte_ofNat_toNat (l : List UInt8) : (l.map (·.toNat)).map UInt8.ofNat = l := by
  rw [List.map_map]
  conv => rhs; rw [← List.map_id l]
  apply List.map_congr_left
  intro a _
  simp
theorem R_ofCell {ρ : Val} {j : J} {v : Value} {a : AV} (h : ofCell v = some a) : R ρ j a v := by
  unfold ofCell at h
  split at h <;> first | (cases h; done) | skip
  all_goals (cases h)
  all_goals first
    | (simp [R, SB.den, SE.den]; done)
    | skip
  rename_i s
  refine ⟨by simp; intro b _; exact b.toNat_lt, ?_⟩
  rw [uByte_ofNat_toNat]
theorem RL_ofCells {ρ : Val} {j : J} : ∀ {vs : List Value} {l : List AV}, ofCells vs = some l → RL ρ j l vs
  | [], l, h => by unfold ofCells at h; cases h; rfl
  | v :: vs, l, h => by
    unfold ofCells at h
    split at h
    · cases h
    · rename_i a ha
      split at h
      · cases h
      · rename_i m hm
        cases h
        exact ⟨v, vs, rfl, R_ofCell ha, RL_ofCells hm⟩
theorem R_ofValue {ρ : Val} {j : J} {v : Value} {a : AV} (h : ofValue v = some a) : R ρ j a v := by
  unfold ofValue at h
  split at h
  · split at h
    · rename_i hl; cases h; exact ⟨_, by simp, RL_ofCells hl⟩
    · cases h
  · split at h
    · rename_i hl; cases h; exact ⟨_, by simp, RL_ofCells hl⟩
    · cases h
  · exact R_ofCell h

theorem R_undef {ρ : Val} {j : J} : R ρ j undefA undef := ⟨[], rfl, rfl⟩

/-- The cells of a value. -/
theorem RL_cells {ρ : Val} {j : J} {a : AV} {v : Value} (h : R ρ j a v) : RL ρ j a.cells v.cells.toList := by
  cases a with
  | agg l => obtain ⟨m, rfl, r⟩ := h; simpa [AV.cells, Value.cells] using r
  | _ =>
    have hv : v.cells = #[v] := by
      simp only [R] at h
      first
        | (subst h; rfl)
        | (obtain ⟨_, _, rfl⟩ := h; rfl)
        | (obtain ⟨_, _, _, rfl⟩ := h; rfl)
        | (obtain ⟨_, rfl, _⟩ := h; rfl)
        | (obtain ⟨_, rfl⟩ := h; rfl)
        | (obtain ⟨_, _, rfl, _⟩ := h; rfl)
        | (obtain ⟨_, _, _, rfl, _⟩ := h; rfl)
    rw [hv]
    exact RL.one h

theorem oneCell_of_isCell {ρ : Val} {j : J} {a : AV} {v : Value} (h : R ρ j a v) (hc : isCell a = true) : v.oneCell' = true := by
  cases a <;> simp only [isCell] at hc <;> try (cases hc; done)
  all_goals
    simp only [R] at h
    first
      | (subst h; rfl)
      | (obtain ⟨_, _, rfl⟩ := h; rfl)
      | (obtain ⟨_, _, _, rfl⟩ := h; rfl)
      | (obtain ⟨_, rfl, _⟩ := h; rfl)
      | (obtain ⟨_, rfl⟩ := h; rfl)
      | (obtain ⟨_, _, rfl, _⟩ := h; rfl)
      | (obtain ⟨_, _, _, rfl, _⟩ := h; rfl)
theorem oneCells {ρ : Val} {j : J} : ∀ {l : List AV} {m : List Value}, RL ρ j l m → areCells l = true → ∀ v ∈ m, v.oneCell' = true
  | [], _, r, _ => by rw [show _ = [] from r]; simp
  | a :: l, _, r, h => by
    obtain ⟨v, m, rfl, x, y⟩ := r
    unfold areCells at h
    split at h
    · rename_i hc
      intro u hu
      rcases List.mem_cons.1 hu with rfl | hu
      · exact oneCell_of_isCell x hc
      · exact oneCells y h u hu
    · cases h

/-! ### The world as the run finds it, and what it may have become -/
structure Fr (w0 w : World) : Prop where
  os : w.os = w0.os
  out : w.output = w0.output
  tape : w.tape = w0.tape
  size : w0.heap.size ≤ w.heap.size
  old : ∀ i, i < w0.heap.size → w.heap[i]? = w0.heap[i]?

theorem Fr.below {w0 w : World} (h : Fr w0 w) : RowKit.Below w0.heap.size w0 w := ⟨h.os, h.tape, h.out, h.size, h.old⟩
theorem Fr.refl (w : World) : Fr w w := ⟨rfl, rfl, rfl, Nat.le_refl _, fun _ _ => rfl⟩
theorem Fr.trans {a b c : World} (h : Fr a b) (k : Fr b c) : Fr a c :=
  ⟨k.os.trans h.os, k.out.trans h.out, k.tape.trans h.tape, Nat.le_trans h.size k.size, fun i hi => (k.old i (Nat.lt_of_lt_of_le hi h.size)).trans (h.old i hi)⟩

/-- An entry of a map. -/
def RM (ρ : Val) (j : J) : List ME → List MapEntry → Prop
  | [], l => l = []
  | e :: l, m => ∃ x m', m = x :: m' ∧ R ρ j e.key x.key ∧ R ρ j e.val x.val ∧ x.born = e.born ∧ RM ρ j l m'
theorem RM.mono {ρ : Val} {j j' : J} (h : Sub j j') : ∀ {l : List ME} {m : List MapEntry}, RM ρ j l m → RM ρ j' l m
  | [], _, r => r
  | _ :: _, _, r => let ⟨x, m, e, a, b, c, d⟩ := r; ⟨x, m, e, a.mono h, b.mono h, c, RM.mono h d⟩

/-- An entry of a map, whenever it was born. -/
def RK (ρ : Val) (j : J) : List ME → List MapEntry → Prop
  | [], l => l = []
  | e :: l, m => ∃ x m', m = x :: m' ∧ R ρ j e.key x.key ∧ R ρ j e.val x.val ∧ RK ρ j l m'
theorem RK.mono {ρ : Val} {j j' : J} (h : Sub j j') : ∀ {l : List ME} {m : List MapEntry}, RK ρ j l m → RK ρ j' l m
  | [], _, r => r
  | _ :: _, _, r => let ⟨x, m, e, a, b, d⟩ := r; ⟨x, m, e, a.mono h, b.mono h, RK.mono h d⟩

def ObjR (ρ : Val) (j : J) (w0 w : World) (gw : T Nat) (L : Loc) : Obj → Prop
  | .cells v esz g closed _ own =>
    (if own = true then w0.heap.size ≤ L.blk else L.blk < w0.heap.size) ∧
    (alive gw g closed = true → ∃ arr e fr, w.heap[L.blk]? = some (.cells arr e fr) ∧ L.off + v.n ≤ arr.size ∧ (L.off + L.cap * esz ≤ arr.size ∧ (0 < L.cap → v.n ≤ L.cap * esz)) ∧
      ∀ i, i < v.n → ∃ x, arr[L.off + i]? = some x ∧ R ρ j (v.get i) x)
  | .map es clock => w0.heap.size ≤ L.blk ∧ L.off = 0 ∧ ∃ arr, w.heap[L.blk]? = some (.map arr clock) ∧ RM ρ j es arr.toList
  | .iter m since seen stepped => w0.heap.size ≤ L.blk ∧ L.off = 0 ∧ ∃ m' sa, w.heap[L.blk]? = some (.mapIter m' since sa stepped) ∧ sa.toList = seen ∧
      (match m with | none => m' = none | some n => ∃ Lm, j n = some Lm ∧ m' = some Lm.blk)
  | .mapu es => w0.heap.size ≤ L.blk ∧ L.off = 0 ∧ ∃ arr clock es', w.heap[L.blk]? = some (.map arr clock) ∧ es'.Perm es ∧ RK ρ j es' arr.toList

def Sep (H : Heap) (n m : Nat) (Ln Lm : Loc) : Prop :=
  ∃ vn en gn cn sn on vm em gm cm sm om, H.m.get n = some (.cells vn en gn cn sn on) ∧ H.m.get m = some (.cells vm em gm cm sm om) ∧ on = om ∧
    (on = true → gn = gm ∧ (alive H.gw gn cn = true → alive H.gw gm cm = true → cn = none → sn = true ∧ cm ≠ none ∧ Lm.off + vm.n ≤ Ln.off + vn.n))

structure Inv (ρ : Val) (w0 : World) (j : J) (H : Heap) (w : World) : Prop where
  fr : Fr w0 w
  dom : ∀ n L, j n = some L → n < H.nx
  blk : ∀ n L, j n = some L → L.blk < w.heap.size
  used : ∀ n o, H.m.get n = some o → n < H.nx
  obj : ∀ n L, j n = some L → ∃ o, H.m.get n = some o ∧ ObjR ρ j w0 w H.gw L o
  sep : ∀ n m Ln Lm, n ≠ m → j n = some Ln → j m = some Lm → Ln.blk = Lm.blk → Sep H n m Ln Lm
  tim : ∀ n v e g t sh ow, H.m.get n = some (.cells v e g (some t) sh ow) → t ≤ H.nx
  gwt : ∀ g x, H.gw.get g = some x → x ≤ H.nx
  grp : ∀ n L v e g c sh, j n = some L → H.m.get n = some (.cells v e g c sh true) → ∃ Lg, j g = some Lg
  fz : ∀ n L, j n = some L → w0.heap.size ≤ L.blk → ∀ c e fr, w.heap[L.blk]? = some (.cells c e fr) → fr = (0, 0)
  off0 : ∀ n L v e c sh, j n = some L → H.m.get n = some (.cells v e n c sh true) → L.off = 0

/-- From one state to a later one. -/
structure St (j : J) (H : Heap) (j' : J) (H' : Heap) : Prop where
  sub : Sub j j'
  fresh : ∀ n L, j' n = some L → j n = none → H.nx ≤ n
  keep : ∀ n, j n = none → n < H.nx → H'.m.get n = H.m.get n ∧ H'.gw.get n = H.gw.get n
  nx : H.nx ≤ H'.nx
theorem St.refl (j : J) (H : Heap) : St j H j H := ⟨Sub.refl j, (fun n L h h' => by rw [h] at h'; cases h'), fun _ _ _ => ⟨rfl, rfl⟩, Nat.le_refl _⟩
theorem St.trans {j j' j'' : J} {H H' H'' : Heap} (h : St j H j' H') (h' : St j' H' j'' H'') : St j H j'' H'' := by
  refine ⟨h.sub.trans h'.sub, fun n L e e0 => ?_, fun n e hn => ?_, Nat.le_trans h.nx h'.nx⟩
  · cases e1 : j' n with
    | none => exact Nat.le_trans h.nx (h'.fresh n L e e1)
    | some L' => exact h.fresh n L' e1 e0
  · have e1 : j' n = none := by
      cases e1 : j' n with
      | none => rfl
      | some L' => have := h.fresh n L' e1 e; omega
    have a := h.keep n e hn
    have b := h'.keep n e1 (Nat.lt_of_lt_of_le hn h.nx)
    exact ⟨b.1.trans a.1, b.2.trans a.2⟩

theorem Heap.alloc_eq (H : Heap) (o : Obj) : H.alloc o = ⟨H.m.set H.nx o, H.nx + 1, H.gw⟩ := by
  obtain ⟨m, nx, gw⟩ := H
  show (match m.set nx o with | .leaf => (⟨.leaf, nx + 1, gw⟩ : Heap) | .node a b c => forceN (nx + 1) fun x => ⟨.node a b c, x, gw⟩) = _
  cases m.set nx o <;> simp [forceN_eq]
theorem Heap.upd_eq (H : Heap) (n : Nat) (o : Obj) : H.upd n o = ⟨H.m.set n o, H.nx, H.gw⟩ := by
  obtain ⟨m, nx, gw⟩ := H
  show (match m.set n o with | .leaf => (⟨.leaf, nx, gw⟩ : Heap) | .node a b c => ⟨.node a b c, nx, gw⟩) = _
  cases m.set n o <;> rfl
theorem Heap.wrote_eq (H : Heap) (g : Nat) : H.wrote g = ⟨H.m, H.nx, H.gw.set g H.nx⟩ := rfl

end Go.Dw
