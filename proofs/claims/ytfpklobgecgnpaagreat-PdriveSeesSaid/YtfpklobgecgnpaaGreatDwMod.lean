/-
  DwMod: a number by its remainder modulo a power of two.
-/
import Derived.Test.YtfpklobgecgnpaaGreatDwPick
namespace Go.Dw
set_option linter.unusedSimpArgs false
set_option linter.unusedVariables false

theorem R_mod {ρ : Val} {j : J} {k : IntKind} {i hi n s c : Nat} {x : Int} (hx : ρ.i i = x / (2 ^ s : Nat)) (h0 : 0 ≤ x) (h1 : x / (2 ^ s : Nat) ≤ hi) (hc : x % (2 ^ s : Nat) = c) (h2 : hi < 2 ^ n) (h3 : c < 2 ^ s) : R ρ j (.int k (.flds [⟨i, 0, hi, 0, n, s⟩] c)) (.int k x) := by
  show Value.int k x = Value.int k (Int.ofNat (fldsDen ρ [⟨i, 0, hi, 0, n, s⟩] c))
  have hy : 0 ≤ x / (2 ^ s : Nat) := Int.ediv_nonneg h0 (by exact Int.natCast_nonneg _)
  have e : fldsDen ρ [⟨i, 0, hi, 0, n, s⟩] c = 2 ^ s * (x / (2 ^ s : Nat)).toNat + c := by
    show Fld.den ρ ⟨i, 0, hi, 0, n, s⟩ ||| c = _
    unfold Fld.den
    simp only [Nat.shiftRight_zero, hx]
    have : max 0 (min (x / (2 ^ s : Nat)).toNat hi) = (x / (2 ^ s : Nat)).toNat := by omega
    rw [this, Nat.mod_eq_of_lt (by omega), Nat.shiftLeft_eq, Nat.mul_comm, ← Nat.two_pow_add_eq_or_of_lt h3]
  rw [e]
  congr 1
  have hd := Int.mul_ediv_add_emod x (2 ^ s : Nat)
  rw [hc] at hd
  have hn : ((x / (2 ^ s : Nat)).toNat : Int) = x / (2 ^ s : Nat) := Int.toNat_of_nonneg hy
  simp only [Int.ofNat_eq_natCast, Int.natCast_add, Int.natCast_mul, hn]
  omega

end Go.Dw
