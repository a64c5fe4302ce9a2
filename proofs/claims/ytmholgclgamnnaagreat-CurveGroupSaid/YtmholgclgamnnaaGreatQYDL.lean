import Derived.Test.YtmholgclgamnnaaGreatQYCB
import Derived.Test.YtmholgclgamnnaaGreatQYGG
import Derived.Test.YtmholgclgamnnaaGreatQYDB
section
set_option linter.unusedSectionVars false
set_option linter.unusedVariables false
set_option linter.unusedSimpArgs false
namespace Gp
open Cv NT
section
variable {p : Nat} [NeZero p]
theorem one_ne0 (h2 : 2 < p) : (1 : Fin p) ≠ 0 := fun h => by
  have := congrArg Fin.val h
  rw [val_one, val_zero, Nat.mod_eq_of_lt (by omega)] at this
  omega
theorem two_ne0 (h2 : 2 < p) : (1 : Fin p) + 1 ≠ 0 := fun h => by
  have := congrArg Fin.val h
  rw [Fin.val_add, val_one, val_zero, Nat.mod_eq_of_lt (show 1 < p by omega), Nat.mod_eq_of_lt (show 1 + 1 < p by omega)] at this
  omega
theorem fd1 (hp : Pr p) (h2 : 2 < p) : Fd (ops1 (inv1 (p := p))) where
  cr :=
    { add_comm := fun a b => show a + b = b + a by grind
      add_assoc := fun a b c => show a + b + c = a + (b + c) by grind
      zero_add := fun a => show 0 + a = a by grind
      sub_add := fun a b => show a - b + b = a by grind
      mul_comm := fun a b => show a * b = b * a by grind
      mul_assoc := fun a b c => show a * b * c = a * (b * c) by grind
      one_mul := fun a => show 1 * a = a by grind
      mul_add := fun a b c => show a * (b + c) = a * b + a * c by grind }
  inv := fun a h => inv1_ok hp h2 a h
  ne := one_ne0 h2
  two := two_ne0 h2
end
end Gp
end
section
set_option linter.unusedVariables false
set_option linter.unusedSectionVars false
set_option linter.unusedSimpArgs false
namespace Go.Proofs.YtmholgclgamnnaaGreat
open Go Eng
set_option maxRecDepth 100000
set_option exponentiation.threshold 2000
set_option maxHeartbeats 4000000
theorem eqP16 {A : Ar} (hA : A = Ar.real) {H : H5} (x : Nat) (y : Nat) (inf : Bool) : A.eqs [(.s .u64 (H.lim x 0), .s .u64 (H.lim x 0)), (.s .u64 (H.lim x 1), .s .u64 (H.lim x 1)), (.s .u64 (H.lim x 2), .s .u64 (H.lim x 2)), (.s .u64 (H.lim x 3), .s .u64 (H.lim x 3)), (.s .u64 (H.lim x 4), .s .u64 (H.lim x 4)), (.s .u64 (H.lim x 5), .s .u64 (H.lim x 5)), (.s .u64 (H.lim y 0), .s .u64 (H.lim y 0)), (.s .u64 (H.lim y 1), .s .u64 (H.lim y 1)), (.s .u64 (H.lim y 2), .s .u64 (H.lim y 2)), (.s .u64 (H.lim y 3), .s .u64 (H.lim y 3)), (.s .u64 (H.lim y 4), .s .u64 (H.lim y 4)), (.s .u64 (H.lim y 5), .s .u64 (H.lim y 5)), (.sb inf, .sb inf)] = true := by
  have hs : ∀ x : Int, leafEq (.s .u64 x, .s .u64 x) = true := fun x => beq_self_eq_true x
  have hb : leafEq (.sb inf, .sb inf) = true := by cases inf <;> rfl
  rw [eqs_real hA]
  simp only [List.all_cons, List.all_nil, hs, hb, Bool.and_self]
end Go.Proofs.YtmholgclgamnnaaGreat
end
