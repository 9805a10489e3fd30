/- Package wide: Quo, Mod, Uint64, Exp, of numbers from 0 on. · Package wide: Exp. -/
import Derived.Test.YtbddlbhanpjdnaaGreatDoorWideG
import Derived.Test.YtbddlbhanpjdnaaGreatDoorNatC
import Derived.Test.YtbddlbhanpjdnaaGreatDoorAngA
import Derived.Deep.CutRange
namespace Go.Proofs.YtbddlbhanpjdnaaGreatDoor
open Go.RowKit Go.Sort

theorem and_one_u64 (n : Nat) (h : n < 18446744073709551616) : bits .and .u64 (n : Int) 1 = ((n % 2 : Nat) : Int) := by
  have e1 : (BitVec.ofInt 64 (n : Int)).toNat = n := by
    rw [BitVec.ofInt_natCast, BitVec.toNat_ofNat]
    exact Nat.mod_eq_of_lt (by omega)
  show IntKind.u64.wrap ((BitVec.ofInt 64 (n : Int) &&& BitVec.ofInt 64 1).toNat : Int) = _
  rw [BitVec.toNat_and, e1, show (BitVec.ofInt 64 1).toNat = 1 by decide, Nat.and_one_is_mod, IntKind.wrap_u64]
  omega

end Go.Proofs.YtbddlbhanpjdnaaGreatDoor

namespace Go.Proofs.YtbddlbhanpjdnaaGreatDoor
open Go.RowKit Go.Sort

theorem one_le_pow' {b m : Nat} (h : 1 ≤ b) : 1 ≤ b ^ m := Nat.one_le_iff_ne_zero.2 (Nat.ne_of_gt (Nat.pow_pos h))

end Go.Proofs.YtbddlbhanpjdnaaGreatDoor
