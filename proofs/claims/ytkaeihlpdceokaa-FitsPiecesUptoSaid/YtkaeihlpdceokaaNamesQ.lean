/- Contracts of the package names, and of the reference's names. -/
import Derived.Test.YtkaeihlpdceokaaBPL
import Derived.Test.YtkaeihlpdceokaaEscQ
set_option linter.unusedVariables false
set_option linter.unusedSimpArgs false
namespace Go.Proofs.Ytkaeihlpdceokaa
open Go.RowKit Bf
structure NamInv (s : List UInt8) (i j : Int) : Prop where
 i0 : i ≤ j
 j1 : j ≤ s.length
 eq : (namN (s.drop i.toNat) : Int) = j - i + sigL (s.drop j.toNat)
structure SgnInv (s : List UInt8) (i j n : Int) : Prop where
 i0 : i ≤ j
 j1 : j ≤ s.length
 nn : n = j - i
 eq : (namN (s.drop i.toNat) : Int) = n + (if n = 0 then namN (s.drop j.toNat) else sigL (s.drop j.toNat) : Nat)
end Go.Proofs.Ytkaeihlpdceokaa