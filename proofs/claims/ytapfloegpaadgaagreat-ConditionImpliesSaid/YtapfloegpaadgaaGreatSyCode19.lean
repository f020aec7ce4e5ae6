import Derived.Test.YtapfloegpaadgaaGreatSyTab19
namespace Go.Sy
open Go.Proofs
theorem codes_eq : Tryz.prog.funcs.toList.all funcOK = true := by decide +kernel
theorem seat_ok : SeatOK Tryz.prog tb := seat_of types_eq funcs_eq mixed_eq names_eq fields_eq eqs_ok codes_eq spec_ok
end Go.Sy
