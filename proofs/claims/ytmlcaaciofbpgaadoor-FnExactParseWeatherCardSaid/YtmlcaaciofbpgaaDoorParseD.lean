/- What ParseWeather gives, as a post; no conditions. -/
import Derived.Test.YtmlcaaciofbpgaaDoorWeaRead
namespace Go.Proofs.YtmlcaaciofbpgaaDoor
open Go.RowKit

def zeroW : List Value := [.int .i64 0, .int .i64 0, .int .i64 0, .int .i64 0, .bool false]
def WeaP (p : Wea × Bool) (w : World) (e : Ending) (w' : World) : Prop := e = .returned (.tuple #[.agg #[.int .i64 p.1.m, .int .i64 p.1.wi, .int .i64 p.1.f, .int .i64 p.1.d, .bool p.1.s], .bool p.2]) ∧ Below w.heap.size w w'
theorem retW {p : Wea × Bool} {x : Wea} {b : Bool} (h : p = (x, b)) : Ending.returned (.tuple #[.agg #[.int .i64 x.m, .int .i64 x.wi, .int .i64 x.f, .int .i64 x.d, .bool x.s], .bool b]) = .returned (.tuple #[.agg #[.int .i64 p.1.m, .int .i64 p.1.wi, .int .i64 p.1.f, .int .i64 p.1.d, .bool p.1.s], .bool p.2]) := by rw [h]
theorem size_list (x : ByteArray) : x.size = x.data.toList.length := by simp
end Go.Proofs.YtmlcaaciofbpgaaDoor
