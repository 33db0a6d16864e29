import Derived.Test.YthhocepcpikbaaaGreatDoorAwM
import Derived.KernelRfl
set_option maxRecDepth 100000
namespace Go.Tw
open Go.Proofs
theorem Awr3 : S22.fn (S22.env Awm3 20) 8 [.agg [.d (.s ⟨#[97]⟩), .row 4 0 0 1, .nilsl, .row 6 1 0 1]] [.cells 75 [.d (.i .i64 1), .d (.i .i64 7), .d (.b false), .d (.s ⟨#[]⟩)], .cells 73 [.d (.s ⟨#[102]⟩), .d (.b true), .nilsl, .d (.i .i64 0), .d (.i .i64 1), .row 2 2 0 2], .cells 70 [.d (.i .i64 1), .d (.i .i64 0), .d (.i .i64 10), .d (.i .i64 0)]] = some ((.ret (.tup [.agg [.d (.i .i64 0), .d (.i .i64 0)], .d (.i .i64 0)])), [.cells 75 [.d (.i .i64 1), .d (.i .i64 7), .d (.b false), .d (.s ⟨#[]⟩)], .cells 73 [.d (.s ⟨#[102]⟩), .d (.b true), .nilsl, .d (.i .i64 0), .d (.i .i64 1), .row 2 2 0 2], .cells 70 [.d (.i .i64 1), .d (.i .i64 0), .d (.i .i64 10), .d (.i .i64 0)]]) := by kernel_rfl
end Go.Tw
