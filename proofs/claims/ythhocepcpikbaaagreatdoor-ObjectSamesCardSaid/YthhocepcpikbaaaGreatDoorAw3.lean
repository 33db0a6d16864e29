import Derived.Test.YthhocepcpikbaaaGreatDoorAwM
import Derived.KernelRfl
set_option maxRecDepth 100000
namespace Go.Tw
open Go.Proofs
theorem Awr4 : S22.fn (S22.env Awm4 20) 8 [.agg [.d (.s ⟨#[98]⟩), .nilsl, .row 4 0 0 1, .row 6 1 0 1]] [.cells 53 [.d (.s ⟨#[97]⟩), .d (.s ⟨#[102]⟩), .nilsl, .d (.i .i64 1)], .cells 73 [.d (.s ⟨#[109, 97, 105, 110]⟩), .d (.b true), .nilsl, .d (.i .i64 0), .d (.i .i64 1), .row 2 2 0 2], .cells 70 [.d (.i .i64 8), .d (.i .i64 0), .d (.i .i64 10), .d (.i .i64 0)]] = some ((.ret (.tup [.agg [.d (.i .i64 0), .d (.i .i64 0)], .d (.i .i64 0)])), [.cells 53 [.d (.s ⟨#[97]⟩), .d (.s ⟨#[102]⟩), .nilsl, .d (.i .i64 1)], .cells 73 [.d (.s ⟨#[109, 97, 105, 110]⟩), .d (.b true), .nilsl, .d (.i .i64 0), .d (.i .i64 1), .row 2 2 0 2], .cells 70 [.d (.i .i64 8), .d (.i .i64 0), .d (.i .i64 10), .d (.i .i64 0)]]) := by kernel_rfl
end Go.Tw
