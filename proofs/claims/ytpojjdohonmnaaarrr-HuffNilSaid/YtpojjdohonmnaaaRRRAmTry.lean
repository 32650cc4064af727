/-
  The program's own facts for the walks: each function has another name than the one that the machine treats apart; and what F19 (the check of a package's names) answers: true. No condition.
-/
import Derived.Test.YtpojjdohonmnaaaRRRAmSpec
import Derived.Test.YtpojjdohonmnaaaRRRProg
namespace Go.Am
open Go Go.Proofs

theorem tryOk : ProgOk Try.prog := ProgOk.of (by kernel_rfl) (by kernel_rfl)

set_option maxRecDepth 1000000 in
theorem walk19 : segF Try.prog [] 100000 19 {} [] [] 0 = .ret (.b true) [] 0 := by kernel_rfl

set_option maxRecDepth 1000000 in
theorem sp19 : SpOk Try.prog 19 (.pure yes) := spOk_yes tryOk (envOk_nil _) walk19

abbrev e19 : List (Nat × Sp) := [(19, .pure yes)]
set_option maxRecDepth 1000000 in
theorem e19Ok : EnvOk Try.prog e19 := (envOk_nil _).cons sp19

end Go.Am
