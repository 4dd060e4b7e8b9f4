/- This seat's numbers: errors of package api as values; the byte type's row. -/
import Derived.Test.YteiicekadcihcaaProg
import Derived.Test.YteiicekadcihcaaBase
import Derived.Deep.QuietTactic
import Derived.BigQuiet
import Derived.Deep.CutBlock
import Derived.Deep.DeepCutAuto
namespace Fb
open Go Go.Proofs Go.RowKit
/-- An error, by its number (0: none). -/
def errV (n : Nat) : Value := if n = 0 then .nilIface else .iface 45 (.int .i64 n)
theorem errV_zero : errV 0 = .nilIface := rfl
theorem errV_pos {n : Nat} (h : n ≠ 0) : errV n = .iface 45 (.int .i64 n) := by unfold errV; rw [if_neg h]
theorem info_u8 : (Try.prog.info? 5).map (fun i => (i.zero, i.size, i.bytes)) = some (some (.int .u8 0), 1, 1) := by kernel_rfl
/-- 'e, is := err.(api.Errno)' of an api.Errno -/
theorem assert_ok (n : Int) (w : World) : (Instr.typeAssert (.iface 45 (.int .i64 n)) 27 45 true).run Try.prog w = .ok (.tuple #[.int .i64 n, .bool true]) w := by kernel_rfl
end Fb
