/- objects.Check returns what the plain law says. Condition: few pixels. flickerbooktop.objectFine returns what the plain law says. Conditions: none. -/
import Derived.Test.YtgkemeclpidmcaaPicCheck
import Derived.Test.YtgkemeclpidmcaaObjFault
namespace Fb
open Go Go.Proofs Go.RowKit
theorem ret_val {n m : Nat} (h : n = m) : Ending.returned (errV n) = .returned (errV m) := by rw [h]
end Fb
namespace Fb
open Go Go.Proofs Go.RowKit
abbrev objV (r : FAt FObj) : Value := .agg #[.int .i64 r.x.id, .int .i64 r.x.x, .int .i64 r.x.y, .int .i64 r.x.pic.w, .int .i64 r.x.pic.h, .slice r.A r.n r.c, .int .i64 r.x.clip.x, .int .i64 r.x.clip.y, .int .i64 r.x.clip.w, .int .i64 r.x.clip.h, .bool r.x.shown]
def fineB (r : FAt FObj) : Bool := decide (r.n ≤ 80) && decide (objFault r.x = 0)
theorem fineB_fault {r : FAt FObj} (h : fineB r = true) : objFault r.x = 0 := by unfold fineB at h; simp at h; exact h.2
theorem fineB_few {r : FAt FObj} (h : fineB r = true) : r.n ≤ 80 := by unfold fineB at h; simp at h; exact h.1
theorem fineB_no {r : FAt FObj} (h : ¬ r.n ≤ 80) : fineB r = false := by unfold fineB; simp; omega
theorem fineB_bad {r : FAt FObj} (h : r.n ≤ 80) (h2 : objFault r.x ≠ 0) : fineB r = false := by unfold fineB; simp [h, h2]
theorem fineB_ok {r : FAt FObj} (h : r.n ≤ 80) (h2 : objFault r.x = 0) : fineB r = true := by unfold fineB; simp [h, h2]
end Fb
